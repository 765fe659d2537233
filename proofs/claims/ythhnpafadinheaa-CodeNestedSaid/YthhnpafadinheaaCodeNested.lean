/- CodeNested: a list of lists is read as it was laid. Conditions: none. -/
import Derived.Test.YthhnpafadinheaaRows
import Derived.WalkKit
import Derived.ProofKit
import Derived.OpenShut
import Derived.ShutString
import Derived.ChangeOld
import Derived.Below
import Derived.Test.YthhnpafadinheaaCodeA
import Derived.Test.YthhnpafadinheaaCodeNest
import Derived.Test.YthhnpafadinheaaTexts
import Derived.Test.YthhnpafadinheaaDec
import Derived.Deep.QuietTactic
namespace Go.Proofs.Ythhnpafadinheaa
open Go.ChangeShapes Go.WideShapes Go.ChangeAt Go.RowKit
open Go.ChangeMaps (open_string shut_string)
set_option linter.unusedVariables false

theorem law_own : ownKnob Try.prog.godebug = none := by kernel_rfl
theorem law_laid : laidOutB Try.prog = true := by kernel_rfl

/-- Lists of texts that came in. -/
theorem lists_of_readable {H : Type} {enc : TypeId × Value → H} {W : World} {cs : List Value} (h : Readable enc Try.prog W 62 cs) :
    ∃ (v : Value) (xs : List TL), cs = [v] ∧ Rd W v xs.length (xs.map Prod.fst) ∧ xs.length ≤ maxLen ∧ ∀ x ∈ xs, Rd W x.1 x.2.length (x.2.map Value.string) ∧ x.2.length ≤ maxLen ∧ ∀ s ∈ x.2, s.size ≤ maxLen := by
  obtain ⟨v, n, css, rfl, hr, hl, hm, hc, hb⟩ := h.slice Try.underlying62 (k := 1) (by kernel_rfl) (by decide)
  obtain ⟨xs, rfl, hx⟩ := exists_map (f := fun x : TL => [x.1]) (p := fun x => Rd W x.1 x.2.length (x.2.map Value.string) ∧ x.2.length ≤ maxLen ∧ ∀ s ∈ x.2, s.size ≤ maxLen) (l := css) (fun c hcc => by
    obtain ⟨v, ss, rfl, h1, h2, h3, -⟩ := (hc c hcc).2.strings Try.underlying50 Try.underlying9 (by kernel_rfl)
    exact ⟨(v, ss), rfl, h1, h2, h3⟩)
  rw [flatten_single] at hr
  simp only [List.length_map] at hl
  subst hl
  exact ⟨v, xs, rfl, hr, hm, hx⟩

theorem rd_at {w : World} {ao : Option Addr} {n c : Nat} {cs : List Value} (h : Rd w (.slice ao n c) n cs) (hn : 0 < n) : ∃ b off, ao = some ⟨b, off, none⟩ ∧ CellsAt w b off cs := by
  obtain ⟨ao', cap, e, -, h⟩ := h.shape
  cases e
  exact h hn

set_option maxHeartbeats 4000000 in
set_option maxRecDepth 100000 in
theorem CodeNested_walk {H : Type} {enc : TypeId × Value → H} (W : World) (a0 : Option Addr) (n0 c0 : Nat) (hv : Readable enc Try.prog W 62 [.slice a0 n0 c0]) :
    Calls Try.prog 10 #[.slice a0 n0 c0] W fun e W' => e = .returned (.bool true) ∧ Below W.heap.size W W' := by
  obtain ⟨v', xs, hv', hr, hm, hx⟩ := lists_of_readable hv
  obtain rfl : .slice a0 n0 c0 = v' := by simpa using hv'
  obtain ⟨ao, cap, e, -, -⟩ := hr.shape
  cases e
  have HR := hide hr
  have HX := hide hx
  unfold maxLen at hm
  clear hr hv hv' hx
  by_cases hl : 6 < xs.length
  · go_enter Try.func10, Try.ntmps10
    go_wp2_with fail
    refine (awake15 _).mono ?_
    rintro e w3 ⟨rfl, hb3⟩
    have HB3 := hide hb3
    clear hb3
    go_wp2_with fail
    go_ret
    exact ⟨rfl, HB3.out⟩
  · go_enter Try.func10, Try.ntmps10
    go_wp2_with fail
    go_loop [3] (fun i => ∃ k : Nat, k ≤ xs.length ∧ i = .int .i64 k ∧ Hid (∀ j (hj : j < xs.length), j < k → TextsOk 6 30 xs[j].2)) (fun i => xs.length - (intOf i).toNat)
    case atStart => exact ⟨0, by omega, rfl, by rw [Hid]; omega⟩
    case round =>
      obtain ⟨k, hk, rfl, HALL⟩ := hrel
      by_cases hlt : k < xs.length
      · obtain ⟨b, off, rfl, hcs⟩ := rd_at HR.out (by omega)
        have hcx := hcs k xs[k].1 (by simp [hlt])
        obtain ⟨hx1, hx2, hx3⟩ := HX.out xs[k] (List.getElem_mem hlt)
        by_cases hok : TextsOk 6 30 xs[k].2
        · have hg := GreatTexts_no W xs[k].1 xs[k].2 6 30 hx1 hok (by decide)
          have HG := hide hg
          have HOK := hide hok
          clear hcs hx1 hx2 hx3 hg hok
          go_wp2_with fail
          refine HG.out.mono ?_
          rintro e W ⟨rfl, rfl⟩
          go_wp2_with fail
          go_round
          case rel =>
            refine ⟨k + 1, by omega, by go_num, fun j hj hjk => ?_⟩
            by_cases e : j = k
            · subst e; exact HOK.out
            · exact HALL.out j hj (by omega)
          case measure => simp [intOf]; omega
        · have hg := GreatTexts_yes W xs[k].1 xs[k].2 6 30 hx1 hok (by decide) (by unfold maxLen at hx2; omega) (fun s hs => by have := hx3 s hs; unfold maxLen at this; omega)
          have HG := hide hg
          clear hcs hx1 hx2 hx3 hg hok
          go_wp2_with fail
          refine HG.out.mono ?_
          rintro e W ⟨rfl, rfl⟩
          go_wp2_with fail
          refine (awake15 _).mono ?_
          rintro e w3 ⟨rfl, hb3⟩
          have HB3 := hide hb3
          clear hb3
          go_wp2_with fail
          go_ret
          exact ⟨rfl, HB3.out⟩
      · obtain rfl : k = xs.length := by omega
        have HOK : Hid (∀ x ∈ xs, TextsOk 6 30 x.2) := fun x hx => by
          obtain ⟨j, hj, rfl⟩ := List.getElem_of_mem hx
          exact HALL.out j hj hj
        obtain ⟨zs, hzs⟩ : ∃ zs, zs = [] ++ (num8 (xs.length : Int) ++ xs.flatMap tlb) := ⟨_, rfl⟩
        have HZ := hide hzs
        have hM : ∀ x ∈ xs, (tlb x).length ≤ 236 := fun x hx => by
          have h1 := HOK.out x hx
          have h2 := txts_le x.2 30 h1.2
          have h3 := h1.1
          rw [tlb, List.length_append, num8_length]
          omega
        have HM := hide hM
        clear hM hzs HALL
        go_wp2_with fail
        refine (code_List_L Prod.fst tlb W _ _ [] xs zs HZ.out (Rd.nil W) HR.out (fun x hx => by
            obtain ⟨ao, cap, e, -, -⟩ := (HX.out x hx).1.shape
            rw [e]; rfl) 236 HM.out (by simp; omega) (by omega)
          (fun W' v c x hb hx hr hc => layAll_ok W' v c x hr ((HX.out x hx).1.chg (Chg.of_below0 (S := fun _ => False) hb) (fun _ _ _ h => h)) (by have := (HOK.out x hx).1; omega) 30 (HOK.out x hx).2 (by have := (HOK.out x hx).1; omega))).mono ?_
        rintro e w1 ⟨ax, cx, rfl, hox, hb1⟩
        have OX := hide hox
        have B1 := hide hb1
        clear hox hb1
        go_wp2_with fail
        obtain ⟨L, hL⟩ : ∃ L : List (List ByteArray), L = xs.map Prod.snd := ⟨_, rfl⟩
        have hLl : L.length = xs.length := by rw [hL]; simp
        have hzL : zs = [] ++ (num8 (L.length : Int) ++ (lls L ++ [])) := by
          rw [HZ.out, hLl, hL]
          simp [lls, List.flatMap_map]
          rfl
        have hz0 : hd [] L L.length = zs := by rw [hzL, hd, List.take_length]; simp
        have hzl : zs.length ≤ 2000 := by
          have hf : ∀ ys : List TL, (∀ x ∈ ys, (tlb x).length ≤ 236) → (ys.flatMap tlb).length ≤ ys.length * 236 := by
            intro ys
            induction ys with
            | nil => intro _; simp
            | cons y ys ih =>
              intro h
              have h1 := h y (by simp)
              have h2 := ih (fun x hx => h x (by simp [hx]))
              rw [List.flatMap_cons, List.length_append, List.length_cons, Nat.add_mul, Nat.one_mul]
              omega
          have h1 := hf xs HM.out
          rw [HZ.out, List.nil_append, List.length_append, num8_length]
          omega
        have h := code_ReadList_L w1 _ zs [] [] L 6 hzL (Rd.of_owns OX.out) (by omega) (by omega) (by omega) (fun l hl => by
          rw [hL] at hl
          obtain ⟨x, hx, rfl⟩ := List.mem_map.1 hl
          exact ⟨(HOK.out x hx).1, fun s hs => Nat.le_trans ((HOK.out x hx).2 s hs) (by decide)⟩)
        rw [hz0, hLl] at h
        have H := hide h
        have HL := hide hL
        have HLL := hide hLl
        clear h hL hLl hzL hz0
        refine H.out.mono ?_
        rintro e w2 ⟨v, rfl, ⟨al, cl, vs, rfl, ho, hvs⟩, hb2⟩
        have HO := hide ho
        have HVS := hide hvs
        have B2 := hide (B1.out.trans (hb2.mono B1.out.size))
        clear ho hvs hb2 H
        go_wp2_with fail
        go_loopw [8] (fun i wr => ∃ k : Nat, k ≤ xs.length ∧ i = .int .i64 k ∧ Hid (∃ m, wr = w2.drewN m)) (fun i _ => xs.length - (intOf i).toNat)
        case atStart => exact ⟨0, by omega, rfl, 0, rfl⟩
        case round =>
          obtain ⟨k, hk, rfl, HM2⟩ := hrel
          have hc2 : Chg (fun _ => False) w2 wr := by
            obtain ⟨m, e⟩ := HM2.out
            rw [e]
            exact Chg.drewN _ _ _
          have BW := hide (B2.out.trans (hc2.below B2.out.size (fun _ _ h => h)))
          by_cases hlt : k < xs.length
          · have hkL : k < L.length := by have := HLL.out; omega
            have hLk : ∀ (h : k < L.length), L[k] = xs[k].2 := by rw [HL.out]; intro h; simp
            obtain ⟨u, hu1, hu2⟩ := HVS.out k hkL hlt
            rw [hLk] at hu2
            obtain ⟨g, go, rfl, hcs⟩ := rd_at (Rd.of_owns HO.out) (by omega)
            have hcu := hc2.cell (hcs k u hu1) (fun h => h)
            obtain ⟨b, off, rfl, hds⟩ := rd_at HR.out (by omega)
            have hcx := (Chg.of_below0 (S := fun _ => False) BW.out).cell (hds k xs[k].1 (by simp [hlt])) (fun h => h)
            have HU := hide ((Rd.of_owns hu2).chg hc2 (fun _ _ _ h => h))
            have HXX := hide ((HX.out xs[k] (List.getElem_mem hlt)).1.chg (Chg.of_below0 (S := fun _ => False) BW.out) (fun _ _ _ h => h))
            have HLEN : Hid (xs[k].2.length ≤ 140737488351232) := hide (by have := (HOK.out xs[k] (List.getElem_mem hlt)).1; omega)
            clear hcs hds hu1 hu2 hLk hkL hc2
            go_wp2_with fail
            go_quiet ((go_at_call 43; exact Calls.quiet_of (SameTexts_refl _ u xs[k].1 xs[k].2 (by exact HU.out) (by exact HXX.out) HLEN.out)))
            go_wp2_with fail
            go_roundw
            case rel => exact ⟨k + 1, by omega, by go_num, by obtain ⟨m, e⟩ := HM2.out; exact ⟨m + nq, by rw [e]; simp⟩⟩
            case measure => simp [intOf]; omega
          · go_wp2_with fail
            refine (awake15 _).mono ?_
            rintro e w8 ⟨rfl, hb8⟩
            have HB8 := hide hb8
            clear hb8
            go_wp2_with fail
            go_ret
            exact ⟨rfl, BW.out.trans (HB8.out.mono BW.out.size)⟩

set_option maxRecDepth 100000 in
theorem CodeNested_lifted (os : Os) (started : os.Started) (H : Type) (enc : TypeId × Value → H) :
    ReturnsInHanded {} Try.checked os 10 .any (Rows.codeNestedSpec.pre6 enc Try.prog Try.f10 Rows.codeNestedRow.domain false) (Rows.codeNestedSpec.post enc Try.prog Try.f10 false true false false) := by
  refine returnsInHanded_of_change (C := Try.checked) law_own started (by kernel_rfl) Try.func10
    (ChangeSpec.witness6 (enc := enc) (C := Try.checked) false ⟨#[], #[.slice none 0 0], []⟩ 8 (by kernel_rfl) (by kernel_rfl) (by kernel_rfl) (by kernel_rfl)) ?_
  intro W base args ds gs before hval0 hW hcnd _
  have hval : ∀ (j : Nat) t v, Try.f10.params[j]? = some t → args[j]? = some v → Value.okWide Try.prog W .any base t v := hval0
  have hW' := hW
  obtain ⟨p, q, hA0, hV, rfl, hfz, hnd⟩ := hW
  have hA : DataW.TrodAll enc Try.prog W 0 (fun _ => true) true Try.f10.params.toList args.toList ds p := hA0
  rw [Try.params10] at hA hval
  obtain ⟨v0, vs0, d0, ds0, p0, q0, hargs, rfl, rfl, h0, r0⟩ := trodAll_cons hA
  obtain ⟨rfl, rfl, rfl⟩ := trodAll_nil r0
  obtain rfl : args = #[v0] := by cases args; simp_all
  obtain ⟨rfl, rfl⟩ := trodVars_none hV
  have k0 := h0
  have lt0 : ∀ x ∈ p0, x.block < W.heap.size := by obtain ⟨m, hm⟩ := k0; exact DataW.trod_lt m _ _ _ hm
  obtain ⟨a0, len0, cap0, rfl⟩ := okWide_slice Try.underlying62 (hval 0 62 v0 rfl rfl)
  clear hA0 hval0
  refine (CodeNested_walk (enc := enc) W a0 len0 cap0 (Readable.of_trod h0)).mono fun e W' ⟨he, bel⟩ => ?_
  subst he
  exact ⟨_, rfl, _, _, _, [], _, [], hW', trodAll_mk1 (shut_bool Try.underlying4 _), (trodAll_cons_mk (Below.trod law_laid (by kernel_rfl) (of_decide_eq_true (by kernel_rfl)) k0 bel lt0) trodAll_mk0), rfl, bel.frame _, fun h => by cases h⟩

theorem CodeNested_over : Rows.codeNestedRow.holds Try.pinned (OpenSpec.ofChange Rows.codeNestedSpec) :=
  OpenClaim.holds_of_wide 10 Try.f10 rfl rfl rfl rfl rfl rfl rfl ⟨rfl, rfl, rfl, rfl, rfl⟩ rfl rfl rfl rfl rfl (by kernel_rfl) Try.func10 (by kernel_rfl)
    (of_decide_eq_true (by kernel_rfl)) (by unfold Func.isWrapper; first | (rw [if_pos (by decide +kernel)]; kernel_rfl) | (rw [if_neg (by decide +kernel)]; exact ⟨rfl, rfl⟩))
    (fun os started H enc _ => CodeNested_lifted os started H enc)

theorem CodeNested_holds : Rows.CodeNestedSaid := CodeNested_over
#print axioms CodeNested_holds

end Go.Proofs.Ythhnpafadinheaa
