/- DiskKeeps: what was synced is there behind any crash, and of the rest a beginning. Conditions: none. -/
import Derived.Test.YthhnpafadinheaaRows
import Derived.WalkKit
import Derived.ProofKit
import Derived.OpenShut
import Derived.ShutString
import Derived.ChangeOld
import Derived.Below
import Derived.Test.YthhnpafadinheaaDiskB
namespace Go.Proofs.Ythhnpafadinheaa
open Go.ChangeShapes Go.WideShapes Go.ChangeAt Go.RowKit
open Go.ChangeMaps (open_string shut_string)
set_option linter.unusedVariables false

theorem law_own : ownKnob Try.prog.godebug = none := by kernel_rfl
theorem law_laid : laidOutB Try.prog = true := by kernel_rfl

/-- Between two acts: all that the disk has is synced, and 'sure' reads so. -/
def KeepsRel (n0 p : Nat) (W : World) (k : Nat) (vs : Value) (m : Nat) (wr : World) : Prop :=
  ∃ ao cap bs, m = bs.length ∧ BufAt 69 n0 wr p ao cap bs bs.length ∧ Rd wr vs bs.length (u8s bs) ∧ (∀ b, vs.ownBlock = some b → ¬ BufSet p ao b ∧ b < wr.heap.size) ∧ bs.length ≤ 60 * k ∧ Below n0 W wr

theorem kept_ge (n l : Nat) (keep : Int) : n ≤ kept n l keep := by unfold kept; omega

set_option maxHeartbeats 2000000 in
theorem DiskKeeps_walk {H : Type} {enc : TypeId × Value → H} (W : World) (a0 : Option Addr) (n0 c0 : Nat) (hv : Readable enc Try.prog W 22 [.slice a0 n0 c0]) : Calls Try.prog 4 #[.slice a0 n0 c0] W fun e W' => e = .returned (.bool true) ∧ Below W.heap.size W W' := by
  obtain ⟨v', acts, hv', hA⟩ := acts_of_readable hv
  obtain rfl : .slice a0 n0 c0 = v' := by simpa using hv'
  obtain ⟨ao, cap, e, -, -⟩ := hA.1.shape
  cases e
  have HA := hide hA
  clear hA hv hv'
  by_cases hok : ActsOk 40 acts
  · have hl40 := hok.1
    have HK := hide hok
    clear hok
    go_enter Try.func4, Try.ntmps4
    go_wp2_with fail
    refine (great_no W _ acts 40 HA.out HK.out (by decide)).mono ?_
    rintro e w1 ⟨rfl, rfl⟩
    go_wp2_with fail
    refine (disk_New w1).mono ?_
    rintro e w2 ⟨rfl, hd, hb⟩
    have HR : Hid (KeepsRel w1.heap.size w1.heap.size w1 0 (.slice none 0 0) 0 w2) := ⟨none, 0, [], rfl, hd, Rd.nil _, (fun b h => by cases h), by simp, hb⟩
    clear hd hb
    go_wp2_with fail
    go_loopw [4, 5] (fun vs i wr => ∃ (k m cs : Nat) (sa : Option Addr), k ≤ acts.length ∧ i = .int .i64 k ∧ vs = .slice sa m cs ∧ Hid (KeepsRel w1.heap.size w1.heap.size w1 k (.slice sa m cs) m wr)) (fun _ i _ => acts.length - (intOf i).toNat)
    case atStart => exact ⟨0, 0, 0, none, by omega, rfl, rfl, HR⟩
    case round =>
      obtain ⟨k, m, cs, sa, hk, rfl, rfl, HK1⟩ := hrel
      by_cases hlt : k < acts.length
      · obtain ⟨aor, capr, bs, rfl, hd, hr, hs, hl, hb⟩ := HK1.out
        have HD := hide hd
        have HRd := hide hr
        have HS := hide hs
        have HB := hide hb
        have HL := hide hl
        have hx60 := HK.out.2 acts[k] (List.getElem_mem hlt)
        obtain ⟨b, off, cap', e, g0, g1, g2⟩ := (HA.out.below hb).get k hlt
        cases e
        have HX := hide ((HA.out.below hb).2.2.1 acts[k] (List.getElem_mem hlt)).1
        clear hd hr hs hb hl HK1
        go_wp2_with fail
        refine (disk_Append _ _ _ _ _ _ _ _ HD.out HX.out (by have := HL.out; omega)).mono ?_
        rintro e w3 ⟨rfl, ao3, cap3, hd, hc, hs⟩
        generalize hbs : bs ++ acts[k].b = bs1 at hd
        have hb1 : bs1.length ≤ 60 * (k + 1) ∧ bs.length ≤ bs1.length := by rw [← hbs]; have := HL.out; simp; omega
        have HB1 := hide hb1
        have hb40 : bs1.length ≤ 2400 := by omega
        clear hbs hb1
        have HD3 := hide hd
        have HB3 := hide (HB.out.trans (hc.below HB.out.size (fun j hj e => by have := HD.out.lt j e; omega)))
        have HR3 := hide (HRd.out.chg hc (fun b e _ => (HS.out b e).1))
        have HS3 : Hid (∀ b, (Value.slice sa bs.length cs).ownBlock = some b → ¬ BufSet w1.heap.size ao3 b ∧ b < w3.heap.size) := fun b e => ⟨fun h => (by rcases hs b h with h | h; exact (HS.out b e).1 h; have := (HS.out b e).2; omega), by have := (HS.out b e).2; have := hc.size; omega⟩
        clear hd hc hs
        go_wp2_with fail
        refine (disk_Bytes _ _ _ _ _ _ HD3.out).mono ?_
        rintro e w4 ⟨ao4, cap4, rfl, ho, hb⟩
        have HO4 := hide ho
        have HD4 := hide (HD3.out.chg (Chg.of_below0 (S := fun _ => False) hb) (fun _ _ h => h))
        have HB4 := hide (HB3.out.trans (hb.mono HB3.out.size))
        have HR4 := hide (HR3.out.chg (Chg.of_below0 (S := fun _ => False) hb) (fun _ _ _ h => h))
        have hz4 := hb.size
        obtain ⟨b', off', cap'', e, k0, k1, k2⟩ := (HA.out.below HB4.out).get k hlt
        cases e
        clear ho hb g0 g1 g2
        go_wp2_with fail
        · refine (disk_Sync _ _ _ _ _ _ HD4.out).mono ?_
          rintro e w5 ⟨rfl, hd, hc⟩
          have HD5 := hide hd
          have HB5 := hide (HB4.out.trans (hc.below HB4.out.size (fun j hj e => by omega)))
          have HO5 := hide (hc.owns HO4.out (fun j e h => by have := (ownsRow_lt HO4.out j e).1; have := HD3.out.lt j (.inl h); omega))
          have HS5 : Hid (∀ j, (Value.slice ao4 bs1.length cap4).ownBlock = some j → ¬ BufSet w1.heap.size ao3 j ∧ j < w5.heap.size) := fun j e => ⟨fun h => (by have := (ownsRow_lt HO4.out j e).1; have := HD3.out.lt j h; omega), (ownsRow_lt HO5.out j e).2⟩
          clear hd hc k0 k1 k2
          go_wp2_with fail
          refine (disk_Unsynced _ _ _ _ _ _ HD5.out).mono ?_
          rintro e w6 ⟨rfl, n6, rfl⟩
          go_wp2_with fail
          refine (disk_Bytes _ _ _ _ _ _ (by exact HD5.out)).mono ?_
          rintro e w7 ⟨ao7, cap7, rfl, ho, hb⟩
          have HO7 := hide ho
          have HB7 := hide (below_of_drewN hb)
          clear ho hb
          have HR7 := hide ((Rd.of_owns HO5.out).chg (Chg.of_below0 (S := fun _ => False) HB7.out) (fun _ _ _ h => h))
          go_wp2_with fail
          refine (SameBytes_ok _ _ _ bs1 bs1 (Rd.of_owns HO7.out) HR7.out (by omega) (by omega)).mono ?_
          rintro e w8 ⟨rfl, n8, rfl⟩
          go_wp2_with fail
          go_roundw
          case rel =>
            refine ⟨k + 1, bs1.length, cap4, ao4, by omega, by go_num, rfl, ao3, cap3, bs1, rfl, ?_, by exact HR7.out, ?_, HB1.out.1, bdrewN (HB5.out.trans (HB7.out.mono HB5.out.size)) _⟩
            · exact HD5.out.chg (Chg.of_below0 (S := fun _ => False) (bdrewN HB7.out n8)) (fun _ _ h => h)
            · exact fun j e => ⟨(HS5.out j e).1, Nat.lt_of_lt_of_le (HS5.out j e).2 HB7.out.size⟩
          case measure => simp [intOf]; omega
        · refine (disk_Crash _ _ _ _ _ _ acts[k].n HD4.out).mono ?_
          rintro e w5 ⟨rfl, ao5, cap5, hd, hc, hs⟩
          have hm1 := kept_ge bs.length bs1.length acts[k].n
          have hm2 := kept_le bs.length bs1.length acts[k].n HB1.out.2
          generalize kept bs.length bs1.length acts[k].n = m at *
          have hml : (bs1.take m).length = m := by simp; omega
          have HD5 := hide hd
          have HB5 := hide (HB4.out.trans (hc.below HB4.out.size (fun j hj e => by have := HD4.out.lt j e; omega)))
          have HO5 := hide (hc.owns HO4.out (fun j e h => by have := (ownsRow_lt HO4.out j e).1; have := HD3.out.lt j h; omega))
          have HML := hide hml
          clear hd hc k0 k1 k2 hml hs
          go_wp2_with fail
          refine (disk_Bytes _ _ _ _ _ _ HD5.out).mono ?_
          rintro e w6 ⟨ao6, cap6, rfl, ho, hb⟩
          rw [HML.out] at ho ⊢
          have HO6 := hide ho
          have HB6 := hide hb
          have hcap := ownsRow_cap HO5.out
          clear ho hb
          go_wp2_with fail
          have hR6 : Rd w6 (.slice ao4 m cap4) m (u8s (bs1.take m)) := by
            have := (Rd.of_owns (own_cut HO5.out m hm2)).chg (Chg.of_below0 (S := fun _ => False) HB6.out) (fun _ _ _ h => h)
            rwa [HML.out] at this
          have HR6 := hide hR6
          clear hR6
          refine (SameBytes_ok _ _ _ (bs1.take m) (bs1.take m) (by rw [HML.out]; exact Rd.of_owns HO6.out) (by rw [HML.out]; exact HR6.out) (by rw [HML.out]; omega) (by rw [HML.out]; omega)).mono ?_
          rintro e w7 ⟨rfl, n7, rfl⟩
          have HD7 := hide (HD5.out.chg (Chg.of_below0 (S := fun _ => False) HB6.out) (fun _ _ h => h))
          go_wp2_with fail
          refine (disk_Unsynced _ _ _ _ _ _ (by exact HD7.out)).mono ?_
          rintro e w8 ⟨rfl, n8, rfl⟩
          rw [HML.out]
          go_wp2_with fail
          refine (disk_Bytes _ _ _ _ _ _ (by exact HD7.out)).mono ?_
          rintro e w9 ⟨ao9, cap9, rfl, ho, hb⟩
          rw [HML.out] at ho ⊢
          have HO9 := hide ho
          have HB9 := hide (below_of_drewN hb)
          clear ho hb
          have HR9 := hide ((Rd.of_owns HO6.out).chg (Chg.of_below0 (S := fun _ => False) HB9.out) (fun _ _ _ h => h))
          go_wp2_with fail
          refine (SameBytes_ok _ _ _ (bs1.take m) (bs1.take m) (by rw [HML.out]; exact Rd.of_owns HO9.out) (by rw [HML.out]; exact HR9.out) (by rw [HML.out]; omega) (by rw [HML.out]; omega)).mono ?_
          rintro e w10 ⟨rfl, n10, rfl⟩
          go_wp2_with fail
          go_roundw
          case rel =>
            refine ⟨k + 1, m, cap6, ao6, by omega, by go_num, rfl, ao5, cap5, bs1.take m, HML.out.symm, ?_, ?_, ?_, by rw [HML.out]; have := HB1.out; omega, bdrewN ((HB5.out.trans (HB6.out.mono HB5.out.size)).trans (HB9.out.mono (Nat.le_trans HB5.out.size HB6.out.size))) _⟩
            · have := HD7.out.chg (Chg.of_below0 (S := fun _ => False) (bdrewN HB9.out n10)) (fun _ _ h => h)
              rwa [HML.out]
            · rw [HML.out]; exact HR9.out
            · intro j e
              have h1 := ownsRow_lt HO6.out j e
              refine ⟨fun h => ?_, Nat.lt_of_lt_of_le h1.2 HB9.out.size⟩
              have h2 := (HD5.out.lt j h).2
              omega
          case measure => simp [intOf]; omega
      · go_wp2_with fail
        refine (awake16 _).mono ?_
        rintro e w3 ⟨rfl, hb3⟩
        have HB3 := hide hb3
        clear hb3
        go_wp2_with fail
        go_ret
        obtain ⟨_, _, _, _, _, _, _, _, hb⟩ := HK1.out
        exact ⟨rfl, hb.trans (HB3.out.mono hb.size)⟩
  · have HK := hide hok
    clear hok
    go_enter Try.func4, Try.ntmps4
    go_wp2_with fail
    refine (great_yes W _ acts 40 HA.out HK.out (by decide)).mono ?_
    rintro e w1 ⟨rfl, rfl⟩
    go_wp2_with fail
    refine (awake16 _).mono ?_
    rintro e w3 ⟨rfl, hb3⟩
    have HB3 := hide hb3
    clear hb3
    go_wp2_with fail
    go_ret
    exact ⟨rfl, HB3.out⟩

set_option maxRecDepth 100000 in
theorem DiskKeeps_lifted (os : Os) (started : os.Started) (H : Type) (enc : TypeId × Value → H) :
    ReturnsInHanded {} Try.checked os 4 .any (Rows.diskKeepsSpec.pre6 enc Try.prog Try.f4 Rows.diskKeepsRow.domain false) (Rows.diskKeepsSpec.post enc Try.prog Try.f4 false true false false) := by
  refine returnsInHanded_of_change (C := Try.checked) law_own started (by kernel_rfl) Try.func4
    (ChangeSpec.witness6 (enc := enc) (C := Try.checked) false ⟨#[], #[.slice none 0 0], []⟩ 8 (by kernel_rfl) (by kernel_rfl) (by kernel_rfl) (by kernel_rfl)) ?_
  intro W base args ds gs before hval0 hW hcnd _
  have hval : ∀ (j : Nat) t v, Try.f4.params[j]? = some t → args[j]? = some v → Value.okWide Try.prog W .any base t v := hval0
  have hW' := hW
  obtain ⟨p, q, hA0, hV, rfl, hfz, hnd⟩ := hW
  have hA : DataW.TrodAll enc Try.prog W 0 (fun _ => true) true Try.f4.params.toList args.toList ds p := hA0
  rw [Try.params4] at hA hval
  obtain ⟨v0, vs0, d0, ds0, p0, q0, hargs, rfl, rfl, h0, r0⟩ := trodAll_cons hA
  obtain ⟨rfl, rfl, rfl⟩ := trodAll_nil r0
  obtain rfl : args = #[v0] := by cases args; simp_all
  obtain ⟨rfl, rfl⟩ := trodVars_none hV
  have k0 := h0
  have lt0 : ∀ x ∈ p0, x.block < W.heap.size := by obtain ⟨m, hm⟩ := k0; exact DataW.trod_lt m _ _ _ hm
  obtain ⟨a0, len0, cap0, rfl⟩ := okWide_slice Try.underlying22 (hval 0 22 v0 rfl rfl)
  clear hA0 hval0
  refine (DiskKeeps_walk (enc := enc) W a0 len0 cap0 (Readable.of_trod h0)).mono fun e W' ⟨he, bel⟩ => ?_
  subst he
  exact ⟨_, rfl, _, _, _, [], _, [], hW', trodAll_mk1 (shut_bool Try.underlying4 _), (trodAll_cons_mk (Below.trod law_laid (by kernel_rfl) (of_decide_eq_true (by kernel_rfl)) k0 bel lt0) trodAll_mk0), rfl, bel.frame _, fun h => by cases h⟩

theorem DiskKeeps_over : Rows.diskKeepsRow.holds Try.pinned (OpenSpec.ofChange Rows.diskKeepsSpec) :=
  OpenClaim.holds_of_wide 4 Try.f4 rfl rfl rfl rfl rfl rfl rfl ⟨rfl, rfl, rfl, rfl, rfl⟩ rfl rfl rfl rfl rfl (by kernel_rfl) Try.func4 (by kernel_rfl)
    (of_decide_eq_true (by kernel_rfl)) (by unfold Func.isWrapper; first | (rw [if_pos (by decide +kernel)]; kernel_rfl) | (rw [if_neg (by decide +kernel)]; exact ⟨rfl, rfl⟩))
    (fun os started H enc _ => DiskKeeps_lifted os started H enc)

theorem DiskKeeps_holds : Rows.DiskKeepsSaid := DiskKeeps_over
#print axioms DiskKeeps_holds

end Go.Proofs.Ythhnpafadinheaa
