/- CodeBack: what was laid as a list is read again, from any place on; cut short, or with a lesser bound, it is refused. Conditions: none. -/
import Derived.Test.YthhnpafadinheaaRows
import Derived.WalkKit
import Derived.ProofKit
import Derived.OpenShut
import Derived.ShutString
import Derived.ChangeOld
import Derived.Below
import Derived.Test.YthhnpafadinheaaCodeA
import Derived.Test.YthhnpafadinheaaCodeList
import Derived.Test.YthhnpafadinheaaCodeLL
import Derived.Test.YthhnpafadinheaaLow
import Derived.Test.YthhnpafadinheaaTexts
import Derived.Test.YthhnpafadinheaaDec
namespace Go.Proofs.Ythhnpafadinheaa
open Go.ChangeShapes Go.WideShapes Go.ChangeAt Go.RowKit
open Go.ChangeMaps (open_string shut_string)
set_option linter.unusedVariables false

theorem law_own : ownKnob Try.prog.godebug = none := by kernel_rfl
theorem law_laid : laidOutB Try.prog = true := by kernel_rfl

theorem txts_le (ss : List ByteArray) (M : Nat) (h : ∀ s ∈ ss, s.size ≤ M) : (txts ss).length ≤ ss.length * (8 + M) := by
  induction ss with
  | nil => simp [txts]
  | cons s ss ih =>
    have h1 := h s (by simp)
    have h2 := ih (fun t ht => h t (by simp [ht]))
    rw [txts_cons, List.length_append, List.length_append, num8_length, sb_length, List.length_cons, Nat.add_mul, Nat.one_mul]
    omega

/-- The first cells of a slice that is read. -/
theorem Rd_cut {w : World} {ao : Option Addr} {n cap k : Nat} {cs : List Value} (h : Rd w (.slice ao n cap) n cs) (hk : k ≤ n) (hn : 0 < n) : Rd w (.slice ao k cap) k (cs.take k) := by
  obtain ⟨ao', cap', e, hc, h⟩ := h.shape
  cases e
  obtain ⟨b, off, rfl, hcs⟩ := h hn
  refine Rd.mk (by omega) (fun j u hu => hcs j u ?_)
  rw [List.getElem?_take] at hu
  split at hu
  · exact hu
  · cases hu

set_option maxHeartbeats 4000000 in
set_option maxRecDepth 100000 in
theorem CodeBack_walk {H : Type} {enc : TypeId × Value → H} (W : World) (a0 : Option Addr) (n0 c0 : Nat) (hv : Readable enc Try.prog W 28 [.slice a0 n0 c0])
    (a2 : Option Addr) (n2 c2 : Nat) (hv2 : Readable enc Try.prog W 50 [.slice a2 n2 c2]) (cut : Int) (hcut : (Lit.int .i64 cut).wf = true) (less : Int) (hless : (Lit.int .i64 less).wf = true) :
    Calls Try.prog 9 #[.slice a0 n0 c0, .slice a2 n2 c2, .int .i64 cut, .int .i64 less] W fun e W' => e = .returned (.bool true) ∧ Below W.heap.size W W' := by
  obtain ⟨v', b, hv', hb, hm, -⟩ := hv.bytes Try.underlying28 Try.underlying5 (by kernel_rfl)
  obtain rfl : .slice a0 n0 c0 = v' := by simpa using hv'
  obtain ⟨ao, cap, e, -, -⟩ := hb.shape
  cases e
  obtain ⟨v', ss, hv2', hb2, hm2, hms, -⟩ := hv2.strings Try.underlying50 Try.underlying9 (by kernel_rfl)
  obtain rfl : .slice a2 n2 c2 = v' := by simpa using hv2'
  obtain ⟨ao, cap, e, -, -⟩ := hb2.shape
  cases e
  have HB := hide hb
  have HT := hide hb2
  have HMS := hide hms
  unfold maxLen at hm hm2
  clear hb hv hv' hb2 hv2 hv2' hms hcut hless
  by_cases hl : 100 < b.length
  · go_enter Try.func9, Try.ntmps9
    go_wp2_with fail
    all_goals refine (awake15 _).mono ?_
    all_goals rintro e w3 ⟨rfl, hb3⟩
    all_goals have HB3 := hide hb3
    all_goals clear hb3
    all_goals go_wp2_with fail
    all_goals go_ret
    all_goals exact ⟨rfl, HB3.out⟩
  by_cases hok : TextsOk 12 60 ss
  · have hl2 := hok.1
    have HK := hide hok
    clear hok
    obtain ⟨x, hx⟩ : ∃ x, x = listOf b ss := ⟨_, rfl⟩
    have hx' : x = b ++ (num8 (ss.length : Int) ++ ss.flatMap fun s => num8 (s.size : Int) ++ sb s) := by rw [hx]; simp [listOf, txts]
    have ht := txts_le ss 60 HK.out.2
    have hxl : x.length = b.length + 8 + (txts ss).length := by rw [hx]; simp [listOf, num8_length]; omega
    have lx : x.length ≤ 924 := by omega
    have lx2 : b.length < x.length := by omega
    have X := hide hx
    have X' := hide hx'
    have HSZ : Hid (∀ s ∈ ss, s.size ≤ 9223372036854775807) := hide (fun s hs => Nat.le_trans (HK.out.2 s hs) (by decide))
    obtain ⟨k1, hk1⟩ : ∃ k, k = low cut (x.length - b.length) := ⟨_, rfl⟩
    obtain ⟨k2, hk2⟩ : ∃ k, k = low less (ss.length + 1) := ⟨_, rfl⟩
    have lk1 : k1 < x.length - b.length := by rw [hk1]; exact low_lt _ _ (by omega)
    have lk2 : k2 < ss.length + 1 := by rw [hk2]; exact low_lt _ _ (by omega)
    have K1 := hide hk1
    have K2 := hide hk2
    have r1 : rdList x b.length ss.length = (ss, (x.length : Int), true) := by
      have := rdList_laid b [] ss ss.length HSZ.out (by omega) (by omega)
      simpa [X.out] using this
    have r2 : rdList (x.take (b.length + k1)) b.length ss.length = ([], 0, false) := by
      rw [X.out]
      exact rdList_short b ss ss.length (b.length + k1) HSZ.out (by omega) (by omega) (by rw [← X.out]; omega)
    have r3 : rdList x b.length ((k2 : Int) - 1) = ([], 0, false) := by
      have := rdList_less b [] ss ((k2 : Int) - 1) (by omega) (by omega)
      simpa [X.out] using this
    have R1 := hide r1
    have R2 := hide r2
    have R3 := hide r3
    clear hx hx' ht hxl hk1 hk2 r1 r2 r3
    go_enter Try.func9, Try.ntmps9
    go_wp2_with fail
    refine (GreatTexts_no W _ ss 12 60 HT.out HK.out (by decide)).mono ?_
    rintro e W ⟨rfl, rfl⟩
    go_wp2_with fail
    refine (code_List_S Value.string (fun s => num8 (s.size : Int) ++ sb s) W _ _ b ss x X'.out HB.out HT.out (by intro _ _; rfl) 68 (fun s hs => by have := HK.out.2 s hs; simp [num8_length, sb_length]; omega) (by omega) (by omega)
      (fun W' v c s _ hs hr hc => lay_ok W' v c s hr (by have := HK.out.2 s hs; omega))).mono ?_
    rintro e w1 ⟨ax, cx, rfl, hox, hb1⟩
    have OX := hide hox
    have B1 := hide hb1
    clear hox hb1
    have a1 : IntKind.i64.wrap ((x.length : Int) - (b.length : Int)) = (x.length : Int) - (b.length : Int) := IntWalk.i64_in _ (by omega)
    have a2 : IntKind.i64.wrap ((b.length : Int) + (k1 : Int)) = (b.length : Int) + (k1 : Int) := IntWalk.i64_in _ (by omega)
    have a3 : IntKind.i64.wrap ((ss.length : Int) + 1) = (ss.length : Int) + 1 := IntWalk.i64_in _ (by omega)
    have a4 : IntKind.i64.wrap ((k2 : Int) - 1) = (k2 : Int) - 1 := IntWalk.i64_in _ (by omega)
    have hxs := Rd.of_owns OX.out
    obtain ⟨gb, go, rfl, -⟩ : ∃ gb go, ax = some ⟨gb, go, none⟩ ∧ True := by
      obtain ⟨ao, cap, e, -, h⟩ := hxs.shape
      cases e
      obtain ⟨gb, go, rfl, -⟩ := h (by omega)
      exact ⟨gb, go, rfl, trivial⟩
    have RX := hide hxs
    have hcx := ownsRow_cap OX.out
    clear hxs
    go_wp2_with fail
    have h := code_ReadList_S w1 _ x b.length ss.length RX.out (by omega) (by omega)
    rw [R1.out] at h
    refine h.mono ?_
    clear h
    rintro e w2 ⟨al, cl, rfl, hol, hb2⟩
    have OL := hide hol
    have RX2 := hide (RX.out.chg (Chg.of_below0 (S := fun _ => False) hb2) (fun _ _ _ h => h))
    have B2 := hide (B1.out.trans (hb2.mono B1.out.size))
    clear hol hb2
    go_wp2_with fail
    have h := Low_ok w2 cut (x.length - b.length) (by omega) (by omega)
    rw [show ((x.length - b.length : Nat) : Int) = (x.length : Int) - (b.length : Int) by omega, ← K1.out] at h
    refine h.mono ?_
    clear h
    rintro e w3 ⟨rfl, rfl⟩
    go_wp2_with fail
    have hcut := Rd_cut RX2.out (k := b.length + k1) (by omega) (by omega)
    rw [u8s_take] at hcut
    have hlen : (x.take (b.length + k1)).length = b.length + k1 := by rw [List.length_take]; omega
    have h := code_ReadList_S w3 _ (x.take (b.length + k1)) b.length ss.length (by rw [hlen]; exact hcut) (by omega) (by omega)
    rw [R2.out] at h
    refine h.mono ?_
    clear h hcut hlen
    rintro e w4 ⟨al4, cl4, rfl, hol, hb4⟩
    have OL4 := hide ((Chg.of_below0 (S := fun _ => False) hb4).owns OL.out (fun _ _ h => h))
    have RX4 := hide (RX2.out.chg (Chg.of_below0 (S := fun _ => False) hb4) (fun _ _ _ h => h))
    have B4 := hide (B2.out.trans (hb4.mono B2.out.size))
    clear hol hb4
    go_wp2_with fail
    have h := Low_ok w4 less (ss.length + 1) (by omega) (by omega)
    rw [show ((ss.length + 1 : Nat) : Int) = (ss.length : Int) + 1 by omega, ← K2.out] at h
    refine h.mono ?_
    clear h
    rintro e w5 ⟨rfl, rfl⟩
    go_wp2_with fail
    have h := code_ReadList_S w5 _ x b.length ((k2 : Int) - 1) RX4.out (by omega) (by omega)
    rw [R3.out] at h
    refine h.mono ?_
    clear h
    rintro e w6 ⟨al6, cl6, rfl, hol, hb6⟩
    have OL6 := hide ((Chg.of_below0 (S := fun _ => False) hb6).owns OL4.out (fun _ _ h => h))
    have B6 := hide (B4.out.trans (hb6.mono B4.out.size))
    clear hol hb6
    go_wp2_with fail
    refine (SameTexts_refl w6 _ _ ss (Rd.of_owns OL6.out) (HT.out.chg (Chg.of_below0 (S := fun _ => False) B6.out) (fun _ _ _ h => h)) (by omega)).mono ?_
    rintro e w7 ⟨rfl, n7, hw7⟩
    have B7 : Hid (Below W.heap.size W w7) := hide (by rw [hw7]; exact bdrewN B6.out _)
    clear hw7
    go_wp2_with fail
    refine (awake15 _).mono ?_
    rintro e w8 ⟨rfl, hb8⟩
    have HB8 := hide hb8
    clear hb8
    go_wp2_with fail
    go_ret
    exact ⟨rfl, B7.out.trans (HB8.out.mono B7.out.size)⟩
  · have HK := hide hok
    clear hok
    go_enter Try.func9, Try.ntmps9
    go_wp2_with fail
    refine (GreatTexts_yes W _ ss 12 60 HT.out HK.out (by decide) (by omega) HMS.out).mono ?_
    rintro e w ⟨rfl, rfl⟩
    go_wp2_with fail
    all_goals refine (awake15 _).mono ?_
    all_goals rintro e w3 ⟨rfl, hb3⟩
    all_goals have HB3 := hide hb3
    all_goals clear hb3
    all_goals go_wp2_with fail
    all_goals go_ret
    all_goals exact ⟨rfl, HB3.out⟩

set_option maxRecDepth 100000 in
theorem CodeBack_lifted (os : Os) (started : os.Started) (H : Type) (enc : TypeId × Value → H) :
    ReturnsInHanded {} Try.checked os 9 .any (Rows.codeBackSpec.pre6 enc Try.prog Try.f9 Rows.codeBackRow.domain false) (Rows.codeBackSpec.post enc Try.prog Try.f9 false true false false) := by
  refine returnsInHanded_of_change (C := Try.checked) law_own started (by kernel_rfl) Try.func9
    (ChangeSpec.witness6 (enc := enc) (C := Try.checked) false ⟨#[], #[.slice none 0 0, .slice none 0 0, .int .i64 0, .int .i64 0], []⟩ 8 (by kernel_rfl) (by kernel_rfl) (by kernel_rfl) (by kernel_rfl)) ?_
  intro W base args ds gs before hval0 hW hcnd _
  have hval : ∀ (j : Nat) t v, Try.f9.params[j]? = some t → args[j]? = some v → Value.okWide Try.prog W .any base t v := hval0
  have hW' := hW
  obtain ⟨p, q, hA0, hV, rfl, hfz, hnd⟩ := hW
  have hA : DataW.TrodAll enc Try.prog W 0 (fun _ => true) true Try.f9.params.toList args.toList ds p := hA0
  rw [Try.params9] at hA hval
  obtain ⟨v0, vs0, d0, ds0, p0, q0, hargs, rfl, rfl, h0, r0⟩ := trodAll_cons hA
  obtain ⟨v1, vs1, d1, ds1, p1, q1, rfl, rfl, rfl, h1, r1⟩ := trodAll_cons r0
  obtain ⟨v2, vs2, d2, ds2, p2, q2, rfl, rfl, rfl, h2, r2⟩ := trodAll_cons r1
  obtain ⟨v3, vs3, d3, ds3, p3, q3, rfl, rfl, rfl, h3, r3⟩ := trodAll_cons r2
  obtain ⟨rfl, rfl, rfl⟩ := trodAll_nil r3
  obtain rfl : args = #[v0, v1, v2, v3] := by cases args; simp_all
  obtain ⟨rfl, rfl⟩ := trodVars_none hV
  have k0 := h0
  have lt0 : ∀ x ∈ p0, x.block < W.heap.size := by obtain ⟨m, hm⟩ := k0; exact DataW.trod_lt m _ _ _ hm
  obtain ⟨a0, len0, cap0, rfl⟩ := okWide_slice Try.underlying28 (hval 0 28 v0 rfl rfl)
  have k1 := h1
  have lt1 : ∀ x ∈ p1, x.block < W.heap.size := by obtain ⟨m, hm⟩ := k1; exact DataW.trod_lt m _ _ _ hm
  obtain ⟨a1, len1, cap1, rfl⟩ := okWide_slice Try.underlying50 (hval 1 50 v1 rfl rfl)
  have k2 := h2
  have lt2 : ∀ x ∈ p2, x.block < W.heap.size := by obtain ⟨m, hm⟩ := k2; exact DataW.trod_lt m _ _ _ hm
  obtain ⟨a2, rfl, rfl, rfl, w2⟩ := open_int Try.underlying3 (hval 2 3 v2 rfl rfl) h2
  have k3 := h3
  have lt3 : ∀ x ∈ p3, x.block < W.heap.size := by obtain ⟨m, hm⟩ := k3; exact DataW.trod_lt m _ _ _ hm
  obtain ⟨a3, rfl, rfl, rfl, w3⟩ := open_int Try.underlying3 (hval 3 3 v3 rfl rfl) h3
  clear hA0 hval0
  refine (CodeBack_walk (enc := enc) W a0 len0 cap0 (Readable.of_trod h0) a1 len1 cap1 (Readable.of_trod h1) a2 w2 a3 w3).mono fun e W' ⟨he, bel⟩ => ?_
  subst he
  exact ⟨_, rfl, _, _, _, [], _, [], hW', trodAll_mk1 (shut_bool Try.underlying4 _), (trodAll_cons_mk (Below.trod law_laid (by kernel_rfl) (of_decide_eq_true (by kernel_rfl)) k0 bel lt0) (trodAll_cons_mk (Below.trod law_laid (by kernel_rfl) (of_decide_eq_true (by kernel_rfl)) k1 bel lt1) (trodAll_cons_mk (Below.trod law_laid (by kernel_rfl) (of_decide_eq_true (by kernel_rfl)) k2 bel lt2) (trodAll_cons_mk (Below.trod law_laid (by kernel_rfl) (of_decide_eq_true (by kernel_rfl)) k3 bel lt3) trodAll_mk0)))), rfl, bel.frame _, fun h => by cases h⟩

theorem CodeBack_over : Rows.codeBackRow.holds Try.pinned (OpenSpec.ofChange Rows.codeBackSpec) :=
  OpenClaim.holds_of_wide 9 Try.f9 rfl rfl rfl rfl rfl rfl rfl ⟨rfl, rfl, rfl, rfl, rfl⟩ rfl rfl rfl rfl rfl (by kernel_rfl) Try.func9 (by kernel_rfl)
    (of_decide_eq_true (by kernel_rfl)) (by unfold Func.isWrapper; first | (rw [if_pos (by decide +kernel)]; kernel_rfl) | (rw [if_neg (by decide +kernel)]; exact ⟨rfl, rfl⟩))
    (fun os started H enc _ => CodeBack_lifted os started H enc)

theorem CodeBack_holds : Rows.CodeBackSaid := CodeBack_over
#print axioms CodeBack_holds

end Go.Proofs.Ythhnpafadinheaa
