/- CodeOne: one number, and one text, are read where they were laid, and no further. Conditions: none. -/
import Derived.Test.YthhnpafadinheaaRows
import Derived.WalkKit
import Derived.ProofKit
import Derived.OpenShut
import Derived.ShutString
import Derived.ChangeOld
import Derived.Below
import Derived.Test.YthhnpafadinheaaCodeA
import Derived.Test.YthhnpafadinheaaCodeL
import Derived.Test.YthhnpafadinheaaDec
namespace Go.Proofs.Ythhnpafadinheaa
open Go.ChangeShapes Go.WideShapes Go.ChangeAt Go.RowKit
open Go.ChangeMaps (open_string shut_string)
set_option linter.unusedVariables false

theorem law_own : ownKnob Try.prog.godebug = none := by kernel_rfl
theorem law_laid : laidOutB Try.prog = true := by kernel_rfl

set_option maxHeartbeats 4000000 in
set_option maxRecDepth 100000 in
theorem CodeOne_walk {H : Type} {enc : TypeId × Value → H} (W : World) (a0 : Option Addr) (n0 c0 : Nat) (hv : Readable enc Try.prog W 28 [.slice a0 n0 c0]) (p : Int) (hp : (Lit.int .i64 p).wf = true) (s : ByteArray) (hs : s.size ≤ maxLen)
    (a1 : Option Addr) (n1 c1 : Nat) (hv1 : Readable enc Try.prog W 28 [.slice a1 n1 c1]) :
    Calls Try.prog 7 #[.slice a0 n0 c0, .int .i64 p, .string s, .slice a1 n1 c1] W fun e W' => e = .returned (.bool true) ∧ Below W.heap.size W W' := by
  obtain ⟨v', b, hv', hb, hm, -⟩ := hv.bytes Try.underlying28 Try.underlying5 (by kernel_rfl)
  obtain rfl : .slice a0 n0 c0 = v' := by simpa using hv'
  obtain ⟨ao, cap, e, -, -⟩ := hb.shape
  cases e
  obtain ⟨v', more, hv1', hb1, hm1, -⟩ := hv1.bytes Try.underlying28 Try.underlying5 (by kernel_rfl)
  obtain rfl : .slice a1 n1 c1 = v' := by simpa using hv1'
  obtain ⟨ao, cap, e, -, -⟩ := hb1.shape
  cases e
  have HB := hide hb
  have HB1 := hide hb1
  have HP := hide hp
  clear hb hv hv' hb1 hv1 hv1' hp
  by_cases hl : 100 < b.length ∨ 100 < s.size ∨ 100 < more.length
  · go_enter Try.func7, Try.ntmps7
    go_wp2_with fail
    all_goals refine (awake15 _).mono ?_
    all_goals rintro e w3 ⟨rfl, hb3⟩
    all_goals have HB3 := hide hb3
    all_goals clear hb3
    all_goals go_wp2_with fail
    all_goals go_ret
    all_goals exact ⟨rfl, HB3.out⟩
  · have h1 : b.length ≤ 100 := by omega
    have h2 : s.size ≤ 100 := by omega
    have h3 : more.length ≤ 100 := by omega
    clear hl
    obtain ⟨x1, hx1⟩ : ∃ x, x = b ++ nums [p] := ⟨_, rfl⟩
    obtain ⟨x2, hx2⟩ : ∃ x, x = x1 ++ txts [s] := ⟨_, rfl⟩
    obtain ⟨x3, hx3⟩ : ∃ x, x = x2 ++ more := ⟨_, rfl⟩
    have l1 : x1.length = b.length + 8 := by rw [hx1]; simp [nums, num8_length]
    have l2 : x2.length = b.length + 16 + s.size := by rw [hx2]; simp [txts, num8_length, sb_length]; omega
    have l3 : x3.length = b.length + 16 + s.size + more.length := by rw [hx3]; simp; omega
    have r1 : rdNum x3 b.length = (p, (b.length : Int) + 8, true) := by
      have : x3 = b ++ (num8 p ++ (txts [s] ++ more)) := by rw [hx3, hx2, hx1]; simp [nums]
      rw [this]
      exact rdNum_laid _ _ _ HP.out
    have r2 : rdText x3 ((b.length : Int) + 8) = (s, (b.length : Int) + 16 + s.size, true) := by
      have : x3 = x1 ++ (num8 s.size ++ (sb s ++ more)) := by rw [hx3, hx2]; simp [txts]
      have h := rdText_laid x1 more s (by omega)
      rw [← this, l1] at h
      rw [show ((b.length : Int) + 8) = ((b.length + 8 : Nat) : Int) by simp, h]
      congr 2
    have R1 := hide r1
    have R2 := hide r2
    have X1 := hide hx1
    have X2 := hide hx2
    have X3 := hide hx3
    have L1 := hide l1
    have L2 := hide l2
    clear r1 r2 hx1 hx2 hx3 l1 l2
    have L3 := hide l3
    clear l3
    go_enter Try.func7, Try.ntmps7
    go_wp2_with fail
    refine (code_Num _ _ _ b [p] x1 X1.out (HB.out.chg (Chg.alloc (fun _ => False) W _) (fun _ _ _ h => h)) (Rd_lit W #[.int .i64 p] _ 1) (by simp; omega)).mono ?_
    rintro e w1 ⟨ao1, cap1, rfl, ho1, hb1⟩
    have HO1 := hide ho1
    have HC1 := hide hb1
    clear ho1 hb1
    go_wp2_with fail
    have h4 := Rd_lit w1 #[.string s] 9 1
    refine (code_Text _ _ _ x1 [s] x2 X2.out ((Rd.of_owns HO1.out).chg (Chg.alloc (fun _ => False) w1 _) (fun _ _ _ h => h)) h4 100 (fun t ht => by cases List.mem_singleton.1 ht; exact h2) (by have := L1.out; simp; omega) (by simp)).mono ?_
    clear h4
    rintro e w2 ⟨ao2, cap2, rfl, ho2, hb2⟩
    have HO2 := hide ho2
    have HC2 : Hid (Below W.heap.size W w2) := hide (((((Below.refl _ W).alloc (Nat.le_refl _) _).trans (HC1.out.mono (by simp))).alloc (by have := HC1.out.size; simp at this; omega) _).trans (hb2.mono (by have := HC1.out.size; simp at this ⊢; omega)))
    have HZ2 := hide hb2.size
    have HL3 : Hid (x2.length + more.length = x3.length) := hide (by rw [X3.out]; simp)
    clear ho2 hb2
    go_wp2_with (at_builtin; go_loud (refine wpl_append rfl _ _ _ rfl slU8 _ HO2.out (HB1.out.chg (Chg.of_below0 (S := fun _ => False) (HC2.out)) (fun _ _ _ h => h)) rfl rfl (u8s_len1 more) (u8s_one more) (by have := L2.out; unfold maxLen; omega) (by have := L2.out; omega) HZ2.out ?_); intro ao3 cap3 w3 hown hg hat hnil; rw [← u8s_append, ← X3.out, HL3.out] at hown; rw [HL3.out]; have HO3 := hide hown; have HB3 := hide (HC2.out.trans (hg.below HC2.out.size (fun k hk e => by have h7 := (ownsRow_lt HO2.out k e).1; have := HC1.out.size; simp at h7 this; omega))); clear hown hg hat hnil)
    have hr1 := code_ReadNum w3 _ x3 b.length (Rd.of_owns HO3.out) (by have := L3.out; omega)
    rw [R1.out] at hr1
    refine hr1.mono ?_
    clear hr1
    rintro e w4 ⟨rfl, rfl⟩
    go_wp2_with fail
    have hr2 := code_ReadText w4 _ x3 ((b.length : Int) + 8) (Rd.of_owns HO3.out) (by have := L3.out; omega)
    rw [R2.out] at hr2
    refine hr2.mono ?_
    clear hr2
    rintro e w5 ⟨rfl, rfl⟩
    have a1 : IntKind.i64.wrap ((x3.length : Int) - (more.length : Int)) = (b.length : Int) + 16 + (s.size : Int) := by have := L3.out; rw [IntWalk.i64_in _ (by omega)]; omega
    have a2 : IntKind.i64.wrap ((b.length : Int) + 8) = (b.length : Int) + 8 := IntWalk.i64_in _ (by omega)
    have a3 : (x3.length : Int) - (more.length : Int) = (b.length : Int) + 16 + (s.size : Int) := by have := L3.out; omega
    go_wp2_with (go_at_call 28; refine (awake15 _).mono ?_; rintro e w7 ⟨rfl, hb7⟩; have HB7 := hide hb7; clear hb7)

    go_ret
    exact ⟨rfl, HB3.out.trans (HB7.out.mono HB3.out.size)⟩

set_option maxRecDepth 100000 in
theorem CodeOne_lifted (os : Os) (started : os.Started) (H : Type) (enc : TypeId × Value → H) :
    ReturnsInHanded {} Try.checked os 7 .any (Rows.codeOneSpec.pre6 enc Try.prog Try.f7 Rows.codeOneRow.domain false) (Rows.codeOneSpec.post enc Try.prog Try.f7 false true false false) := by
  refine returnsInHanded_of_change (C := Try.checked) law_own started (by kernel_rfl) Try.func7
    (ChangeSpec.witness6 (enc := enc) (C := Try.checked) false ⟨#[], #[.slice none 0 0, .int .i64 0, .string ByteArray.empty, .slice none 0 0], []⟩ 8 (by kernel_rfl) (by kernel_rfl) (by kernel_rfl) (by kernel_rfl)) ?_
  intro W base args ds gs before hval0 hW hcnd _
  have hval : ∀ (j : Nat) t v, Try.f7.params[j]? = some t → args[j]? = some v → Value.okWide Try.prog W .any base t v := hval0
  have hW' := hW
  obtain ⟨p, q, hA0, hV, rfl, hfz, hnd⟩ := hW
  have hA : DataW.TrodAll enc Try.prog W 0 (fun _ => true) true Try.f7.params.toList args.toList ds p := hA0
  rw [Try.params7] at hA hval
  obtain ⟨v0, vs0, d0, ds0, p0, q0, hargs, rfl, rfl, h0, r0⟩ := trodAll_cons hA
  obtain ⟨v1, vs1, d1, ds1, p1, q1, rfl, rfl, rfl, h1, r1⟩ := trodAll_cons r0
  obtain ⟨v2, vs2, d2, ds2, p2, q2, rfl, rfl, rfl, h2, r2⟩ := trodAll_cons r1
  obtain ⟨v3, vs3, d3, ds3, p3, q3, rfl, rfl, rfl, h3, r3⟩ := trodAll_cons r2
  obtain ⟨rfl, rfl, rfl⟩ := trodAll_nil r3
  obtain rfl : args = #[v0, v1, v2, v3] := by cases args; simp_all
  obtain ⟨rfl, rfl⟩ := trodVars_none hV
  have k0 := h0
  have lt0 : ∀ x ∈ p0, x.block < W.heap.size := by obtain ⟨m, hm⟩ := k0; exact DataW.trod_lt m _ _ _ hm
  obtain ⟨a0, len0, cap0, rfl⟩ := okWide_slice Try.underlying28 (hval 0 28 v0 rfl rfl)
  have k1 := h1
  have lt1 : ∀ x ∈ p1, x.block < W.heap.size := by obtain ⟨m, hm⟩ := k1; exact DataW.trod_lt m _ _ _ hm
  obtain ⟨a1, rfl, rfl, rfl, w1⟩ := open_int Try.underlying3 (hval 1 3 v1 rfl rfl) h1
  have k2 := h2
  have lt2 : ∀ x ∈ p2, x.block < W.heap.size := by obtain ⟨m, hm⟩ := k2; exact DataW.trod_lt m _ _ _ hm
  obtain ⟨a2, rfl, rfl, rfl, w2⟩ := open_string Try.underlying9 (hval 2 9 v2 rfl rfl) h2
  have k3 := h3
  have lt3 : ∀ x ∈ p3, x.block < W.heap.size := by obtain ⟨m, hm⟩ := k3; exact DataW.trod_lt m _ _ _ hm
  obtain ⟨a3, len3, cap3, rfl⟩ := okWide_slice Try.underlying28 (hval 3 28 v3 rfl rfl)
  clear hA0 hval0
  refine (CodeOne_walk (enc := enc) W a0 len0 cap0 (Readable.of_trod h0) a1 w1 a2 w2 a3 len3 cap3 (Readable.of_trod h3)).mono fun e W' ⟨he, bel⟩ => ?_
  subst he
  exact ⟨_, rfl, _, _, _, [], _, [], hW', trodAll_mk1 (shut_bool Try.underlying4 _), (trodAll_cons_mk (Below.trod law_laid (by kernel_rfl) (of_decide_eq_true (by kernel_rfl)) k0 bel lt0) (trodAll_cons_mk (Below.trod law_laid (by kernel_rfl) (of_decide_eq_true (by kernel_rfl)) k1 bel lt1) (trodAll_cons_mk (Below.trod law_laid (by kernel_rfl) (of_decide_eq_true (by kernel_rfl)) k2 bel lt2) (trodAll_cons_mk (Below.trod law_laid (by kernel_rfl) (of_decide_eq_true (by kernel_rfl)) k3 bel lt3) trodAll_mk0)))), rfl, bel.frame _, fun h => by cases h⟩

theorem CodeOne_over : Rows.codeOneRow.holds Try.pinned (OpenSpec.ofChange Rows.codeOneSpec) :=
  OpenClaim.holds_of_wide 7 Try.f7 rfl rfl rfl rfl rfl rfl rfl ⟨rfl, rfl, rfl, rfl, rfl⟩ rfl rfl rfl rfl rfl (by kernel_rfl) Try.func7 (by kernel_rfl)
    (of_decide_eq_true (by kernel_rfl)) (by unfold Func.isWrapper; first | (rw [if_pos (by decide +kernel)]; kernel_rfl) | (rw [if_neg (by decide +kernel)]; exact ⟨rfl, rfl⟩))
    (fun os started H enc _ => CodeOne_lifted os started H enc)

theorem CodeOne_holds : Rows.CodeOneSaid := CodeOne_over
#print axioms CodeOne_holds

end Go.Proofs.Ythhnpafadinheaa
