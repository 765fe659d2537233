/- CodeReads: what stands at any place of any bytes is the document's, or is refused. Conditions: none. -/
import Derived.Test.YthhnpafadinheaaRows
import Derived.WalkKit
import Derived.ProofKit
import Derived.OpenShut
import Derived.ShutString
import Derived.ChangeOld
import Derived.Below
import Derived.Test.YthhnpafadinheaaCodeA
import Derived.Test.YthhnpafadinheaaDec
namespace Go.Proofs.Ythhnpafadinheaa
open Go.ChangeShapes Go.WideShapes Go.ChangeAt Go.RowKit
open Go.ChangeMaps (open_string shut_string)
set_option linter.unusedVariables false

theorem law_own : ownKnob Try.prog.godebug = none := by kernel_rfl
theorem law_laid : laidOutB Try.prog = true := by kernel_rfl

set_option maxHeartbeats 4000000 in
set_option maxRecDepth 100000 in
theorem CodeReads_walk {H : Type} {enc : TypeId × Value → H} (W : World) (a0 : Option Addr) (n0 c0 : Nat) (hv : Readable enc Try.prog W 28 [.slice a0 n0 c0]) (p : Int) (hp : (Lit.int .i64 p).wf = true) :
    Calls Try.prog 6 #[.slice a0 n0 c0, .int .i64 p] W fun e W' => e = .returned (.bool true) ∧ Below W.heap.size W W' := by
  obtain ⟨v', b, hv', hb, hm, -⟩ := hv.bytes Try.underlying28 Try.underlying5 (by kernel_rfl)
  obtain rfl : .slice a0 n0 c0 = v' := by simpa using hv'
  obtain ⟨ao, cap, e, -, -⟩ := hb.shape
  cases e
  have HB := hide hb
  clear hb hv hv'
  by_cases hl : 300 < b.length
  · go_enter Try.func6, Try.ntmps6
    go_wp2_with fail
    refine (awake15 _).mono ?_
    rintro e w3 ⟨rfl, hb3⟩
    have HB3 := hide hb3
    clear hb3
    go_wp2_with fail
    go_ret
    exact ⟨rfl, HB3.out⟩
  · go_enter Try.func6, Try.ntmps6
    go_wp2_with fail
    refine (LendBytes_ok W _ b HB.out (by omega)).mono ?_
    rintro e w1 ⟨vin, rfl, hlent, hb1⟩
    have HL1 := hide hlent
    have HB1 := hide hb1
    have HR1 := hide (HB.out.chg (Chg.of_below0 (S := fun _ => False) hb1) (fun _ _ _ h => h))
    clear hlent hb1
    go_wp2_with fail
    refine (code_ReadNum w1 _ b p HL1.out.rd (by omega)).mono ?_
    rintro e w2 ⟨rfl, rfl⟩
    go_wp2_with fail
    refine (ref_ReadNum w2 _ b p HR1.out (by omega)).mono ?_
    rintro e w3 ⟨rfl, rfl⟩
    go_wp2_with fail
    refine (code_ReadText w3 _ b p HL1.out.rd (by omega)).mono ?_
    rintro e w4 ⟨rfl, rfl⟩
    go_wp2_with fail
    refine (ref_ReadText w4 _ b p HR1.out (by omega)).mono ?_
    rintro e w5 ⟨rfl, rfl⟩
    go_wp2_with (first
      | (go_at_call 17; refine (KeptBytes_true _ _ _ b HL1.out HR1.out (by omega)).mono ?_; rintro e w6 ⟨rfl, n6, rfl⟩)
      | (go_at_call 28; refine (awake15 _).mono ?_; rintro e w7 ⟨rfl, hb7⟩; have HB7 := hide (below_of_drewN hb7); clear hb7))
    go_ret
    exact ⟨rfl, HB1.out.trans (HB7.out.mono HB1.out.size)⟩

set_option maxRecDepth 100000 in
theorem CodeReads_lifted (os : Os) (started : os.Started) (H : Type) (enc : TypeId × Value → H) :
    ReturnsInHanded {} Try.checked os 6 .any (Rows.codeReadsSpec.pre6 enc Try.prog Try.f6 Rows.codeReadsRow.domain false) (Rows.codeReadsSpec.post enc Try.prog Try.f6 false true false false) := by
  refine returnsInHanded_of_change (C := Try.checked) law_own started (by kernel_rfl) Try.func6
    (ChangeSpec.witness6 (enc := enc) (C := Try.checked) false ⟨#[], #[.slice none 0 0, .int .i64 0], []⟩ 8 (by kernel_rfl) (by kernel_rfl) (by kernel_rfl) (by kernel_rfl)) ?_
  intro W base args ds gs before hval0 hW hcnd _
  have hval : ∀ (j : Nat) t v, Try.f6.params[j]? = some t → args[j]? = some v → Value.okWide Try.prog W .any base t v := hval0
  have hW' := hW
  obtain ⟨p, q, hA0, hV, rfl, hfz, hnd⟩ := hW
  have hA : DataW.TrodAll enc Try.prog W 0 (fun _ => true) true Try.f6.params.toList args.toList ds p := hA0
  rw [Try.params6] at hA hval
  obtain ⟨v0, vs0, d0, ds0, p0, q0, hargs, rfl, rfl, h0, r0⟩ := trodAll_cons hA
  obtain ⟨v1, vs1, d1, ds1, p1, q1, rfl, rfl, rfl, h1, r1⟩ := trodAll_cons r0
  obtain ⟨rfl, rfl, rfl⟩ := trodAll_nil r1
  obtain rfl : args = #[v0, v1] := by cases args; simp_all
  obtain ⟨rfl, rfl⟩ := trodVars_none hV
  have k0 := h0
  have lt0 : ∀ x ∈ p0, x.block < W.heap.size := by obtain ⟨m, hm⟩ := k0; exact DataW.trod_lt m _ _ _ hm
  obtain ⟨a0, len0, cap0, rfl⟩ := okWide_slice Try.underlying28 (hval 0 28 v0 rfl rfl)
  have k1 := h1
  have lt1 : ∀ x ∈ p1, x.block < W.heap.size := by obtain ⟨m, hm⟩ := k1; exact DataW.trod_lt m _ _ _ hm
  obtain ⟨a1, rfl, rfl, rfl, w1⟩ := open_int Try.underlying3 (hval 1 3 v1 rfl rfl) h1
  clear hA0 hval0
  refine (CodeReads_walk (enc := enc) W a0 len0 cap0 (Readable.of_trod h0) a1 w1).mono fun e W' ⟨he, bel⟩ => ?_
  subst he
  exact ⟨_, rfl, _, _, _, [], _, [], hW', trodAll_mk1 (shut_bool Try.underlying4 _), (trodAll_cons_mk (Below.trod law_laid (by kernel_rfl) (of_decide_eq_true (by kernel_rfl)) k0 bel lt0) (trodAll_cons_mk (Below.trod law_laid (by kernel_rfl) (of_decide_eq_true (by kernel_rfl)) k1 bel lt1) trodAll_mk0)), rfl, bel.frame _, fun h => by cases h⟩

theorem CodeReads_over : Rows.codeReadsRow.holds Try.pinned (OpenSpec.ofChange Rows.codeReadsSpec) :=
  OpenClaim.holds_of_wide 6 Try.f6 rfl rfl rfl rfl rfl rfl rfl ⟨rfl, rfl, rfl, rfl, rfl⟩ rfl rfl rfl rfl rfl (by kernel_rfl) Try.func6 (by kernel_rfl)
    (of_decide_eq_true (by kernel_rfl)) (by unfold Func.isWrapper; first | (rw [if_pos (by decide +kernel)]; kernel_rfl) | (rw [if_neg (by decide +kernel)]; exact ⟨rfl, rfl⟩))
    (fun os started H enc _ => CodeReads_lifted os started H enc)

theorem CodeReads_holds : Rows.CodeReadsSaid := CodeReads_over
#print axioms CodeReads_holds

end Go.Proofs.Ythhnpafadinheaa
