/- LaneNone: of no lanes each call says so. Conditions: none. -/
import Derived.Test.YtjgcicpclojfgaaRows
import Derived.WalkKit
import Derived.ProofKit
import Derived.OpenShut
import Derived.ShutString
import Derived.ChangeOld
import Derived.Below
import Derived.Test.YtjgcicpclojfgaaLaneK
namespace Go.Proofs.Ytjgcicpclojfgaa
open Go.ChangeShapes Go.WideShapes Go.ChangeAt Go.RowKit
open Go.ChangeMaps (open_string shut_string)
set_option linter.unusedVariables false

theorem law_own : ownKnob Try.prog.godebug = none := by kernel_rfl
theorem law_laid : laidOutB Try.prog = true := by kernel_rfl
open Go.Shelf

set_option maxHeartbeats 2000000 in
set_option maxRecDepth 100000 in
theorem LaneNone_walk {H : Type} {enc : TypeId × Value → H} (W : World) (cs : Array Value) (hv : Readable enc Try.prog W 79 cs.toList) : Calls Try.prog 11 #[.agg cs] W fun e W' => e = .returned (.bool true) ∧ Below W.heap.size W W' := by
  obtain ⟨⟨d, c, l, n, k⟩, ha⟩ := act_of_readable hv
  obtain rfl : cs = #[.int .i64 d, .int .i64 c, .int .i64 l, .int .i64 n, .int .i64 k] := by cases cs; simp at ha; rw [ha]; rfl
  clear hv ha
  have hq : ∀ w', Sem.run Try.prog (binOp BinOp.eql 71 (.agg #[.int .i64 0, .int .i64 0, .int .i64 0, .int .i64 0]) (.agg #[.int .i64 0, .int .i64 0, .int .i64 0, .int .i64 0])) w' = .ok (.bool true) w' := by intro w'; kernel_rfl
  go_enter Try.func11, Try.ntmps11
  go_wp2_with fail
  refine (lane_Add_nil _ _ _).mono ?_
  rintro e w1 ⟨rfl, rfl⟩
  go_wp2_with fail
  refine (lane_Get_nil _ _).mono ?_
  rintro e w2 ⟨rfl, hb2⟩
  have hx := (Chg.of_below0 (S := fun _ => False) hb2).heap (heap_alloc_new W _) (fun h => h)
  have HB2 := hide (((Below.refl _ W).alloc (Nat.le_refl _) (.cells #[.int .i64 d, .int .i64 c, .int .i64 l, .int .i64 n, .int .i64 k] 79)).trans (hb2.mono (by simp)))
  have x1 := cell_of_heap hx 1
  have x2 := cell_of_heap hx 2
  have x3 := cell_of_heap hx 3
  have x4 := cell_of_heap hx 4
  have hxl := (Array.getElem?_eq_some_iff.1 hx).1
  have HX := hide hx
  clear hb2 hx
  go_wp2_with fail
  refine (lane_Close_nil _ _ _).mono ?_
  rintro e w3 ⟨rfl, hw3⟩
  have hc3 : Chg (fun _ => False) (w2.alloc (.cells #[.int .i64 0, .int .i64 0, .int .i64 0, .int .i64 0] 71)) w3 := by rw [hw3]; exact Chg.alloc _ _ _
  clear hw3 x1 x2 x3 x4 hxl
  have he3 := hc3.heap (heap_alloc_new w2 _) (fun h => h)
  have hx3 := hc3.heap ((Chg.alloc (fun _ => False) w2 _).heap HX.out (fun h => h)) (fun h => h)
  have e0 := cell_of_heap he3 0
  have e1 := cell_of_heap he3 1
  have e2 := cell_of_heap he3 2
  have e3 := cell_of_heap he3 3
  have x1 := cell_of_heap hx3 1
  have hxl := (Array.getElem?_eq_some_iff.1 hx3).1
  have hel := (Array.getElem?_eq_some_iff.1 he3).1
  have HB3 := hide ((HB2.out.alloc HB2.out.size (.cells #[.int .i64 0, .int .i64 0, .int .i64 0, .int .i64 0] 71)).trans (hc3.below (by have := HB2.out.size; simp; omega) (fun _ _ h => h)))
  clear hc3 he3 hx3
  go_wp2_with fail
  refine (lane_Waits_nil _ _).mono ?_
  rintro e w4 ⟨rfl, hb4⟩
  have HB4 := hide (HB3.out.trans (hb4.mono HB3.out.size))
  clear hb4
  go_wp2_with fail
  refine (lane_Len_nil _).mono ?_
  rintro e w5 ⟨rfl, rfl⟩
  go_wp2_with fail
  refine (lane_pending_nil (fun _ => False) _ (fun _ h => h.elim)).mono ?_
  rintro e w6 ⟨v6, rfl, ht6, hb6⟩
  have HT6 := hide ht6
  have HB6 := hide (HB4.out.trans (hb6.mono HB4.out.size))
  clear hb6 ht6
  go_wp2_with fail
  refine (entries_told _ [] v6 HT6.out (by simp) 9 (by omega)).mono ?_
  rintro e w7 ⟨ao7, cap7, rfl, -, hb7⟩
  have HB7 := hide (HB6.out.trans (hb7.mono HB6.out.size))
  clear hb7
  simp only [List.take_nil, List.length_nil]
  go_wp2_with fail
  refine (lane_all_nil (fun _ => False) _ (fun _ h => h.elim)).mono ?_
  rintro e w8 ⟨v8, rfl, ht8, hb8⟩
  have HT8 := hide ht8
  have HB8 := hide (HB7.out.trans (hb8.mono HB7.out.size))
  clear hb8 ht8
  go_wp2_with fail
  refine (entries_told _ [] v8 HT8.out (by simp) 9 (by omega)).mono ?_
  rintro e w9 ⟨ao9, cap9, rfl, -, hb9⟩
  have HB9 := hide (HB8.out.trans (hb9.mono HB8.out.size))
  clear hb9
  simp only [List.take_nil, List.length_nil]
  go_wp2_with fail
  refine (awake20 _).mono ?_
  rintro e w10 ⟨rfl, hb10⟩
  have HB10 := hide (HB9.out.trans (hb10.mono HB9.out.size))
  clear hb10
  go_wp2_with fail
  go_ret
  exact ⟨rfl, HB10.out⟩

set_option maxRecDepth 100000 in
theorem LaneNone_lifted (os : Os) (started : os.Started) (H : Type) (enc : TypeId × Value → H) :
    ReturnsInHanded {} Try.checked os 11 .any (Rows.laneNoneSpec.pre6 enc Try.prog Try.f11 Rows.laneNoneRow.domain false) (Rows.laneNoneSpec.post enc Try.prog Try.f11 false true false false) := by
  refine returnsInHanded_of_change (C := Try.checked) law_own started (by kernel_rfl) Try.func11
    (ChangeSpec.witness6 (enc := enc) (C := Try.checked) false ⟨#[], #[.agg #[.int .i64 0, .int .i64 0, .int .i64 0, .int .i64 0, .int .i64 0]], []⟩ 8 (by kernel_rfl) (by kernel_rfl) (by kernel_rfl) (by kernel_rfl)) ?_
  intro W base args ds gs before hval0 hW hcnd _
  have hval : ∀ (j : Nat) t v, Try.f11.params[j]? = some t → args[j]? = some v → Value.okWide Try.prog W .any base t v := hval0
  have hW' := hW
  obtain ⟨p, q, hA0, hV, rfl, hfz, hnd⟩ := hW
  have hA : DataW.TrodAll enc Try.prog W 0 (fun _ => true) true Try.f11.params.toList args.toList ds p := hA0
  rw [Try.params11] at hA hval
  obtain ⟨v0, vs0, d0, ds0, p0, q0, hargs, rfl, rfl, h0, r0⟩ := trodAll_cons hA
  obtain ⟨rfl, rfl, rfl⟩ := trodAll_nil r0
  obtain rfl : args = #[v0] := by cases args; simp_all
  obtain ⟨rfl, rfl⟩ := trodVars_none hV
  have k0 := h0
  have lt0 : ∀ x ∈ p0, x.block < W.heap.size := by obtain ⟨m, hm⟩ := k0; exact DataW.trod_lt m _ _ _ hm
  obtain ⟨cs0, rfl, hsz0⟩ := okWide_struct Try.underlying79 (hval 0 79 v0 rfl rfl)
  clear hA0 hval0
  refine (LaneNone_walk (enc := enc) W cs0 (Readable.of_trod h0)).mono fun e W' ⟨he, bel⟩ => ?_
  subst he
  exact ⟨_, rfl, _, _, _, [], _, [], hW', trodAll_mk1 (shut_bool Try.underlying4 _), (trodAll_cons_mk (Below.trod law_laid (by kernel_rfl) (of_decide_eq_true (by kernel_rfl)) k0 bel lt0) trodAll_mk0), rfl, bel.frame _, fun h => by cases h⟩

theorem LaneNone_over : Rows.laneNoneRow.holds Try.pinned (OpenSpec.ofChange Rows.laneNoneSpec) :=
  OpenClaim.holds_of_wide 11 Try.f11 rfl rfl rfl rfl rfl rfl rfl ⟨rfl, rfl, rfl, rfl, rfl⟩ rfl rfl rfl rfl rfl (by kernel_rfl) Try.func11 (by kernel_rfl)
    (of_decide_eq_true (by kernel_rfl)) (by unfold Func.isWrapper; first | (rw [if_pos (by decide +kernel)]; kernel_rfl) | (rw [if_neg (by decide +kernel)]; exact ⟨rfl, rfl⟩))
    (fun os started H enc _ => LaneNone_lifted os started H enc)

theorem LaneNone_holds : Rows.LaneNoneSaid := LaneNone_over
#print axioms LaneNone_holds

end Go.Proofs.Ytjgcicpclojfgaa
