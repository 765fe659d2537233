/- What every program answers that is one (chapter 11). Conditions: none. -/
import Derived.Test.YtnnkbicaokckbaaDoorDgM
import Derived.Test.YtnnkbicaokckbaaDoorDgD
import Derived.Test.YtnnkbicaokckbaaDoorDgF
namespace Go.Proofs.YtnnkbicaokckbaaDoor
open Go.RowKit Go.Shelf

theorem same_ints (w : World) (va vb : Value) (xs ys : List Int) (ha : Rd w va xs.length (xs.map (Value.int .i64))) (hb : Rd w vb ys.length (ys.map (Value.int .i64))) (hl : xs.length ≤ 1000) (hl' : ys.length ≤ 1000) :
    Calls Tryd.prog 37 #[va, vb] w fun e w' => e = .returned (.bool (decide (xs = ys))) ∧ Chg (fun _ => False) w w' := by
  have h := law_SameInts w va vb xs ys (by rw [flat_one (fun x : Int => Value.int .i64 x)]; exact ha) (by rw [flat_one (fun x : Int => Value.int .i64 x)]; exact hb) (by omega) (by omega)
  have e : eqv intEq xs ys = decide (xs = ys) := by
    by_cases hq : xs = ys
    · rw [decide_eq_true hq]; exact (eqv_iff intEq_iff _ _).2 hq
    · rw [decide_eq_false hq, ← Bool.not_eq_true, eqv_iff intEq_iff]; exact hq
  refine h.mono ?_
  rintro e' w' ⟨rfl, n, rfl⟩
  exact ⟨by rw [e], Chg.drewN _ _ _⟩
theorem same_intsT (w : World) (va vb : Value) (xs : List Int) (ha : Rd w va xs.length (xs.map (Value.int .i64))) (hb : Rd w vb xs.length (xs.map (Value.int .i64))) (hl : xs.length ≤ 1000) :
    Calls Tryd.prog 37 #[va, vb] w fun e w' => e = .returned (.bool true) ∧ Chg (fun _ => False) w w' := by
  refine (same_ints w va vb xs xs ha hb hl hl).mono ?_
  rintro e w' ⟨rfl, h⟩
  exact ⟨by rw [decide_eq_true rfl], h⟩
def aw11 : List Int := [0, 1, 0, 102]
theorem aw11_ok : DagOk (gcs aw11) := gcs_ok _ (by decide)
theorem aw11_1 : aheadN (gcs aw11) 4 = [4, 2, 1] := by decide +kernel
theorem aw11_2 : (aheadN (gcs aw11) 4).contains 1 = true := by rw [aw11_1]; rfl
theorem aw11_3 : (aheadN (gcs aw11) 4).contains 3 = false := by rw [aw11_1]; rfl
theorem aw11_4 : depthN (gcs aw11) 4 = 3 := by decide +kernel
theorem aw11_5 : firstN (gcs aw11) 4 = [4, 1] := by decide +kernel
theorem chg_b {w w1 w2 : World} (h : Chg (fun _ => False) w w1) (hb : Below w1.heap.size w1 w2) : Chg (fun _ => False) w w2 := h.trans (Chg.of_below0 hb) (fun _ _ h => h) (fun _ _ h => h)
theorem chg_c {w w1 w2 : World} (h : Chg (fun _ => False) w w1) (hb : Chg (fun _ => False) w1 w2) : Chg (fun _ => False) w w2 := h.trans hb (fun _ _ h => h) (fun _ _ h => h)
set_option maxRecDepth 100000 in
set_option maxHeartbeats 4000000 in
theorem awake11 (w : World) (hM : Mx w) : Calls Tryd.prog 34 #[] w fun e w' => e = .returned (.bool true) ∧ Below w.heap.size w w' := by
  have hrl := Rd_lit w #[.int .i64 0, .int .i64 1, .int .i64 0, .int .i64 102] 3 4
  have hb1 := (Below.refl w.heap.size w).alloc (Nat.le_refl _) (.cells #[.int .i64 0, .int .i64 1, .int .i64 0, .int .i64 102] 3)
  have hs1 : w.heap.size < (w.alloc (.cells #[.int .i64 0, .int .i64 1, .int .i64 0, .int .i64 102] 3)).heap.size := by simp
  have HMD := hide (made11 _ (hM.below hb1 hM.pos) _ aw11 hrl (fun b hb _ => by cases hb; exact hs1) (by decide) (by decide))
  have HB1 := hide hb1
  clear hM hrl hb1 hs1
  go_enter Tryd.func34, Tryd.ntmps34
  go_wp2_with fail
  refine HMD.out.mono ?_
  rintro e w2 ⟨p, q, rfl, ht, hb2⟩
  have HG := hide (fun Wx (h : Chg (fun _ => False) w2 Wx) => (ht.same h).is.gets)
  have HB2 := hide (HB1.out.trans (hb2.mono HB1.out.size))
  clear ht hb2 HMD
  go_wp2_with fail
  refine (dag_Ahead w2 (HG.out w2 (Chg.refl _ _)) 4 (by unfold I64; omega) aw11_ok).mono ?_
  rintro e w3 ⟨gv, rfl, ht3, hb3⟩
  rw [aw11_1] at ht3
  have HIN := hide (ints_told w3 _ gv ht3 (by decide) 9 (by decide))
  have HC3 := hide (chg_b (Chg.refl _ w2) hb3)
  clear ht3 hb3
  go_wp2_with fail
  refine HIN.out.mono ?_
  rintro e w4 ⟨ao4, cap4, rfl, ho4, hb4⟩
  have HO4 := hide ho4
  have HC4 := hide (chg_b HC3.out hb4)
  have hal := Chg.alloc (fun _ => False) w4 (.cells #[.int .i64 4, .int .i64 2, .int .i64 1] 3)
  have HSI := hide (same_intsT _ (.slice ao4 3 cap4) _ [4, 2, 1] ((Rd.of_owns ho4).chg hal (fun _ _ _ h => h)) (Rd_lit w4 #[.int .i64 4, .int .i64 2, .int .i64 1] 3 3) (by decide))
  have HC5 := hide (chg_c HC4.out hal)
  clear ho4 hb4 hal HIN
  go_wp2_with fail
  refine HSI.out.mono ?_
  rintro e w6 ⟨rfl, hc6⟩
  have HC6 := hide (chg_c HC5.out hc6)
  clear hc6 HSI
  go_wp2_with fail
  refine (dag_Is w6 aw11_ok (HG.out w6 HC6.out) 1 4 (by unfold I64; omega)).mono ?_
  rintro e w7 ⟨rfl, hb7⟩
  rw [aw11_2]
  have HC7 := hide (chg_b HC6.out hb7)
  clear hb7
  go_wp2_with fail
  refine (dag_Is w7 aw11_ok (HG.out w7 HC7.out) 3 4 (by unfold I64; omega)).mono ?_
  rintro e w8 ⟨rfl, hb8⟩
  rw [aw11_3]
  have HC8 := hide (chg_b HC7.out hb8)
  clear hb8
  go_wp2_with fail
  refine (dag_Depth w8 aw11_ok (HG.out w8 HC8.out) 4 (by unfold I64; omega)).mono ?_
  rintro e w9 ⟨rfl, hb9⟩
  rw [aw11_4]
  have HC9 := hide (chg_b HC8.out hb9)
  clear hb9
  go_wp2_with fail
  refine (dag_First w9 (HG.out w9 HC9.out) 4 (by unfold I64; omega) aw11_ok).mono ?_
  rintro e w10 ⟨gv, rfl, ht10, hb10⟩
  rw [aw11_5] at ht10
  have HIN := hide (ints_told w10 _ gv ht10 (by decide) 9 (by decide))
  have HC10 := hide (chg_b HC9.out hb10)
  clear ht10 hb10
  go_wp2_with fail
  refine HIN.out.mono ?_
  rintro e w11 ⟨ao4, cap4, rfl, ho4, hb4⟩
  have HC11 := hide (chg_b HC10.out hb4)
  have hal := Chg.alloc (fun _ => False) w11 (.cells #[.int .i64 4, .int .i64 1] 3)
  have HSI := hide (same_intsT _ (.slice ao4 2 cap4) _ [4, 1] ((Rd.of_owns ho4).chg hal (fun _ _ _ h => h)) (Rd_lit w11 #[.int .i64 4, .int .i64 1] 3 2) (by decide))
  have HC12 := hide (chg_c HC11.out hal)
  clear ho4 hb4 hal HIN
  go_wp2_with fail
  refine HSI.out.mono ?_
  rintro e w13 ⟨rfl, hc13⟩
  have HC13 := hide (chg_c HC12.out hc13)
  clear hc13 HSI
  go_wp2_with fail
  go_ret
  exact ⟨rfl, HB2.out.trans (HC13.out.below HB2.out.size (fun _ _ h => h))⟩
end Go.Proofs.YtnnkbicaokckbaaDoor
