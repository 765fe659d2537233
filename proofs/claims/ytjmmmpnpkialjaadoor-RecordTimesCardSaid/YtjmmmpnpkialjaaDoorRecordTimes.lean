/- RecordTimes: a record whose moment falls, is below 0, or above the greatest, ends what is read; nor is it laid, if its moment may not be. Conditions: none. -/
import Derived.Test.YtjmmmpnpkialjaaDoorRows
import Derived.Test.YtjmmmpnpkialjaaDoorTie
import Derived.Test.YtjmmmpnpkialjaaDoorCards
import Derived.Test.YtjmmmpnpkialjaaDoorCardB
import Derived.SevenTiedAt
import Derived.Test.YtjmmmpnpkialjaaDoorRcW
import Derived.Deep.CutRange
namespace Go.Proofs.YtjmmmpnpkialjaaDoor
open Go.ChangeShapes Go.WideShapes Go.ChangeAt Go.RowKit
open Go.ChangeMaps (open_string shut_string)
set_option linter.unusedVariables false
open Go.Shelf
attribute [local go_sem] Oper.semAt_some

theorem chg_set9 {w w' : World} {b : Nat} (h : Chg (fun k => k = b) w w') (i : Nat) (v : Value) : Chg (fun k => k = b) w (w'.setCell ⟨b, i, none⟩ v) := h.trans (Chg.setCell w' ⟨b, i, none⟩ v) (fun _ _ h => h) (fun _ _ h => h)
theorem sets9_chg (w : World) (b : Nat) (v0 v1 v2 v3 v4 v5 v6 v7 v8 : Value) : Chg (fun k => k = b) w (((((((((w.setCell ⟨b, 0, none⟩ v0).setCell ⟨b, 1, none⟩ v1).setCell ⟨b, 2, none⟩ v2).setCell ⟨b, 3, none⟩ v3).setCell ⟨b, 4, none⟩ v4).setCell ⟨b, 5, none⟩ v5).setCell ⟨b, 6, none⟩ v6).setCell ⟨b, 7, none⟩ v7).setCell ⟨b, 8, none⟩ v8) :=
  chg_set9 (chg_set9 (chg_set9 (chg_set9 (chg_set9 (chg_set9 (chg_set9 (chg_set9 (chg_set9 (Chg.refl _ w) 0 v0) 1 v1) 2 v2) 3 v3) 4 v4) 5 v5) 6 v6) 7 v7) 8 v8
theorem times_plain {r : Rq} (hm : mayRq r = true) {x : Int} (h0 : 0 ≤ x) (h1 : x + 1 ≤ 1099511627776) :
    mayRc ⟨x + 1, r⟩ = true ∧ mayRc ⟨x, r⟩ = true ∧ (layRc ⟨x + 1, r⟩).length ≤ 60016 ∧ (layRc ⟨x, r⟩).length ≤ 60016 ∧
    rdRcs (layRc ⟨x + 1, r⟩ ++ layRc ⟨x, r⟩) = [(((layRc ⟨x + 1, r⟩).length : Int), ⟨x + 1, r⟩)] ∧
    rdRcs (layRc ⟨x, r⟩ ++ layRc ⟨x + 1, r⟩) = placed 0 [⟨x, r⟩, ⟨x + 1, r⟩] := by
  have hl : mayRc ⟨x + 1, r⟩ = true := mayRc_iff.2 ⟨hm, by show 0 ≤ x + 1; omega, h1⟩
  have he : mayRc ⟨x, r⟩ = true := mayRc_iff.2 ⟨hm, h0, by show x ≤ _; omega⟩
  have hq := (layRq_len hm).2
  refine ⟨hl, he, by rw [layRc_len]; show 16 + (layRq r).length ≤ _; omega, by rw [layRc_len]; show 16 + (layRq r).length ≤ _; omega, ?_, ?_⟩
  · have a1 := rdOne_laid hl [] (layRc ⟨x, r⟩) (least := 0) (by show 0 ≤ x + 1; omega)
    have a2 := rdOne_early he (layRc ⟨x + 1, r⟩) [] (least := x + 1) (by show x < x + 1; omega)
    simp only [List.nil_append, List.append_nil, List.length_nil] at a1 a2
    rw [show ((0 : Nat) : Int) + ((layRc ⟨x + 1, r⟩).length : Int) = ((layRc ⟨x + 1, r⟩).length : Int) by omega] at a1
    show recs _ (1998 + 1 + 1) 0 0 = _
    rw [show ((0 : Nat) : Int) = 0 from rfl] at a1
    rw [recs, a1]
    simp only
    rw [recs, a2]
  · have h := rdRcs_all [⟨x, r⟩, ⟨x + 1, r⟩] (fun y hy => by
      rcases List.mem_cons.1 hy with rfl | hy
      · exact he
      · rw [List.mem_singleton.1 hy]; exact hl) ⟨h0, by show x ≤ x + 1; omega, trivial⟩ (by simp)
    simpa using h
set_option maxHeartbeats 4000000 in
set_option maxRecDepth 100000 in
theorem RecordTimes_walk {H : Type} {enc : TypeId × Value → H} (W : World) (hM : Mx W) (cs : Array Value) (hv : Readable enc Tryd.prog W 54 cs.toList) (ax : Int) (hax : (Lit.int .i64 ax).wf = true) :
    Calls Tryd.prog 8 #[.agg cs, .int .i64 ax] W fun e W' => e = .returned (.bool true) ∧ Below W.heap.size W W' := by
  obtain ⟨⟨t, k, i, n, rl, p, ⟨⟨xps, xts, xn⟩, xp, xt⟩⟩, hcs, hxa, hxw, -⟩ := record_of_readable hv
  simp only at hxa hxw
  unfold rc_enc at hcs
  simp only at hcs
  obtain rfl : cs = #[.int .i64 t, .int .i64 k, .int .i64 i, .int .i64 n, .int .i64 rl, .bool p, xp, xt, .string xn] := by cases cs; simp at hcs; rw [hcs]
  have hxp : Rd W xp xps.length (flat int_enc xps) := hxa.ps
  have hxt : Rd W xt xts.length (flat fl_enc xts) := hxa.ts
  obtain ⟨po, pc, rfl, -, -⟩ := hxp.shape
  obtain ⟨qo, qc, rfl, -, -⟩ := hxt.shape
  have h1 := heap_alloc_new W (Obj.cells #[.int .i64 t, .int .i64 k, .int .i64 i, .int .i64 n, .int .i64 rl, .bool p, .slice po xps.length pc, .slice qo xts.length qc, .string xn] 54)
  have hb1 := (Below.refl W.heap.size W).alloc (Nat.le_refl _) (Obj.cells #[.int .i64 t, .int .i64 k, .int .i64 i, .int .i64 n, .int .i64 rl, .bool p, .slice po xps.length pc, .slice qo xts.length qc, .string xn] 54)
  obtain ⟨W1, hW1⟩ : ∃ W1, W1 = W.alloc (Obj.cells #[.int .i64 t, .int .i64 k, .int .i64 i, .int .i64 n, .int .i64 rl, .bool p, .slice po xps.length pc, .slice qo xts.length qc, .string xn] 54) := ⟨_, rfl⟩
  rw [← hW1] at h1 hb1
  have hb2 := hb1.alloc hb1.size (Obj.cells #[.int .i64 t, .int .i64 k, .int .i64 i, .int .i64 n, .int .i64 rl, .bool p, .slice po xps.length pc, .slice qo xts.length qc, .string xn] 54)
  have hgr := GreatRecords_ok (W1.alloc (Obj.cells #[.int .i64 t, .int .i64 k, .int .i64 i, .int .i64 n, .int .i64 rl, .bool p, .slice po xps.length pc, .slice qo xts.length qc, .string xn] 54)) (.slice (some ⟨W1.heap.size, 0, none⟩) 1 1) [⟨t, k, i, n, rl, p, ⟨⟨xps, xts, xn⟩, .slice po xps.length pc, .slice qo xts.length qc⟩⟩] 1 (Rd_lit W1 #[.int .i64 t, .int .i64 k, .int .i64 i, .int .i64 n, .int .i64 rl, .bool p, .slice po xps.length pc, .slice qo xts.length qc, .string xn] 54 1) (by simp [maxLen]) (by decide) (fun x hx => by rw [List.mem_singleton.1 hx]; exact ⟨hxa.same (Chg.of_below0 hb2), hxw⟩)
  obtain ⟨g, hg⟩ : ∃ g, g = greatR 1 [⟨t, k, i, n, rl, p, ⟨⟨xps, xts, xn⟩, .slice po xps.length pc, .slice qo xts.length qc⟩⟩] := ⟨_, rfl⟩
  rw [← hg] at hgr
  have HGR := hide hgr
  have HG := hide hg
  have HP := hide h1
  have HB := hide hb1
  have HB2 := hide hb2
  have HM := hide hM
  have HXA := hide hxa
  have HW1 := hide hW1
  clear h1 hb1 hb2 hgr hg hM hv hcs hxa hxw hxp hxt hW1 hax
  go_enter Tryd.func8, Tryd.ntmps8
  go_upto_region 1 with (fail)
  rw [HW1.out.symm]
  clear HW1
  have c0 := cell_of_heap HP.out 0
  have c1 := cell_of_heap HP.out 1
  have c2 := cell_of_heap HP.out 2
  have c3 := cell_of_heap HP.out 3
  have c4 := cell_of_heap HP.out 4
  have c5 := cell_of_heap HP.out 5
  have c6 := cell_of_heap HP.out 6
  have c7 := cell_of_heap HP.out 7
  have c8 := cell_of_heap HP.out 8
  simp at c0 c1 c2 c3 c4 c5 c6 c7 c8
  go_wp2_with fail
  refine HGR.out.mono ?_
  rintro e w2 ⟨rfl, hb2⟩
  replace HB := hide (HB2.out.trans (hb2.mono HB2.out.size))
  replace HP := hide ((Chg.of_below0 (S := fun _ => False) hb2).heap ((Chg.alloc (fun _ => False) W1 (Obj.cells #[.int .i64 t, .int .i64 k, .int .i64 i, .int .i64 n, .int .i64 rl, .bool p, .slice po xps.length pc, .slice qo xts.length qc, .string xn] 54)).heap HP.out (fun h => h)) (fun h => h))
  clear hb2 HGR HB2 c0 c1 c2 c3 c4 c5 c6 c7 c8
  cases g with
  | true =>
    go_wp2_with fail
    refine (awake18 _ (HM.out.below HB.out HM.out.pos)).mono ?_
    rintro e w3 ⟨rfl, hb3⟩
    replace HB := hide (HB.out.trans (hb3.mono HB.out.size))
    clear hb3
    go_wp2_with fail
    go_ret
    exact ⟨rfl, HB.out⟩
  | false =>
  have hsm := (great_rc HG.out.symm).2 ⟨t, k, i, n, rl, p, ⟨⟨xps, xts, xn⟩, .slice po xps.length pc, .slice qo xts.length qc⟩⟩ (by simp)
  obtain ⟨hf1, hn1, -⟩ := great_small hsm
  have HXR0 : Hid (∀ W9, Below W.heap.size W W9 → ∀ T : Int, RcAt W9 ⟨T, k, i, n, rl, p, ⟨⟨xps, xts, xn⟩, .slice po xps.length pc, .slice qo xts.length qc⟩⟩) := hide (fun W9 h T => ⟨HXA.out.same (Chg.of_below0 h), hf1, hn1⟩)
  clear hsm hf1 hn1 HG HXA
  have c0 := cell_of_heap HP.out 0
  have c1 := cell_of_heap HP.out 1
  have c2 := cell_of_heap HP.out 2
  have c3 := cell_of_heap HP.out 3
  have c4 := cell_of_heap HP.out 4
  have c5 := cell_of_heap HP.out 5
  have c6 := cell_of_heap HP.out 6
  have c7 := cell_of_heap HP.out 7
  have c8 := cell_of_heap HP.out 8
  simp at c0 c1 c2 c3 c4 c5 c6 c7 c8
  have hb3 := HB.out.alloc HB.out.size (Obj.cells #[.int .i64 t, .int .i64 k, .int .i64 i, .int .i64 n, .int .i64 rl, .bool p, .slice po xps.length pc, .slice qo xts.length qc, .string xn] 54)
  have hly := record_Lay (w2.alloc (Obj.cells #[.int .i64 t, .int .i64 k, .int .i64 i, .int .i64 n, .int .i64 rl, .bool p, .slice po xps.length pc, .slice qo xts.length qc, .string xn] 54)) (.slice (some ⟨w2.heap.size, 0, none⟩) 1 1) [⟨t, k, i, n, rl, p, ⟨⟨xps, xts, xn⟩, .slice po xps.length pc, .slice qo xts.length qc⟩⟩] (Rd_lit w2 #[.int .i64 t, .int .i64 k, .int .i64 i, .int .i64 n, .int .i64 rl, .bool p, .slice po xps.length pc, .slice qo xts.length qc, .string xn] 54 1) (by simp) (fun y hy => by rw [List.mem_singleton.1 hy]; exact HXR0.out _ hb3 t) (HM.out.below hb3 HM.out.pos)
  obtain ⟨Z9, hZ9⟩ : ∃ Z, Z = layRcs (rcs [⟨t, k, i, n, rl, p, ⟨⟨xps, xts, xn⟩, .slice po xps.length pc, .slice qo xts.length qc⟩⟩]) := ⟨_, rfl⟩
  rw [← hZ9] at hly
  have HLY := hide hly
  have HZ9 := hide hZ9
  have HB3 := hide hb3
  clear hb3 hly hZ9
  go_wp2_with fail
  refine HLY.out.mono ?_
  rintro e w3 ⟨hb4, ao3, cap3, rfl, -⟩
  replace HP := hide ((Chg.of_below0 (S := fun _ => False) hb4).heap ((Chg.alloc (fun _ => False) w2 (Obj.cells #[.int .i64 t, .int .i64 k, .int .i64 i, .int .i64 n, .int .i64 rl, .bool p, .slice po xps.length pc, .slice qo xts.length qc, .string xn] 54)).heap HP.out (fun h => h)) (fun h => h))
  replace HB := hide (HB3.out.trans (hb4.mono HB3.out.size))
  clear hb4 HB3 HLY c0 c1 c2 c3 c4 c5 c6 c7 c8
  cases hmy : mayRc (RcV.rc ⟨t, k, i, n, rl, p, ⟨⟨xps, xts, xn⟩, .slice po xps.length pc, .slice qo xts.length qc⟩⟩) with
  | false =>
    have hz0 : Z9.length = 0 := by rw [HZ9.out]; exact congrArg List.length (layRcs_one_no hmy)
    have hzz : ((Z9.length : Int) == 0) = true := by rw [beq_iff_eq]; omega
    clear hmy hz0
    go_wp2_with fail
    refine (awake18 _ (HM.out.below HB.out HM.out.pos)).mono ?_
    rintro e w3 ⟨rfl, hb3⟩
    replace HB := hide (HB.out.trans (hb3.mono HB.out.size))
    clear hb3
    go_wp2_with fail
    go_ret
    exact ⟨rfl, HB.out⟩
  | true =>
  have hz0 : 56 ≤ Z9.length := by have h5 := layRcs_one_yes hmy; rw [HZ9.out]; show 56 ≤ (layRcs [RcV.rc ⟨t, k, i, n, rl, p, ⟨⟨xps, xts, xn⟩, .slice po xps.length pc, .slice qo xts.length qc⟩⟩]).length; rw [h5.1]; exact h5.2
  have hzz : ((Z9.length : Int) == 0) = false := by rw [beq_eq_false_iff_ne]; omega
  have HMQ := hide (mayRc_iff.1 hmy).1
  clear hmy hz0 HZ9
  have c0 := cell_of_heap HP.out 0
  have c1 := cell_of_heap HP.out 1
  have c2 := cell_of_heap HP.out 2
  have c3 := cell_of_heap HP.out 3
  have c4 := cell_of_heap HP.out 4
  have c5 := cell_of_heap HP.out 5
  have c6 := cell_of_heap HP.out 6
  have c7 := cell_of_heap HP.out 7
  have c8 := cell_of_heap HP.out 8
  simp at c0 c1 c2 c3 c4 c5 c6 c7 c8
  have hal := Chg.alloc (fun _ => False) w3 (Obj.cells #[.int .i64 t, .int .i64 k, .int .i64 i, .int .i64 n, .int .i64 rl, .bool p, .slice po xps.length pc, .slice qo xts.length qc, .string xn] 54)
  have h5 := heap_alloc_new w3 (Obj.cells #[.int .i64 t, .int .i64 k, .int .i64 i, .int .i64 n, .int .i64 rl, .bool p, .slice po xps.length pc, .slice qo xts.length qc, .string xn] 54)
  obtain ⟨w4, hw4⟩ : ∃ w4, w4 = w3.alloc (Obj.cells #[.int .i64 t, .int .i64 k, .int .i64 i, .int .i64 n, .int .i64 rl, .bool p, .slice po xps.length pc, .slice qo xts.length qc, .string xn] 54) := ⟨_, rfl⟩
  rw [← hw4] at hal h5
  obtain ⟨p5, hp5⟩ : ∃ p5, p5 = w3.heap.size := ⟨_, rfl⟩
  rw [← hp5] at h5
  have HP5 := hide h5
  have HW4 := hide hw4
  have HQ5 := hide hp5
  have HGP := hide (show W.heap.size < w3.heap.size from (Array.getElem?_eq_some_iff.1 HP.out).1)
  replace HP := hide (hal.heap HP.out (fun h => h))
  replace HB := hide (HB.out.trans (hal.below (n := W.heap.size) HB.out.size (fun _ _ h => h)))
  clear hal h5 hw4 hp5
  go_upto_region 4 with (fail)
  rw [HW4.out.symm, HQ5.out.symm]
  clear HW4
  have hlow := Low_ok w4 ax 1000 (by decide) (by decide)
  have hlt := low_lt ax 1000 (by decide)
  obtain ⟨lo, hlo⟩ : ∃ lo, lo = low ax 1000 := ⟨_, rfl⟩
  rw [← hlo] at hlow hlt
  have HLOW := hide hlow
  have HLT := hide hlt
  have hw1 : IntKind.i64.wrap ((lo : Int) + 1) = (lo : Int) + 1 := IntWalk.i64_in _ (by omega)
  have hw2 : IntKind.i64.wrap ((lo : Int) + 1 - 1) = (lo : Int) := by rw [show (lo : Int) + 1 - 1 = (lo : Int) by omega]; exact IntWalk.i64_in _ (by omega)
  have hw3 : wrap64 (lo : Int) = (lo : Int) := by unfold wrap64; omega
  have t5 := cell_of_heap HP5.out 0
  have u5 := free_of_heap HP5.out 0
  simp at t5 u5
  clear hlow hlt hlo c0 c1 c2 c3 c4 c5 c6 c7 c8
  go_upto_region 5 with ((refine HLOW.out.mono ?_; rintro e w5 ⟨rfl, rfl⟩))
  have hcs := Chg.setCell w5 ⟨p5, 0, none⟩ (.int .i64 ((lo : Int) + 1))
  have hl5 : (w5.setCell ⟨p5, 0, none⟩ (.int .i64 ((lo : Int) + 1))).heap[p5]? = some (.cells #[.int .i64 ((lo : Int) + 1), .int .i64 k, .int .i64 i, .int .i64 n, .int .i64 rl, .bool p, .slice po xps.length pc, .slice qo xts.length qc, .string xn] 54 (0, 0)) := heap_setCell_same HP5.out (i := 0) (.int .i64 ((lo : Int) + 1))
  replace HP := hide (hcs.heap HP.out (fun h => by have h5 : W.heap.size = p5 := h; have h6 := HQ5.out; have h7 := HGP.out; omega))
  replace HB := hide (HB.out.trans (hcs.below (n := W.heap.size) HB.out.size (fun kk hk h => by have h5 : kk = p5 := h; have h6 := HQ5.out; have h7 := HGP.out; omega)))
  have hg9 := hcs.size
  generalize w5.setCell ⟨p5, 0, none⟩ (.int .i64 ((lo : Int) + 1)) = v5 at hcs hl5 HP HB hg9 ⊢
  replace HP5 := hide hl5
  clear hcs hl5 t5 u5 HLOW hg9
  have c0 := cell_of_heap HP.out 0
  have c1 := cell_of_heap HP.out 1
  have c2 := cell_of_heap HP.out 2
  have c3 := cell_of_heap HP.out 3
  have c4 := cell_of_heap HP.out 4
  have c5 := cell_of_heap HP.out 5
  have c6 := cell_of_heap HP.out 6
  have c7 := cell_of_heap HP.out 7
  have c8 := cell_of_heap HP.out 8
  simp at c0 c1 c2 c3 c4 c5 c6 c7 c8
  have hal := Chg.alloc (fun _ => False) v5 (Obj.cells #[.int .i64 t, .int .i64 k, .int .i64 i, .int .i64 n, .int .i64 rl, .bool p, .slice po xps.length pc, .slice qo xts.length qc, .string xn] 54)
  have h6 := heap_alloc_new v5 (Obj.cells #[.int .i64 t, .int .i64 k, .int .i64 i, .int .i64 n, .int .i64 rl, .bool p, .slice po xps.length pc, .slice qo xts.length qc, .string xn] 54)
  obtain ⟨v6, hv6⟩ : ∃ v6, v6 = v5.alloc (Obj.cells #[.int .i64 t, .int .i64 k, .int .i64 i, .int .i64 n, .int .i64 rl, .bool p, .slice po xps.length pc, .slice qo xts.length qc, .string xn] 54) := ⟨_, rfl⟩
  rw [← hv6] at hal h6
  obtain ⟨p6, hp6⟩ : ∃ p6, p6 = v5.heap.size := ⟨_, rfl⟩
  rw [← hp6] at h6
  have HP6 := hide h6
  have HV6 := hide hv6
  have HQ6 := hide hp6
  have HG6 := hide (show W.heap.size < v5.heap.size ∧ p5 < v5.heap.size from ⟨(Array.getElem?_eq_some_iff.1 HP.out).1, (Array.getElem?_eq_some_iff.1 HP5.out).1⟩)
  replace HP := hide (hal.heap HP.out (fun h => h))
  replace HP5 := hide (hal.heap HP5.out (fun h => h))
  replace HB := hide (HB.out.trans (hal.below (n := W.heap.size) HB.out.size (fun _ _ h => h)))
  clear hal h6 hv6 hp6
  go_upto_region 6 with (fail)
  rw [HV6.out.symm, HQ6.out.symm]
  clear HV6 c0 c1 c2 c3 c4 c5 c6 c7 c8
  have t5 := cell_of_heap HP5.out 0
  have t6 := cell_of_heap HP6.out 0
  have u6 := free_of_heap HP6.out 0
  simp at t5 t6 u6
  go_upto_region 7 with (fail)
  rw [hw3]
  have hcs := Chg.setCell v6 ⟨p6, 0, none⟩ (.int .i64 (lo : Int))
  have hl6 : (v6.setCell ⟨p6, 0, none⟩ (.int .i64 (lo : Int))).heap[p6]? = some (.cells #[.int .i64 (lo : Int), .int .i64 k, .int .i64 i, .int .i64 n, .int .i64 rl, .bool p, .slice po xps.length pc, .slice qo xts.length qc, .string xn] 54 (0, 0)) := heap_setCell_same HP6.out (i := 0) (.int .i64 (lo : Int))
  replace HP := hide (hcs.heap HP.out (fun h => by have h5 : W.heap.size = p6 := h; have h6 := HQ6.out; have h7 := HG6.out; omega))
  replace HP5 := hide (hcs.heap HP5.out (fun h => by have h5 : p5 = p6 := h; have h6 := HQ6.out; have h7 := HG6.out; omega))
  replace HB := hide (HB.out.trans (hcs.below (n := W.heap.size) HB.out.size (fun kk hk h => by have h5 : kk = p6 := h; have h6 := HQ6.out; have h7 := HG6.out; omega)))
  generalize v6.setCell ⟨p6, 0, none⟩ (.int .i64 (lo : Int)) = w6 at hcs hl6 HP HP5 HB ⊢
  replace HP6 := hide hl6
  clear hcs hl6 t5 t6 u6 HQ5 HQ6 HG6 HGP
  have HXR := hide (fun W9 (h : Chg (fun _ => False) w6 W9) (T : Int) => HXR0.out W9 (HB.out.trans (h.below (n := W.heap.size) HB.out.size (fun _ _ h => h))) T)
  have HMX := hide (HM.out.below HB.out HM.out.pos)
  obtain ⟨R9, hR9⟩ : ∃ r, r = RqV.r ⟨k, i, n, rl, p, ⟨⟨xps, xts, xn⟩, .slice po xps.length pc, .slice qo xts.length qc⟩⟩ := ⟨_, rfl⟩
  have hpl := times_plain (r := R9) (x := (lo : Int)) (by rw [hR9]; exact HMQ.out) (by omega) (by have := HLT.out; omega)
  obtain ⟨hla, hea, hal, hbl, hr1, hr2⟩ := hpl
  have hxl : RcV.rc ⟨((lo : Int) + 1), k, i, n, rl, p, ⟨⟨xps, xts, xn⟩, .slice po xps.length pc, .slice qo xts.length qc⟩⟩ = ⟨(lo : Int) + 1, R9⟩ := by rw [hR9]; rfl
  have hxe : RcV.rc ⟨(lo : Int), k, i, n, rl, p, ⟨⟨xps, xts, xn⟩, .slice po xps.length pc, .slice qo xts.length qc⟩⟩ = ⟨(lo : Int), R9⟩ := by rw [hR9]; rfl
  obtain ⟨L9, hL9⟩ : ∃ L : Rc, L = ⟨(lo : Int) + 1, R9⟩ := ⟨_, rfl⟩
  obtain ⟨E9, hE9⟩ : ∃ L : Rc, L = ⟨(lo : Int), R9⟩ := ⟨_, rfl⟩
  rw [← hL9] at hla hal hr1 hr2 hxl
  rw [← hE9] at hea hbl hr1 hr2 hxe
  obtain ⟨A, hA⟩ : ∃ A, A = layRc L9 := ⟨_, rfl⟩
  obtain ⟨Bb, hBb⟩ : ∃ Bb, Bb = layRc E9 := ⟨_, rfl⟩
  have hend2 : endRc (placed 0 [E9, L9]) = ((Bb.length + A.length : Nat) : Int) := by rw [endRc_placed, hA, hBb]; simp
  rw [← hA, ← hBb] at hr1 hr2
  rw [← hA] at hal
  rw [← hBb] at hbl
  have HLA := hide (show layRcs (rcs [⟨((lo : Int) + 1), k, i, n, rl, p, ⟨⟨xps, xts, xn⟩, .slice po xps.length pc, .slice qo xts.length qc⟩⟩]) = A by rw [hA, show rcs [⟨((lo : Int) + 1), k, i, n, rl, p, ⟨⟨xps, xts, xn⟩, .slice po xps.length pc, .slice qo xts.length qc⟩⟩] = [RcV.rc ⟨((lo : Int) + 1), k, i, n, rl, p, ⟨⟨xps, xts, xn⟩, .slice po xps.length pc, .slice qo xts.length qc⟩⟩] from rfl, hxl]; exact (layRcs_one_yes hla).1)
  have HLB := hide (show layRcs (rcs [⟨(lo : Int), k, i, n, rl, p, ⟨⟨xps, xts, xn⟩, .slice po xps.length pc, .slice qo xts.length qc⟩⟩]) = Bb by rw [hBb, show rcs [⟨(lo : Int), k, i, n, rl, p, ⟨⟨xps, xts, xn⟩, .slice po xps.length pc, .slice qo xts.length qc⟩⟩] = [RcV.rc ⟨(lo : Int), k, i, n, rl, p, ⟨⟨xps, xts, xn⟩, .slice po xps.length pc, .slice qo xts.length qc⟩⟩] from rfl, hxe]; exact (layRcs_one_yes hea).1)
  have HAL := hide hal
  have HBL := hide hbl
  have HR1 := hide hr1
  have HR2 := hide hr2
  have HE2 := hide hend2
  have HXL := hide hxl
  have HXE := hide hxe
  clear hla hea hal hbl hr1 hr2 hend2 hxl hxe hL9 hE9 hA hBb hR9
  go_cut [7, 8] from 36 to 41 (fun s u wc => ∃ ao cap bo cbp, s = .slice ao A.length cap ∧ u = .slice bo Bb.length cbp ∧ wc.ownsRow w6.heap.size 5 1 (.slice ao A.length cap) A.length (u8s A) ∧ wc.ownsRow w6.heap.size 5 1 (.slice bo Bb.length cbp) Bb.length (u8s Bb) ∧ Chg (fun _ => False) w6 wc)
  case first =>
    have cl0 := cell_of_heap HP5.out 0
    have cl1 := cell_of_heap HP5.out 1
    have cl2 := cell_of_heap HP5.out 2
    have cl3 := cell_of_heap HP5.out 3
    have cl4 := cell_of_heap HP5.out 4
    have cl5 := cell_of_heap HP5.out 5
    have cl6 := cell_of_heap HP5.out 6
    have cl7 := cell_of_heap HP5.out 7
    have cl8 := cell_of_heap HP5.out 8
    simp at cl0 cl1 cl2 cl3 cl4 cl5 cl6 cl7 cl8
    have ce0 := cell_of_heap HP6.out 0
    have ce1 := cell_of_heap HP6.out 1
    have ce2 := cell_of_heap HP6.out 2
    have ce3 := cell_of_heap HP6.out 3
    have ce4 := cell_of_heap HP6.out 4
    have ce5 := cell_of_heap HP6.out 5
    have ce6 := cell_of_heap HP6.out 6
    have ce7 := cell_of_heap HP6.out 7
    have ce8 := cell_of_heap HP6.out 8
    simp at ce0 ce1 ce2 ce3 ce4 ce5 ce6 ce7 ce8
    refine reg_start (Chg (fun _ => False) w6) 8 8 (by rfl) (by kernel_rfl) (Chg.drew _ _) ?_
    intro hS0
    have hSc := hS0
    refine reg_take (i := 0) (v := ?g2v) rfl (by kernel_rfl) (by kernel_rfl) (by kernel_rfl) (by kernel_rfl) (fun _ _ _ h => h) (by rfl) ?g2y (by assumption) ?g2r
    case g2y => (intro W hS; have fl0 := hS.cell cl0 (fun h => h); have fl1 := hS.cell cl1 (fun h => h); have fl2 := hS.cell cl2 (fun h => h); have fl3 := hS.cell cl3 (fun h => h); have fl4 := hS.cell cl4 (fun h => h); have fl5 := hS.cell cl5 (fun h => h); have fl6 := hS.cell cl6 (fun h => h); have fl7 := hS.cell cl7 (fun h => h); have fl8 := hS.cell cl8 (fun h => h); have fe0 := hS.cell ce0 (fun h => h); have fe1 := hS.cell ce1 (fun h => h); have fe2 := hS.cell ce2 (fun h => h); have fe3 := hS.cell ce3 (fun h => h); have fe4 := hS.cell ce4 (fun h => h); have fe5 := hS.cell ce5 (fun h => h); have fe6 := hS.cell ce6 (fun h => h); have fe7 := hS.cell ce7 (fun h => h); have fe8 := hS.cell ce8 (fun h => h); first | (go_simp; done) | (go_simp; with_reducible rfl))
    simp only [Act.put, List.setIfInBounds_toArray, List.set_cons_zero, List.set_cons_succ]
    refine reg_take (i := 3) (v := ?g3v) rfl (by kernel_rfl) (by kernel_rfl) (by kernel_rfl) (by kernel_rfl) (fun _ _ _ h => h) (by rfl) ?g3y (by assumption) ?g3r
    case g3y => (intro W hS; have fl0 := hS.cell cl0 (fun h => h); have fl1 := hS.cell cl1 (fun h => h); have fl2 := hS.cell cl2 (fun h => h); have fl3 := hS.cell cl3 (fun h => h); have fl4 := hS.cell cl4 (fun h => h); have fl5 := hS.cell cl5 (fun h => h); have fl6 := hS.cell cl6 (fun h => h); have fl7 := hS.cell cl7 (fun h => h); have fl8 := hS.cell cl8 (fun h => h); have fe0 := hS.cell ce0 (fun h => h); have fe1 := hS.cell ce1 (fun h => h); have fe2 := hS.cell ce2 (fun h => h); have fe3 := hS.cell ce3 (fun h => h); have fe4 := hS.cell ce4 (fun h => h); have fe5 := hS.cell ce5 (fun h => h); have fe6 := hS.cell ce6 (fun h => h); have fe7 := hS.cell ce7 (fun h => h); have fe8 := hS.cell ce8 (fun h => h); first | (go_simp; done) | (go_simp; with_reducible rfl))
    simp only [Act.put, List.setIfInBounds_toArray, List.set_cons_zero, List.set_cons_succ]
    refine reg_two (i := 1) (j := 4) (by kernel_rfl) ?_ ?_
    · refine op_val (i := 1) rfl (by rfl) (v := .slice (some ⟨w6.drew.heap.size, 0, none⟩) 1 1) (w' := w6.drew.alloc (Obj.cells #[.int .i64 ((lo : Int) + 1), .int .i64 k, .int .i64 i, .int .i64 n, .int .i64 rl, .bool p, .slice po xps.length pc, .slice qo xts.length qc, .string xn] 54)) (by go_simp) ?_
      have hal := Chg.alloc (fun _ => False) w6.drew (Obj.cells #[.int .i64 ((lo : Int) + 1), .int .i64 k, .int .i64 i, .int .i64 n, .int .i64 rl, .bool p, .slice po xps.length pc, .slice qo xts.length qc, .string xn] 54)
      have hl := Rd_lit w6.drew #[.int .i64 ((lo : Int) + 1), .int .i64 k, .int .i64 i, .int .i64 n, .int .i64 rl, .bool p, .slice po xps.length pc, .slice qo xts.length qc, .string xn] 54 1
      have hSc : Chg (fun _ => False) w6 (w6.drew.alloc (Obj.cells #[.int .i64 ((lo : Int) + 1), .int .i64 k, .int .i64 i, .int .i64 n, .int .i64 rl, .bool p, .slice po xps.length pc, .slice qo xts.length qc, .string xn] 54)) := hSc.trans hal (fun _ _ h => h) (fun _ _ h => h)
      generalize w6.drew.alloc (Obj.cells #[.int .i64 ((lo : Int) + 1), .int .i64 k, .int .i64 i, .int .i64 n, .int .i64 rl, .bool p, .slice po xps.length pc, .slice qo xts.length qc, .string xn] 54) = z37 at hal hl hSc ⊢
      generalize w6.drew.heap.size = qa at hl ⊢
      have HLa := hide hl
      clear hal hl
      refine ⟨hSc, ?_⟩
      simp only [Act.put, List.setIfInBounds_toArray, List.set_cons_zero, List.set_cons_succ]
      refine reg_two (i := 2) (j := 4) (by kernel_rfl) ?_ ?_
      · refine op_call (i := 2) (#[.slice (some ⟨qa, 0, none⟩) 1 1]) rfl (by rfl) (enters_of Tryd.func28 (by kernel_rfl) rfl) (by first | (simp [Act.eval]; done) | rfl | (simp only [List.map_toArray, List.map_cons, List.map_nil, Act.eval]; rfl) | (simp [Act.eval]; trace_state; done)) ?_
        refine (record_Lay _ _ [⟨((lo : Int) + 1), k, i, n, rl, p, ⟨⟨xps, xts, xn⟩, .slice po xps.length pc, .slice qo xts.length qc⟩⟩] HLa.out (by simp) (fun y hy => by rw [List.mem_singleton.1 hy]; exact HXR.out _ hSc ((lo : Int) + 1)) (HMX.out.chg hSc (fun h => h))).mono ?_
        rw [show layRcs (rcs [⟨((lo : Int) + 1), k, i, n, rl, p, ⟨⟨xps, xts, xn⟩, .slice po xps.length pc, .slice qo xts.length qc⟩⟩]) = A from HLA.out]
        rintro e z3738 ⟨hb6, aoA, capA, rfl, hoA⟩
        have hSz := hSc
        have hc6 := Chg.of_below0 (S := fun _ => False) hb6
        have hSc := hSc.trans hc6 (S'' := fun _ => False) (fun _ _ h => h) (fun _ _ h => h)
        have HOA := hide (ownsRow_base hoA (base' := w6.heap.size) (fun j hj => by have h5 := (ownsRow_lt hoA j hj).1; have h6 := hSz.size; omega))
        clear hb6 hc6 hoA
        refine ⟨_, rfl, hSc, ?_⟩
        simp only [Act.put, List.setIfInBounds_toArray, List.set_cons_zero, List.set_cons_succ]
        refine reg_one (i := 4) (by kernel_rfl) ?_
        refine op_val (i := 4) rfl (by rfl) (v := .slice (some ⟨z3738.heap.size, 0, none⟩) 1 1) (w' := z3738.alloc (Obj.cells #[.int .i64 (lo : Int), .int .i64 k, .int .i64 i, .int .i64 n, .int .i64 rl, .bool p, .slice po xps.length pc, .slice qo xts.length qc, .string xn] 54)) (by go_simp) ?_
        have hal := Chg.alloc (fun _ => False) z3738 (Obj.cells #[.int .i64 (lo : Int), .int .i64 k, .int .i64 i, .int .i64 n, .int .i64 rl, .bool p, .slice po xps.length pc, .slice qo xts.length qc, .string xn] 54)
        have hl := Rd_lit z3738 #[.int .i64 (lo : Int), .int .i64 k, .int .i64 i, .int .i64 n, .int .i64 rl, .bool p, .slice po xps.length pc, .slice qo xts.length qc, .string xn] 54 1
        have hSc : Chg (fun _ => False) w6 (z3738.alloc (Obj.cells #[.int .i64 (lo : Int), .int .i64 k, .int .i64 i, .int .i64 n, .int .i64 rl, .bool p, .slice po xps.length pc, .slice qo xts.length qc, .string xn] 54)) := hSc.trans hal (fun _ _ h => h) (fun _ _ h => h)
        generalize z3738.alloc (Obj.cells #[.int .i64 (lo : Int), .int .i64 k, .int .i64 i, .int .i64 n, .int .i64 rl, .bool p, .slice po xps.length pc, .slice qo xts.length qc, .string xn] 54) = z373840 at hal hl hSc ⊢
        generalize z3738.heap.size = qb at hl ⊢
        have HLb := hide hl
        replace HOA := hide (hal.owns HOA.out (fun _ _ h => h))
        clear hal hl
        refine ⟨hSc, ?_⟩
        simp only [Act.put, List.setIfInBounds_toArray, List.set_cons_zero, List.set_cons_succ]
        refine reg_one (i := 5) (by kernel_rfl) ?_
        refine op_call (i := 5) (#[.slice (some ⟨qb, 0, none⟩) 1 1]) rfl (by rfl) (enters_of Tryd.func28 (by kernel_rfl) rfl) (by first | (simp [Act.eval]; done) | rfl | (simp only [List.map_toArray, List.map_cons, List.map_nil, Act.eval]; rfl) | (simp [Act.eval]; trace_state; done)) ?_
        refine (record_Lay _ _ [⟨(lo : Int), k, i, n, rl, p, ⟨⟨xps, xts, xn⟩, .slice po xps.length pc, .slice qo xts.length qc⟩⟩] HLb.out (by simp) (fun y hy => by rw [List.mem_singleton.1 hy]; exact HXR.out _ hSc (lo : Int)) (HMX.out.chg hSc (fun h => h))).mono ?_
        rw [show layRcs (rcs [⟨(lo : Int), k, i, n, rl, p, ⟨⟨xps, xts, xn⟩, .slice po xps.length pc, .slice qo xts.length qc⟩⟩]) = Bb from HLB.out]
        rintro e z37384041 ⟨hb6, aoB, capB, rfl, hoB⟩
        have hSz := hSc
        have hc6 := Chg.of_below0 (S := fun _ => False) hb6
        have hSc := hSc.trans hc6 (S'' := fun _ => False) (fun _ _ h => h) (fun _ _ h => h)
        replace HOA := hide (hc6.owns HOA.out (fun _ _ h => h))
        have HOB := hide (ownsRow_base hoB (base' := w6.heap.size) (fun j hj => by have h5 := (ownsRow_lt hoB j hj).1; have h6 := hSz.size; omega))
        clear hb6 hc6 hoB
        refine ⟨_, rfl, hSc, ?_⟩
        simp only [Act.put, List.setIfInBounds_toArray, List.set_cons_zero, List.set_cons_succ]
        refine reg_take (i := 6) (v := ?g4v) rfl (by kernel_rfl) (by kernel_rfl) (by kernel_rfl) (by kernel_rfl) (fun _ _ _ h => h) (by rfl) ?g4y (by assumption) ?g4r
        case g4y => (intro W hS; first | (go_simp; done) | (go_simp; with_reducible rfl))
        simp only [Act.put, List.setIfInBounds_toArray, List.set_cons_zero, List.set_cons_succ]
        refine reg_take (i := 7) (v := ?g5v) rfl (by kernel_rfl) (by kernel_rfl) (by kernel_rfl) (by kernel_rfl) (fun _ _ _ h => h) (by rfl) ?g5y (by assumption) ?g5r
        case g5y => (intro W hS; first | (go_simp; done) | (go_simp; with_reducible rfl))
        simp only [Act.put, List.setIfInBounds_toArray, List.set_cons_zero, List.set_cons_succ]
        refine wpAnyG_done (by kernel_rfl) ?_ _
        go_wp2
        go_meet
        exact ⟨_, _, _, _, rfl, rfl, HOA.out, HOB.out, hSc⟩
      · refine op_val (i := 4) rfl (by rfl) (v := .slice (some ⟨z37.heap.size, 0, none⟩) 1 1) (w' := z37.alloc (Obj.cells #[.int .i64 (lo : Int), .int .i64 k, .int .i64 i, .int .i64 n, .int .i64 rl, .bool p, .slice po xps.length pc, .slice qo xts.length qc, .string xn] 54)) (by go_simp) ?_
        have hal := Chg.alloc (fun _ => False) z37 (Obj.cells #[.int .i64 (lo : Int), .int .i64 k, .int .i64 i, .int .i64 n, .int .i64 rl, .bool p, .slice po xps.length pc, .slice qo xts.length qc, .string xn] 54)
        have hl := Rd_lit z37 #[.int .i64 (lo : Int), .int .i64 k, .int .i64 i, .int .i64 n, .int .i64 rl, .bool p, .slice po xps.length pc, .slice qo xts.length qc, .string xn] 54 1
        have hSc : Chg (fun _ => False) w6 (z37.alloc (Obj.cells #[.int .i64 (lo : Int), .int .i64 k, .int .i64 i, .int .i64 n, .int .i64 rl, .bool p, .slice po xps.length pc, .slice qo xts.length qc, .string xn] 54)) := hSc.trans hal (fun _ _ h => h) (fun _ _ h => h)
        generalize z37.alloc (Obj.cells #[.int .i64 (lo : Int), .int .i64 k, .int .i64 i, .int .i64 n, .int .i64 rl, .bool p, .slice po xps.length pc, .slice qo xts.length qc, .string xn] 54) = z3740 at hal hl hSc ⊢
        generalize z37.heap.size = qb at hl ⊢
        have HLb := hide hl
        replace HLa := hide (HLa.out.chg hal (fun _ _ _ h => h))
        clear hal hl
        refine ⟨hSc, ?_⟩
        simp only [Act.put, List.setIfInBounds_toArray, List.set_cons_zero, List.set_cons_succ]
        refine reg_one (i := 2) (by kernel_rfl) ?_
        refine op_call (i := 2) (#[.slice (some ⟨qa, 0, none⟩) 1 1]) rfl (by rfl) (enters_of Tryd.func28 (by kernel_rfl) rfl) (by first | (simp [Act.eval]; done) | rfl | (simp only [List.map_toArray, List.map_cons, List.map_nil, Act.eval]; rfl) | (simp [Act.eval]; trace_state; done)) ?_
        refine (record_Lay _ _ [⟨((lo : Int) + 1), k, i, n, rl, p, ⟨⟨xps, xts, xn⟩, .slice po xps.length pc, .slice qo xts.length qc⟩⟩] HLa.out (by simp) (fun y hy => by rw [List.mem_singleton.1 hy]; exact HXR.out _ hSc ((lo : Int) + 1)) (HMX.out.chg hSc (fun h => h))).mono ?_
        rw [show layRcs (rcs [⟨((lo : Int) + 1), k, i, n, rl, p, ⟨⟨xps, xts, xn⟩, .slice po xps.length pc, .slice qo xts.length qc⟩⟩]) = A from HLA.out]
        rintro e z374038 ⟨hb6, aoA, capA, rfl, hoA⟩
        have hSz := hSc
        have hc6 := Chg.of_below0 (S := fun _ => False) hb6
        have hSc := hSc.trans hc6 (S'' := fun _ => False) (fun _ _ h => h) (fun _ _ h => h)
        replace HLb := hide (HLb.out.chg hc6 (fun _ _ _ h => h))
        have HOA := hide (ownsRow_base hoA (base' := w6.heap.size) (fun j hj => by have h5 := (ownsRow_lt hoA j hj).1; have h6 := hSz.size; omega))
        clear hb6 hc6 hoA
        refine ⟨_, rfl, hSc, ?_⟩
        simp only [Act.put, List.setIfInBounds_toArray, List.set_cons_zero, List.set_cons_succ]
        refine reg_one (i := 5) (by kernel_rfl) ?_
        refine op_call (i := 5) (#[.slice (some ⟨qb, 0, none⟩) 1 1]) rfl (by rfl) (enters_of Tryd.func28 (by kernel_rfl) rfl) (by first | (simp [Act.eval]; done) | rfl | (simp only [List.map_toArray, List.map_cons, List.map_nil, Act.eval]; rfl) | (simp [Act.eval]; trace_state; done)) ?_
        refine (record_Lay _ _ [⟨(lo : Int), k, i, n, rl, p, ⟨⟨xps, xts, xn⟩, .slice po xps.length pc, .slice qo xts.length qc⟩⟩] HLb.out (by simp) (fun y hy => by rw [List.mem_singleton.1 hy]; exact HXR.out _ hSc (lo : Int)) (HMX.out.chg hSc (fun h => h))).mono ?_
        rw [show layRcs (rcs [⟨(lo : Int), k, i, n, rl, p, ⟨⟨xps, xts, xn⟩, .slice po xps.length pc, .slice qo xts.length qc⟩⟩]) = Bb from HLB.out]
        rintro e z37403841 ⟨hb6, aoB, capB, rfl, hoB⟩
        have hSz := hSc
        have hc6 := Chg.of_below0 (S := fun _ => False) hb6
        have hSc := hSc.trans hc6 (S'' := fun _ => False) (fun _ _ h => h) (fun _ _ h => h)
        replace HOA := hide (hc6.owns HOA.out (fun _ _ h => h))
        have HOB := hide (ownsRow_base hoB (base' := w6.heap.size) (fun j hj => by have h5 := (ownsRow_lt hoB j hj).1; have h6 := hSz.size; omega))
        clear hb6 hc6 hoB
        refine ⟨_, rfl, hSc, ?_⟩
        simp only [Act.put, List.setIfInBounds_toArray, List.set_cons_zero, List.set_cons_succ]
        refine reg_take (i := 6) (v := ?g6v) rfl (by kernel_rfl) (by kernel_rfl) (by kernel_rfl) (by kernel_rfl) (fun _ _ _ h => h) (by rfl) ?g6y (by assumption) ?g6r
        case g6y => (intro W hS; first | (go_simp; done) | (go_simp; with_reducible rfl))
        simp only [Act.put, List.setIfInBounds_toArray, List.set_cons_zero, List.set_cons_succ]
        refine reg_take (i := 7) (v := ?g7v) rfl (by kernel_rfl) (by kernel_rfl) (by kernel_rfl) (by kernel_rfl) (fun _ _ _ h => h) (by rfl) ?g7y (by assumption) ?g7r
        case g7y => (intro W hS; first | (go_simp; done) | (go_simp; with_reducible rfl))
        simp only [Act.put, List.setIfInBounds_toArray, List.set_cons_zero, List.set_cons_succ]
        refine wpAnyG_done (by kernel_rfl) ?_ _
        go_wp2
        go_meet
        exact ⟨_, _, _, _, rfl, rfl, HOA.out, HOB.out, hSc⟩
    · refine op_val (i := 4) rfl (by rfl) (v := .slice (some ⟨w6.drew.heap.size, 0, none⟩) 1 1) (w' := w6.drew.alloc (Obj.cells #[.int .i64 (lo : Int), .int .i64 k, .int .i64 i, .int .i64 n, .int .i64 rl, .bool p, .slice po xps.length pc, .slice qo xts.length qc, .string xn] 54)) (by go_simp) ?_
      have hal := Chg.alloc (fun _ => False) w6.drew (Obj.cells #[.int .i64 (lo : Int), .int .i64 k, .int .i64 i, .int .i64 n, .int .i64 rl, .bool p, .slice po xps.length pc, .slice qo xts.length qc, .string xn] 54)
      have hl := Rd_lit w6.drew #[.int .i64 (lo : Int), .int .i64 k, .int .i64 i, .int .i64 n, .int .i64 rl, .bool p, .slice po xps.length pc, .slice qo xts.length qc, .string xn] 54 1
      have hSc : Chg (fun _ => False) w6 (w6.drew.alloc (Obj.cells #[.int .i64 (lo : Int), .int .i64 k, .int .i64 i, .int .i64 n, .int .i64 rl, .bool p, .slice po xps.length pc, .slice qo xts.length qc, .string xn] 54)) := hSc.trans hal (fun _ _ h => h) (fun _ _ h => h)
      generalize w6.drew.alloc (Obj.cells #[.int .i64 (lo : Int), .int .i64 k, .int .i64 i, .int .i64 n, .int .i64 rl, .bool p, .slice po xps.length pc, .slice qo xts.length qc, .string xn] 54) = z40 at hal hl hSc ⊢
      generalize w6.drew.heap.size = qb at hl ⊢
      have HLb := hide hl
      clear hal hl
      refine ⟨hSc, ?_⟩
      simp only [Act.put, List.setIfInBounds_toArray, List.set_cons_zero, List.set_cons_succ]
      refine reg_one (i := 1) (by kernel_rfl) ?_
      refine op_val (i := 1) rfl (by rfl) (v := .slice (some ⟨z40.heap.size, 0, none⟩) 1 1) (w' := z40.alloc (Obj.cells #[.int .i64 ((lo : Int) + 1), .int .i64 k, .int .i64 i, .int .i64 n, .int .i64 rl, .bool p, .slice po xps.length pc, .slice qo xts.length qc, .string xn] 54)) (by go_simp) ?_
      have hal := Chg.alloc (fun _ => False) z40 (Obj.cells #[.int .i64 ((lo : Int) + 1), .int .i64 k, .int .i64 i, .int .i64 n, .int .i64 rl, .bool p, .slice po xps.length pc, .slice qo xts.length qc, .string xn] 54)
      have hl := Rd_lit z40 #[.int .i64 ((lo : Int) + 1), .int .i64 k, .int .i64 i, .int .i64 n, .int .i64 rl, .bool p, .slice po xps.length pc, .slice qo xts.length qc, .string xn] 54 1
      have hSc : Chg (fun _ => False) w6 (z40.alloc (Obj.cells #[.int .i64 ((lo : Int) + 1), .int .i64 k, .int .i64 i, .int .i64 n, .int .i64 rl, .bool p, .slice po xps.length pc, .slice qo xts.length qc, .string xn] 54)) := hSc.trans hal (fun _ _ h => h) (fun _ _ h => h)
      generalize z40.alloc (Obj.cells #[.int .i64 ((lo : Int) + 1), .int .i64 k, .int .i64 i, .int .i64 n, .int .i64 rl, .bool p, .slice po xps.length pc, .slice qo xts.length qc, .string xn] 54) = z4037 at hal hl hSc ⊢
      generalize z40.heap.size = qa at hl ⊢
      have HLa := hide hl
      replace HLb := hide (HLb.out.chg hal (fun _ _ _ h => h))
      clear hal hl
      refine ⟨hSc, ?_⟩
      simp only [Act.put, List.setIfInBounds_toArray, List.set_cons_zero, List.set_cons_succ]
      refine reg_one (i := 2) (by kernel_rfl) ?_
      refine op_call (i := 2) (#[.slice (some ⟨qa, 0, none⟩) 1 1]) rfl (by rfl) (enters_of Tryd.func28 (by kernel_rfl) rfl) (by first | (simp [Act.eval]; done) | rfl | (simp only [List.map_toArray, List.map_cons, List.map_nil, Act.eval]; rfl) | (simp [Act.eval]; trace_state; done)) ?_
      refine (record_Lay _ _ [⟨((lo : Int) + 1), k, i, n, rl, p, ⟨⟨xps, xts, xn⟩, .slice po xps.length pc, .slice qo xts.length qc⟩⟩] HLa.out (by simp) (fun y hy => by rw [List.mem_singleton.1 hy]; exact HXR.out _ hSc ((lo : Int) + 1)) (HMX.out.chg hSc (fun h => h))).mono ?_
      rw [show layRcs (rcs [⟨((lo : Int) + 1), k, i, n, rl, p, ⟨⟨xps, xts, xn⟩, .slice po xps.length pc, .slice qo xts.length qc⟩⟩]) = A from HLA.out]
      rintro e z403738 ⟨hb6, aoA, capA, rfl, hoA⟩
      have hSz := hSc
      have hc6 := Chg.of_below0 (S := fun _ => False) hb6
      have hSc := hSc.trans hc6 (S'' := fun _ => False) (fun _ _ h => h) (fun _ _ h => h)
      replace HLb := hide (HLb.out.chg hc6 (fun _ _ _ h => h))
      have HOA := hide (ownsRow_base hoA (base' := w6.heap.size) (fun j hj => by have h5 := (ownsRow_lt hoA j hj).1; have h6 := hSz.size; omega))
      clear hb6 hc6 hoA
      refine ⟨_, rfl, hSc, ?_⟩
      simp only [Act.put, List.setIfInBounds_toArray, List.set_cons_zero, List.set_cons_succ]
      refine reg_one (i := 5) (by kernel_rfl) ?_
      refine op_call (i := 5) (#[.slice (some ⟨qb, 0, none⟩) 1 1]) rfl (by rfl) (enters_of Tryd.func28 (by kernel_rfl) rfl) (by first | (simp [Act.eval]; done) | rfl | (simp only [List.map_toArray, List.map_cons, List.map_nil, Act.eval]; rfl) | (simp [Act.eval]; trace_state; done)) ?_
      refine (record_Lay _ _ [⟨(lo : Int), k, i, n, rl, p, ⟨⟨xps, xts, xn⟩, .slice po xps.length pc, .slice qo xts.length qc⟩⟩] HLb.out (by simp) (fun y hy => by rw [List.mem_singleton.1 hy]; exact HXR.out _ hSc (lo : Int)) (HMX.out.chg hSc (fun h => h))).mono ?_
      rw [show layRcs (rcs [⟨(lo : Int), k, i, n, rl, p, ⟨⟨xps, xts, xn⟩, .slice po xps.length pc, .slice qo xts.length qc⟩⟩]) = Bb from HLB.out]
      rintro e z40373841 ⟨hb6, aoB, capB, rfl, hoB⟩
      have hSz := hSc
      have hc6 := Chg.of_below0 (S := fun _ => False) hb6
      have hSc := hSc.trans hc6 (S'' := fun _ => False) (fun _ _ h => h) (fun _ _ h => h)
      replace HOA := hide (hc6.owns HOA.out (fun _ _ h => h))
      have HOB := hide (ownsRow_base hoB (base' := w6.heap.size) (fun j hj => by have h5 := (ownsRow_lt hoB j hj).1; have h6 := hSz.size; omega))
      clear hb6 hc6 hoB
      refine ⟨_, rfl, hSc, ?_⟩
      simp only [Act.put, List.setIfInBounds_toArray, List.set_cons_zero, List.set_cons_succ]
      refine reg_take (i := 6) (v := ?g8v) rfl (by kernel_rfl) (by kernel_rfl) (by kernel_rfl) (by kernel_rfl) (fun _ _ _ h => h) (by rfl) ?g8y (by assumption) ?g8r
      case g8y => (intro W hS; first | (go_simp; done) | (go_simp; with_reducible rfl))
      simp only [Act.put, List.setIfInBounds_toArray, List.set_cons_zero, List.set_cons_succ]
      refine reg_take (i := 7) (v := ?g9v) rfl (by kernel_rfl) (by kernel_rfl) (by kernel_rfl) (by kernel_rfl) (fun _ _ _ h => h) (by rfl) ?g9y (by assumption) ?g9r
      case g9y => (intro W hS; first | (go_simp; done) | (go_simp; with_reducible rfl))
      simp only [Act.put, List.setIfInBounds_toArray, List.set_cons_zero, List.set_cons_succ]
      refine wpAnyG_done (by kernel_rfl) ?_ _
      go_wp2
      go_meet
      exact ⟨_, _, _, _, rfl, rfl, HOA.out, HOB.out, hSc⟩
  case rest =>
  obtain ⟨aoA, capA, aoB, capB, rfl, rfl, hoA, hoB, hch⟩ := hcut
  replace HP := hide (hch.heap HP.out (fun h => h))
  replace HP5 := hide (hch.heap HP5.out (fun h => h))
  replace HB := hide (HB.out.trans (hch.below (n := W.heap.size) HB.out.size (fun _ _ h => h)))
  have HOA := hide hoA
  have HOB := hide hoB
  have HS6 := hide (show w6.heap.size ≤ wc.heap.size from hch.size)
  clear hoA hoB hch HXR HMX HP6 HLA HLB
  go_wp2_with (first
    | (at_builtin; refine wpl_append rfl _ _ _ rfl slU8 wc.heap.size (World.ownsRow_nil wc _ _ _) (Rd.of_owns HOA.out) rfl rfl (u8s_len1 A) (u8s_one A) (by have := HAL.out; unfold maxLen; omega) (by have := HAL.out; omega) (Nat.le_refl _) ?_; intro ao10 cap10 w10 ho10 hg10 _ _; simp only [Nat.zero_add, List.nil_append] at ho10; have HO10 := hide ho10; have HB10 := hide (hg10.below (n := wc.heap.size) (Nat.le_refl _) (fun k _ h => by cases h)); clear ho10 hg10)
    | (at_builtin; refine wpl_append rfl _ _ _ rfl slU8 wc.heap.size HO10.out ((Rd.of_owns HOB.out).chg (Chg.of_below0 (S := fun _ => False) HB10.out) (fun _ _ _ h => h)) rfl rfl (u8s_len1 Bb) (u8s_one Bb) (by have := HAL.out; have := HBL.out; unfold maxLen; omega) (by have := HAL.out; have := HBL.out; omega) HB10.out.size ?_; intro ao11 cap11 w11 ho11 hg11 _ _; have HO11 := hide ho11; have HB11 := hide (HB10.out.trans (hg11.below (n := wc.heap.size) HB10.out.size (fun k hk h => by have h5 := (ownsRow_lt HO10.out k h).1; omega))); clear ho11 hg11))
  have hc11 := Chg.of_below0 (S := fun _ => False) HB11.out
  replace HP := hide (hc11.heap HP.out (fun h => h))
  replace HP5 := hide (hc11.heap HP5.out (fun h => h))
  replace HB := hide (HB.out.trans (HB11.out.mono HB.out.size))
  replace HOA := hide (hc11.owns HOA.out (fun _ _ h => h))
  replace HOB := hide (hc11.owns HOB.out (fun _ _ h => h))
  have hrow : Rd w11 (.slice ao11 (A.length + Bb.length) cap11) (A ++ Bb).length (u8s (A ++ Bb)) := by rw [List.length_append, u8s_append]; exact Rd.of_owns HO11.out
  have HREAD := hide (record_Read w11 _ (A ++ Bb) hrow (by rw [List.length_append]; have := HAL.out; have := HBL.out; omega) (HM.out.below HB.out HM.out.pos))
  clear hc11 hrow HO10 HB10 HO11 HB11
  refine HREAD.out.mono ?_
  rintro e w12 hs
  obtain ⟨ar, cr, vs, rfl, heq, hrw, hown, hb12⟩ := hs
  have hen : endRc (rdRcs (A ++ Bb)) = (A.length : Int) := by rw [HR1.out]; rfl
  rw [hen]
  rw [HR1.out] at heq
  have hvl : vs.length = 1 := by have h5 := congrArg List.length heq; simpa [rcs] using h5
  rw [hvl]
  rw [hvl] at hrw
  have hc12 := Chg.of_below0 (S := fun _ => False) hb12
  replace HP := hide (hc12.heap HP.out (fun h => h))
  replace HP5 := hide (hc12.heap HP5.out (fun h => h))
  replace HB := hide (HB.out.trans (hb12.mono HB.out.size))
  replace HOA := hide (hc12.owns HOA.out (fun _ _ h => h))
  replace HOB := hide (hc12.owns HOB.out (fun _ _ h => h))
  have HEQ := hide heq
  have HRW := hide hrw
  have HOWN := hide hown
  have HVL := hide hvl
  clear heq hrw hown hb12 hvl hc12 hen HREAD
  go_wp2_with (first
    | (at_builtin; refine wpl_append rfl _ _ _ rfl slU8 w12.heap.size (World.ownsRow_nil w12 _ _ _) (Rd.of_owns HOB.out) rfl rfl (u8s_len1 Bb) (u8s_one Bb) (by have := HBL.out; unfold maxLen; omega) (by have := HBL.out; omega) (Nat.le_refl _) ?_; intro ao13 cap13 w13 ho13 hg13 _ _; simp only [Nat.zero_add, List.nil_append] at ho13; have HO13 := hide ho13; have HB13 := hide (hg13.below (n := w12.heap.size) (Nat.le_refl _) (fun k _ h => by cases h)); clear ho13 hg13)
    | (at_builtin; refine wpl_append rfl _ _ _ rfl slU8 w12.heap.size HO13.out ((Rd.of_owns HOA.out).chg (Chg.of_below0 (S := fun _ => False) HB13.out) (fun _ _ _ h => h)) rfl rfl (u8s_len1 A) (u8s_one A) (by have := HAL.out; have := HBL.out; unfold maxLen; omega) (by have := HAL.out; have := HBL.out; omega) HB13.out.size ?_; intro ao14 cap14 w14 ho14 hg14 _ _; have HO14 := hide ho14; have HB14 := hide (HB13.out.trans (hg14.below (n := w12.heap.size) HB13.out.size (fun k hk h => by have h5 := (ownsRow_lt HO13.out k h).1; omega))); clear ho14 hg14))
  have hc14 := Chg.of_below0 (S := fun _ => False) HB14.out
  replace HP := hide (hc14.heap HP.out (fun h => h))
  replace HP5 := hide (hc14.heap HP5.out (fun h => h))
  replace HB := hide (HB.out.trans (HB14.out.mono HB.out.size))
  replace HRW := hide (hc14.owns HRW.out (fun _ _ h => h))
  replace HOWN := hide (fun v hv => (HOWN.out v hv).chg hc14 (fun _ _ _ h => h))
  have hrow : Rd w14 (.slice ao14 (Bb.length + A.length) cap14) (Bb ++ A).length (u8s (Bb ++ A)) := by rw [List.length_append, u8s_append]; exact Rd.of_owns HO14.out
  have HREAD := hide (record_Read w14 _ (Bb ++ A) hrow (by rw [List.length_append]; have := HAL.out; have := HBL.out; omega) (HM.out.below HB.out HM.out.pos))
  clear hc14 hrow HO13 HB13 HO14 HB14 HOA HOB
  refine HREAD.out.mono ?_
  rintro e w9 hs
  obtain ⟨ar2, cr2, vs2, rfl, heq2, -, -, hb15⟩ := hs
  rw [HR2.out, HE2.out]
  rw [HR2.out] at heq2
  have hvl2 : vs2.length = 2 := by have h5 := congrArg List.length heq2; simpa [rcs, placed] using h5
  rw [hvl2]
  have hc15 := Chg.of_below0 (S := fun _ => False) hb15
  replace HP := hide (hc15.heap HP.out (fun h => h))
  replace HP5 := hide (hc15.heap HP5.out (fun h => h))
  replace HB := hide (HB.out.trans (hb15.mono HB.out.size))
  replace HRW := hide (hc15.owns HRW.out (fun _ _ h => h))
  replace HOWN := hide (fun v hv => (HOWN.out v hv).chg hc15 (fun _ _ _ h => h))
  clear heq2 hb15 hvl2 hc15 HREAD HR1 HR2 HE2
  go_upto_region 10 with (fail)
  have HLV := hide (show (∀ kk, (Value.slice ar 1 cr).ownBlock = some kk → kk < w9.heap.size) ∧ (∀ v ∈ vs, ∀ kk, (v.q.x.vp.ownBlock = some kk ∨ v.q.x.vt.ownBlock = some kk) → kk < w9.heap.size) from ⟨fun kk hk => (ownsRow_lt HRW.out kk hk).2, fun v hv kk hk => hk.elim (fun h => (ownsRow_lt (HOWN.out v hv).ps kk h).2) (fun h => (ownsRow_lt (HOWN.out v hv).ts kk h).2)⟩)
  have HLTP := hide (show W.heap.size < w9.heap.size ∧ p5 < w9.heap.size from ⟨(Array.getElem?_eq_some_iff.1 HP.out).1, (Array.getElem?_eq_some_iff.1 HP5.out).1⟩)
  go_cut [13, 14] from 58 to 59 (fun s u wc => ∃ pa pb, s = .pointer (some ⟨pa, 0, none⟩) ∧ u = .pointer (some ⟨pb, 0, none⟩) ∧ pa ≠ pb ∧ w9.heap.size ≤ pa ∧ w9.heap.size ≤ pb ∧
    wc.heap[pa]? = some (.cells #[.int .i64 t, .int .i64 k, .int .i64 i, .int .i64 n, .int .i64 rl, .bool p, .slice po xps.length pc, .slice qo xts.length qc, .string xn] 54 (0, 0)) ∧ wc.heap[pb]? = some (.cells #[.int .i64 t, .int .i64 k, .int .i64 i, .int .i64 n, .int .i64 rl, .bool p, .slice po xps.length pc, .slice qo xts.length qc, .string xn] 54 (0, 0)) ∧ Chg (fun _ => False) w9 wc)
  case first =>
    have cr0 := cell_of_heap HP.out 0
    have cr1 := cell_of_heap HP.out 1
    have cr2 := cell_of_heap HP.out 2
    have cr3 := cell_of_heap HP.out 3
    have cr4 := cell_of_heap HP.out 4
    have cr5 := cell_of_heap HP.out 5
    have cr6 := cell_of_heap HP.out 6
    have cr7 := cell_of_heap HP.out 7
    have cr8 := cell_of_heap HP.out 8
    simp at cr0 cr1 cr2 cr3 cr4 cr5 cr6 cr7 cr8
    refine reg_start (Chg (fun _ => False) w9) 6 6 (by rfl) (by kernel_rfl) (Chg.drew _ _) ?_
    intro hS0
    have hSc := hS0
    refine reg_take (i := 0) (v := ?g11v) rfl (by kernel_rfl) (by kernel_rfl) (by kernel_rfl) (by kernel_rfl) (fun _ _ _ h => h) (by rfl) ?g11y (by assumption) ?g11r
    case g11y => (intro W hS; have fr0 := hS.cell cr0 (fun h => h); have fr1 := hS.cell cr1 (fun h => h); have fr2 := hS.cell cr2 (fun h => h); have fr3 := hS.cell cr3 (fun h => h); have fr4 := hS.cell cr4 (fun h => h); have fr5 := hS.cell cr5 (fun h => h); have fr6 := hS.cell cr6 (fun h => h); have fr7 := hS.cell cr7 (fun h => h); have fr8 := hS.cell cr8 (fun h => h); first | (go_simp; done) | (go_simp; with_reducible rfl))
    simp only [Act.put, List.setIfInBounds_toArray, List.set_cons_zero, List.set_cons_succ]
    refine reg_take (i := 1) (v := ?g12v) rfl (by kernel_rfl) (by kernel_rfl) (by kernel_rfl) (by kernel_rfl) (fun _ _ _ h => h) (by rfl) ?g12y (by assumption) ?g12r
    case g12y => (intro W hS; have fr0 := hS.cell cr0 (fun h => h); have fr1 := hS.cell cr1 (fun h => h); have fr2 := hS.cell cr2 (fun h => h); have fr3 := hS.cell cr3 (fun h => h); have fr4 := hS.cell cr4 (fun h => h); have fr5 := hS.cell cr5 (fun h => h); have fr6 := hS.cell cr6 (fun h => h); have fr7 := hS.cell cr7 (fun h => h); have fr8 := hS.cell cr8 (fun h => h); first | (go_simp; done) | (go_simp; with_reducible rfl))
    simp only [Act.put, List.setIfInBounds_toArray, List.set_cons_zero, List.set_cons_succ]
    refine reg_two (i := 2) (j := 3) (by kernel_rfl) ?_ ?_
    · refine op_val (i := 2) rfl (by rfl) (v := .pointer (some ⟨w9.heap.size, 0, none⟩)) (w' := w9.drew.alloc (Obj.cells rcZ 54)) (by unfold rcZ; go_simp) ?_
      refine ⟨(Chg.drew (fun _ => False) w9).trans (Chg.alloc (fun _ => False) _ _) (fun _ _ h => h) (fun _ _ h => h), ?_⟩
      simp only [Act.put, List.setIfInBounds_toArray, List.set_cons_zero, List.set_cons_succ]
      refine reg_one (i := 3) (by kernel_rfl) ?_
      refine op_val (i := 3) rfl (by rfl) (v := .pointer (some ⟨w9.heap.size + 1, 0, none⟩)) (w' := (w9.drew.alloc (Obj.cells rcZ 54)).alloc (Obj.cells rcZ 54)) (by unfold rcZ; go_simp) ?_
      obtain ⟨wq, hwq⟩ : ∃ wq, wq = (w9.drew.alloc (Obj.cells rcZ 54)).alloc (Obj.cells rcZ 54) := ⟨_, rfl⟩
      have hn0 : wq.heap[w9.heap.size]? = some (.cells rcZ 54 (0, 0)) := by rw [hwq]; exact (Chg.alloc (fun _ => False) _ _).heap (heap_alloc_new w9.drew _) (fun h => h)
      have hn1 : wq.heap[w9.heap.size + 1]? = some (.cells rcZ 54 (0, 0)) := by rw [hwq]; have h5 := heap_alloc_new (w9.drew.alloc (Obj.cells rcZ 54)) (Obj.cells rcZ 54); rw [World.size_alloc] at h5; exact h5
      have hSc : Chg (fun _ => False) w9 wq := by rw [hwq]; exact ((Chg.drew (fun _ => False) w9).trans (Chg.alloc (fun _ => False) _ _) (fun _ _ h => h) (fun _ _ h => h)).trans (Chg.alloc (fun _ => False) _ _) (fun _ _ h => h) (fun _ _ h => h)
      rw [← hwq]
      clear hwq
      obtain ⟨pa, hpa⟩ : ∃ pa, pa = w9.heap.size := ⟨_, rfl⟩
      obtain ⟨pb, hpb⟩ : ∃ pb, pb = w9.heap.size + 1 := ⟨_, rfl⟩
      have HNE := hide (show pa ≠ pb by omega)
      have HGA := hide (show w9.heap.size ≤ pa by omega)
      have HGB := hide (show w9.heap.size ≤ pb by omega)
      rw [← hpb, ← hpa]
      have HA : Hid (wq.heap[pa]? = some (.cells rcZ 54 (0, 0))) := by rw [hpa]; exact hn0
      have HBX : Hid (wq.heap[pb]? = some (.cells rcZ 54 (0, 0))) := by rw [hpb]; exact hn1
      clear hpa hpb hn0 hn1
      have t0 := cell_of_heap HA.out 0
      have u0 := free_of_heap HA.out 0
      have t1 := cell_of_heap HA.out 1
      have u1 := free_of_heap HA.out 1
      have t2 := cell_of_heap HA.out 2
      have u2 := free_of_heap HA.out 2
      have t3 := cell_of_heap HA.out 3
      have u3 := free_of_heap HA.out 3
      have t4 := cell_of_heap HA.out 4
      have u4 := free_of_heap HA.out 4
      have t5 := cell_of_heap HA.out 5
      have u5 := free_of_heap HA.out 5
      have t6 := cell_of_heap HA.out 6
      have u6 := free_of_heap HA.out 6
      have t7 := cell_of_heap HA.out 7
      have u7 := free_of_heap HA.out 7
      have t8 := cell_of_heap HA.out 8
      have u8 := free_of_heap HA.out 8
      unfold rcZ at t0 t1 t2 t3 t4 t5 t6 t7 t8
      simp at t0 t1 t2 t3 t4 t5 t6 t7 t8 u0 u1 u2 u3 u4 u5 u6 u7 u8
      refine ⟨hSc, ?_⟩
      simp only [Act.put, List.setIfInBounds_toArray, List.set_cons_zero, List.set_cons_succ]
      refine reg_one (i := 4) (by kernel_rfl) ?_
      refine op_store (i := 4) rfl (by rfl) (w' := (((((((((wq.setCell ⟨pa, 0, none⟩ (.int .i64 t)).setCell ⟨pa, 1, none⟩ (.int .i64 k)).setCell ⟨pa, 2, none⟩ (.int .i64 i)).setCell ⟨pa, 3, none⟩ (.int .i64 n)).setCell ⟨pa, 4, none⟩ (.int .i64 rl)).setCell ⟨pa, 5, none⟩ (.bool p)).setCell ⟨pa, 6, none⟩ (.slice po xps.length pc)).setCell ⟨pa, 7, none⟩ (.slice qo xts.length qc)).setCell ⟨pa, 8, none⟩ (.string xn))) (by go_simp) ?_
      obtain ⟨ws, hws⟩ : ∃ wn, wn = (((((((((wq.setCell ⟨pa, 0, none⟩ (.int .i64 t)).setCell ⟨pa, 1, none⟩ (.int .i64 k)).setCell ⟨pa, 2, none⟩ (.int .i64 i)).setCell ⟨pa, 3, none⟩ (.int .i64 n)).setCell ⟨pa, 4, none⟩ (.int .i64 rl)).setCell ⟨pa, 5, none⟩ (.bool p)).setCell ⟨pa, 6, none⟩ (.slice po xps.length pc)).setCell ⟨pa, 7, none⟩ (.slice qo xts.length qc)).setCell ⟨pa, 8, none⟩ (.string xn)) := ⟨_, rfl⟩
      have hcs : Chg (fun k => k = pa) wq ws := hws ▸ sets9_chg wq pa (.int .i64 t) (.int .i64 k) (.int .i64 i) (.int .i64 n) (.int .i64 rl) (.bool p) (.slice po xps.length pc) (.slice qo xts.length qc) (.string xn)
      have ha : ws.heap[pa]? = some (.cells #[.int .i64 t, .int .i64 k, .int .i64 i, .int .i64 n, .int .i64 rl, .bool p, .slice po xps.length pc, .slice qo xts.length qc, .string xn] 54 (0, 0)) := hws ▸ sets9_heap HA.out (.int .i64 t) (.int .i64 k) (.int .i64 i) (.int .i64 n) (.int .i64 rl) (.bool p) (.slice po xps.length pc) (.slice qo xts.length qc) (.string xn)
      rw [← hws]
      clear hws
      have HA2 := hide ha
      have HB2 := hide (hcs.heap HBX.out (fun h => by have h5 : pb = pa := h; have h6 := HNE.out; omega))
      have hSc := hSc.trans hcs (S'' := fun _ => False) (fun _ _ h => h) (fun k hk h => by have h5 : k = pa := h; have h6 := HGA.out; omega)
      clear t0 t1 t2 t3 t4 t5 t6 t7 t8 u0 u1 u2 u3 u4 u5 u6 u7 u8 hcs ha
      have t0 := cell_of_heap HB2.out 0
      have u0 := free_of_heap HB2.out 0
      have t1 := cell_of_heap HB2.out 1
      have u1 := free_of_heap HB2.out 1
      have t2 := cell_of_heap HB2.out 2
      have u2 := free_of_heap HB2.out 2
      have t3 := cell_of_heap HB2.out 3
      have u3 := free_of_heap HB2.out 3
      have t4 := cell_of_heap HB2.out 4
      have u4 := free_of_heap HB2.out 4
      have t5 := cell_of_heap HB2.out 5
      have u5 := free_of_heap HB2.out 5
      have t6 := cell_of_heap HB2.out 6
      have u6 := free_of_heap HB2.out 6
      have t7 := cell_of_heap HB2.out 7
      have u7 := free_of_heap HB2.out 7
      have t8 := cell_of_heap HB2.out 8
      have u8 := free_of_heap HB2.out 8
      unfold rcZ at t0 t1 t2 t3 t4 t5 t6 t7 t8
      simp at t0 t1 t2 t3 t4 t5 t6 t7 t8 u0 u1 u2 u3 u4 u5 u6 u7 u8
      refine ⟨hSc, ?_⟩
      simp only [Act.put]
      refine reg_one (i := 5) (by kernel_rfl) ?_
      refine op_store (i := 5) rfl (by rfl) (w' := (((((((((ws.setCell ⟨pb, 0, none⟩ (.int .i64 t)).setCell ⟨pb, 1, none⟩ (.int .i64 k)).setCell ⟨pb, 2, none⟩ (.int .i64 i)).setCell ⟨pb, 3, none⟩ (.int .i64 n)).setCell ⟨pb, 4, none⟩ (.int .i64 rl)).setCell ⟨pb, 5, none⟩ (.bool p)).setCell ⟨pb, 6, none⟩ (.slice po xps.length pc)).setCell ⟨pb, 7, none⟩ (.slice qo xts.length qc)).setCell ⟨pb, 8, none⟩ (.string xn))) (by go_simp) ?_
      obtain ⟨wt, hws⟩ : ∃ wn, wn = (((((((((ws.setCell ⟨pb, 0, none⟩ (.int .i64 t)).setCell ⟨pb, 1, none⟩ (.int .i64 k)).setCell ⟨pb, 2, none⟩ (.int .i64 i)).setCell ⟨pb, 3, none⟩ (.int .i64 n)).setCell ⟨pb, 4, none⟩ (.int .i64 rl)).setCell ⟨pb, 5, none⟩ (.bool p)).setCell ⟨pb, 6, none⟩ (.slice po xps.length pc)).setCell ⟨pb, 7, none⟩ (.slice qo xts.length qc)).setCell ⟨pb, 8, none⟩ (.string xn)) := ⟨_, rfl⟩
      have hcs : Chg (fun k => k = pb) ws wt := hws ▸ sets9_chg ws pb (.int .i64 t) (.int .i64 k) (.int .i64 i) (.int .i64 n) (.int .i64 rl) (.bool p) (.slice po xps.length pc) (.slice qo xts.length qc) (.string xn)
      have ha : wt.heap[pb]? = some (.cells #[.int .i64 t, .int .i64 k, .int .i64 i, .int .i64 n, .int .i64 rl, .bool p, .slice po xps.length pc, .slice qo xts.length qc, .string xn] 54 (0, 0)) := hws ▸ sets9_heap HB2.out (.int .i64 t) (.int .i64 k) (.int .i64 i) (.int .i64 n) (.int .i64 rl) (.bool p) (.slice po xps.length pc) (.slice qo xts.length qc) (.string xn)
      rw [← hws]
      clear hws
      have HB3 := hide ha
      have HA3 := hide (hcs.heap HA2.out (fun h => by have h5 : pa = pb := h; have h6 := HNE.out; omega))
      have hSc := hSc.trans hcs (S'' := fun _ => False) (fun _ _ h => h) (fun k hk h => by have h5 : k = pb := h; have h6 := HGB.out; omega)
      clear t0 t1 t2 t3 t4 t5 t6 t7 t8 u0 u1 u2 u3 u4 u5 u6 u7 u8 hcs ha
      refine ⟨hSc, ?_⟩
      simp only [Act.put]
      refine wpAnyG_done (by kernel_rfl) ?_ _
      go_wp2
      go_meet
      exact ⟨pa, pb, rfl, rfl, HNE.out, HGA.out, HGB.out, HA3.out, HB3.out, hSc⟩
    · refine op_val (i := 3) rfl (by rfl) (v := .pointer (some ⟨w9.heap.size, 0, none⟩)) (w' := w9.drew.alloc (Obj.cells rcZ 54)) (by unfold rcZ; go_simp) ?_
      refine ⟨(Chg.drew (fun _ => False) w9).trans (Chg.alloc (fun _ => False) _ _) (fun _ _ h => h) (fun _ _ h => h), ?_⟩
      simp only [Act.put, List.setIfInBounds_toArray, List.set_cons_zero, List.set_cons_succ]
      refine reg_one (i := 2) (by kernel_rfl) ?_
      refine op_val (i := 2) rfl (by rfl) (v := .pointer (some ⟨w9.heap.size + 1, 0, none⟩)) (w' := (w9.drew.alloc (Obj.cells rcZ 54)).alloc (Obj.cells rcZ 54)) (by unfold rcZ; go_simp) ?_
      obtain ⟨wq, hwq⟩ : ∃ wq, wq = (w9.drew.alloc (Obj.cells rcZ 54)).alloc (Obj.cells rcZ 54) := ⟨_, rfl⟩
      have hn0 : wq.heap[w9.heap.size]? = some (.cells rcZ 54 (0, 0)) := by rw [hwq]; exact (Chg.alloc (fun _ => False) _ _).heap (heap_alloc_new w9.drew _) (fun h => h)
      have hn1 : wq.heap[w9.heap.size + 1]? = some (.cells rcZ 54 (0, 0)) := by rw [hwq]; have h5 := heap_alloc_new (w9.drew.alloc (Obj.cells rcZ 54)) (Obj.cells rcZ 54); rw [World.size_alloc] at h5; exact h5
      have hSc : Chg (fun _ => False) w9 wq := by rw [hwq]; exact ((Chg.drew (fun _ => False) w9).trans (Chg.alloc (fun _ => False) _ _) (fun _ _ h => h) (fun _ _ h => h)).trans (Chg.alloc (fun _ => False) _ _) (fun _ _ h => h) (fun _ _ h => h)
      rw [← hwq]
      clear hwq
      obtain ⟨pa, hpa⟩ : ∃ pa, pa = w9.heap.size + 1 := ⟨_, rfl⟩
      obtain ⟨pb, hpb⟩ : ∃ pb, pb = w9.heap.size := ⟨_, rfl⟩
      have HNE := hide (show pa ≠ pb by omega)
      have HGA := hide (show w9.heap.size ≤ pa by omega)
      have HGB := hide (show w9.heap.size ≤ pb by omega)
      rw [← hpa, ← hpb]
      have HA : Hid (wq.heap[pa]? = some (.cells rcZ 54 (0, 0))) := by rw [hpa]; exact hn1
      have HBX : Hid (wq.heap[pb]? = some (.cells rcZ 54 (0, 0))) := by rw [hpb]; exact hn0
      clear hpa hpb hn0 hn1
      have t0 := cell_of_heap HA.out 0
      have u0 := free_of_heap HA.out 0
      have t1 := cell_of_heap HA.out 1
      have u1 := free_of_heap HA.out 1
      have t2 := cell_of_heap HA.out 2
      have u2 := free_of_heap HA.out 2
      have t3 := cell_of_heap HA.out 3
      have u3 := free_of_heap HA.out 3
      have t4 := cell_of_heap HA.out 4
      have u4 := free_of_heap HA.out 4
      have t5 := cell_of_heap HA.out 5
      have u5 := free_of_heap HA.out 5
      have t6 := cell_of_heap HA.out 6
      have u6 := free_of_heap HA.out 6
      have t7 := cell_of_heap HA.out 7
      have u7 := free_of_heap HA.out 7
      have t8 := cell_of_heap HA.out 8
      have u8 := free_of_heap HA.out 8
      unfold rcZ at t0 t1 t2 t3 t4 t5 t6 t7 t8
      simp at t0 t1 t2 t3 t4 t5 t6 t7 t8 u0 u1 u2 u3 u4 u5 u6 u7 u8
      refine ⟨hSc, ?_⟩
      simp only [Act.put, List.setIfInBounds_toArray, List.set_cons_zero, List.set_cons_succ]
      refine reg_one (i := 4) (by kernel_rfl) ?_
      refine op_store (i := 4) rfl (by rfl) (w' := (((((((((wq.setCell ⟨pa, 0, none⟩ (.int .i64 t)).setCell ⟨pa, 1, none⟩ (.int .i64 k)).setCell ⟨pa, 2, none⟩ (.int .i64 i)).setCell ⟨pa, 3, none⟩ (.int .i64 n)).setCell ⟨pa, 4, none⟩ (.int .i64 rl)).setCell ⟨pa, 5, none⟩ (.bool p)).setCell ⟨pa, 6, none⟩ (.slice po xps.length pc)).setCell ⟨pa, 7, none⟩ (.slice qo xts.length qc)).setCell ⟨pa, 8, none⟩ (.string xn))) (by go_simp) ?_
      obtain ⟨ws, hws⟩ : ∃ wn, wn = (((((((((wq.setCell ⟨pa, 0, none⟩ (.int .i64 t)).setCell ⟨pa, 1, none⟩ (.int .i64 k)).setCell ⟨pa, 2, none⟩ (.int .i64 i)).setCell ⟨pa, 3, none⟩ (.int .i64 n)).setCell ⟨pa, 4, none⟩ (.int .i64 rl)).setCell ⟨pa, 5, none⟩ (.bool p)).setCell ⟨pa, 6, none⟩ (.slice po xps.length pc)).setCell ⟨pa, 7, none⟩ (.slice qo xts.length qc)).setCell ⟨pa, 8, none⟩ (.string xn)) := ⟨_, rfl⟩
      have hcs : Chg (fun k => k = pa) wq ws := hws ▸ sets9_chg wq pa (.int .i64 t) (.int .i64 k) (.int .i64 i) (.int .i64 n) (.int .i64 rl) (.bool p) (.slice po xps.length pc) (.slice qo xts.length qc) (.string xn)
      have ha : ws.heap[pa]? = some (.cells #[.int .i64 t, .int .i64 k, .int .i64 i, .int .i64 n, .int .i64 rl, .bool p, .slice po xps.length pc, .slice qo xts.length qc, .string xn] 54 (0, 0)) := hws ▸ sets9_heap HA.out (.int .i64 t) (.int .i64 k) (.int .i64 i) (.int .i64 n) (.int .i64 rl) (.bool p) (.slice po xps.length pc) (.slice qo xts.length qc) (.string xn)
      rw [← hws]
      clear hws
      have HA2 := hide ha
      have HB2 := hide (hcs.heap HBX.out (fun h => by have h5 : pb = pa := h; have h6 := HNE.out; omega))
      have hSc := hSc.trans hcs (S'' := fun _ => False) (fun _ _ h => h) (fun k hk h => by have h5 : k = pa := h; have h6 := HGA.out; omega)
      clear t0 t1 t2 t3 t4 t5 t6 t7 t8 u0 u1 u2 u3 u4 u5 u6 u7 u8 hcs ha
      have t0 := cell_of_heap HB2.out 0
      have u0 := free_of_heap HB2.out 0
      have t1 := cell_of_heap HB2.out 1
      have u1 := free_of_heap HB2.out 1
      have t2 := cell_of_heap HB2.out 2
      have u2 := free_of_heap HB2.out 2
      have t3 := cell_of_heap HB2.out 3
      have u3 := free_of_heap HB2.out 3
      have t4 := cell_of_heap HB2.out 4
      have u4 := free_of_heap HB2.out 4
      have t5 := cell_of_heap HB2.out 5
      have u5 := free_of_heap HB2.out 5
      have t6 := cell_of_heap HB2.out 6
      have u6 := free_of_heap HB2.out 6
      have t7 := cell_of_heap HB2.out 7
      have u7 := free_of_heap HB2.out 7
      have t8 := cell_of_heap HB2.out 8
      have u8 := free_of_heap HB2.out 8
      unfold rcZ at t0 t1 t2 t3 t4 t5 t6 t7 t8
      simp at t0 t1 t2 t3 t4 t5 t6 t7 t8 u0 u1 u2 u3 u4 u5 u6 u7 u8
      refine ⟨hSc, ?_⟩
      simp only [Act.put]
      refine reg_one (i := 5) (by kernel_rfl) ?_
      refine op_store (i := 5) rfl (by rfl) (w' := (((((((((ws.setCell ⟨pb, 0, none⟩ (.int .i64 t)).setCell ⟨pb, 1, none⟩ (.int .i64 k)).setCell ⟨pb, 2, none⟩ (.int .i64 i)).setCell ⟨pb, 3, none⟩ (.int .i64 n)).setCell ⟨pb, 4, none⟩ (.int .i64 rl)).setCell ⟨pb, 5, none⟩ (.bool p)).setCell ⟨pb, 6, none⟩ (.slice po xps.length pc)).setCell ⟨pb, 7, none⟩ (.slice qo xts.length qc)).setCell ⟨pb, 8, none⟩ (.string xn))) (by go_simp) ?_
      obtain ⟨wt, hws⟩ : ∃ wn, wn = (((((((((ws.setCell ⟨pb, 0, none⟩ (.int .i64 t)).setCell ⟨pb, 1, none⟩ (.int .i64 k)).setCell ⟨pb, 2, none⟩ (.int .i64 i)).setCell ⟨pb, 3, none⟩ (.int .i64 n)).setCell ⟨pb, 4, none⟩ (.int .i64 rl)).setCell ⟨pb, 5, none⟩ (.bool p)).setCell ⟨pb, 6, none⟩ (.slice po xps.length pc)).setCell ⟨pb, 7, none⟩ (.slice qo xts.length qc)).setCell ⟨pb, 8, none⟩ (.string xn)) := ⟨_, rfl⟩
      have hcs : Chg (fun k => k = pb) ws wt := hws ▸ sets9_chg ws pb (.int .i64 t) (.int .i64 k) (.int .i64 i) (.int .i64 n) (.int .i64 rl) (.bool p) (.slice po xps.length pc) (.slice qo xts.length qc) (.string xn)
      have ha : wt.heap[pb]? = some (.cells #[.int .i64 t, .int .i64 k, .int .i64 i, .int .i64 n, .int .i64 rl, .bool p, .slice po xps.length pc, .slice qo xts.length qc, .string xn] 54 (0, 0)) := hws ▸ sets9_heap HB2.out (.int .i64 t) (.int .i64 k) (.int .i64 i) (.int .i64 n) (.int .i64 rl) (.bool p) (.slice po xps.length pc) (.slice qo xts.length qc) (.string xn)
      rw [← hws]
      clear hws
      have HB3 := hide ha
      have HA3 := hide (hcs.heap HA2.out (fun h => by have h5 : pa = pb := h; have h6 := HNE.out; omega))
      have hSc := hSc.trans hcs (S'' := fun _ => False) (fun _ _ h => h) (fun k hk h => by have h5 : k = pb := h; have h6 := HGB.out; omega)
      clear t0 t1 t2 t3 t4 t5 t6 t7 t8 u0 u1 u2 u3 u4 u5 u6 u7 u8 hcs ha
      refine ⟨hSc, ?_⟩
      simp only [Act.put]
      refine wpAnyG_done (by kernel_rfl) ?_ _
      go_wp2
      go_meet
      exact ⟨pa, pb, rfl, rfl, HNE.out, HGA.out, HGB.out, HA3.out, HB3.out, hSc⟩
  case rest =>
  obtain ⟨pa, pb, rfl, rfl, hne, hga, hgb, hha, hhb, hch⟩ := hcut
  replace HP := hide (hch.heap HP.out (fun h => h))
  replace HP5 := hide (hch.heap HP5.out (fun h => h))
  replace HB := hide (HB.out.trans (hch.below (n := W.heap.size) HB.out.size (fun _ _ h => h)))
  replace HRW := hide (hch.owns HRW.out (fun _ _ h => h))
  replace HOWN := hide (fun v hv => (HOWN.out v hv).chg hch (fun _ _ _ h => h))
  have HNE := hide hne
  have HGA := hide hga
  have HGB := hide hgb
  have HA := hide hha
  have HBX := hide hhb
  clear hne hga hgb hha hhb hch
  have fa := free_of_heap HA.out 0
  have ga := cell_of_heap HA.out 0
  have hc1 := Chg.setCell wc ⟨pa, 0, none⟩ (.int .i64 (-1))
  have hb1 := hc1.heap HBX.out (fun h => by have h5 : pb = pa := h; have h6 := HNE.out; omega)
  have fb := free_of_heap hb1 0
  have gb := cell_of_heap hb1 0
  simp at fa ga fb gb
  have ha1 : (wc.setCell ⟨pa, 0, none⟩ (.int .i64 (-1))).heap[pa]? = some (.cells #[.int .i64 (-1), .int .i64 k, .int .i64 i, .int .i64 n, .int .i64 rl, .bool p, .slice po xps.length pc, .slice qo xts.length qc, .string xn] 54 (0, 0)) := heap_setCell_same HA.out (i := 0) (.int .i64 (-1))
  have hc2 := Chg.setCell (wc.setCell ⟨pa, 0, none⟩ (.int .i64 (-1))) ⟨pb, 0, none⟩ (.int .i64 1099511627777)
  have ha2 := hc2.heap ha1 (fun h => by have h5 : pa = pb := h; have h6 := HNE.out; omega)
  have hb2 : ((wc.setCell ⟨pa, 0, none⟩ (.int .i64 (-1))).setCell ⟨pb, 0, none⟩ (.int .i64 1099511627777)).heap[pb]? = some (.cells #[.int .i64 1099511627777, .int .i64 k, .int .i64 i, .int .i64 n, .int .i64 rl, .bool p, .slice po xps.length pc, .slice qo xts.length qc, .string xn] 54 (0, 0)) := heap_setCell_same hb1 (i := 0) (.int .i64 1099511627777)
  have hcc : Chg (fun k => k = pa ∨ k = pb) wc ((wc.setCell ⟨pa, 0, none⟩ (.int .i64 (-1))).setCell ⟨pb, 0, none⟩ (.int .i64 1099511627777)) := hc1.trans hc2 (fun _ _ h => .inl h) (fun _ _ h => .inr h)
  have HCC := hide hcc
  have HA2 := hide ha2
  have HB2 := hide hb2
  clear hc1 hb1 ha1 hc2 ha2 hb2 hcc HA HBX
  go_upto_region 12 with (fail)
  have hlt9 := HLTP.out
  have hga := HGA.out
  have hgb := HGB.out
  have hcc := HCC.out
  replace HP := hide (hcc.heap HP.out (fun h => by rcases h with h5 | h5 <;> omega))
  replace HP5 := hide (hcc.heap HP5.out (fun h => by rcases h with h5 | h5 <;> omega))
  replace HB := hide (HB.out.trans (hcc.below (n := W.heap.size) HB.out.size (fun kk hk h => by rcases h with h5 | h5 <;> omega)))
  have hne9 : ∀ kk, (Value.slice ar 1 cr).ownBlock = some kk → kk < w9.heap.size := fun kk hk => (HLV.out).1 kk hk
  replace HRW := hide (hcc.owns HRW.out (fun kk hk h => by have h6 := hne9 kk hk; rcases h with h5 | h5 <;> omega))
  replace HOWN := hide (fun v hv => (⟨hcc.owns (HOWN.out v hv).ps (fun kk hk h => by have h6 := HLV.out.2 v hv kk (.inl hk); rcases h with h5 | h5 <;> omega), hcc.owns (HOWN.out v hv).ts (fun kk hk h => by have h6 := HLV.out.2 v hv kk (.inr hk); rcases h with h5 | h5 <;> omega)⟩ : Own _ _ v.q.x))
  generalize (wc.setCell ⟨pa, 0, none⟩ (.int .i64 (-1))).setCell ⟨pb, 0, none⟩ (.int .i64 1099511627777) = v1 at hcc HA2 HB2 HP HP5 HB HRW HOWN HCC ⊢
  clear hlt9 hga hgb hcc HCC fa ga fb gb HNE HGA HGB HLTP hne9
  have cl0 := cell_of_heap HP5.out 0
  have cl1 := cell_of_heap HP5.out 1
  have cl2 := cell_of_heap HP5.out 2
  have cl3 := cell_of_heap HP5.out 3
  have cl4 := cell_of_heap HP5.out 4
  have cl5 := cell_of_heap HP5.out 5
  have cl6 := cell_of_heap HP5.out 6
  have cl7 := cell_of_heap HP5.out 7
  have cl8 := cell_of_heap HP5.out 8
  simp at cl0 cl1 cl2 cl3 cl4 cl5 cl6 cl7 cl8
  have HBa := hide (HB.out.alloc HB.out.size (Obj.cells #[.int .i64 ((lo : Int) + 1), .int .i64 k, .int .i64 i, .int .i64 n, .int .i64 rl, .bool p, .slice po xps.length pc, .slice qo xts.length qc, .string xn] 54))
  have hca := Chg.alloc (fun _ => False) v1 (Obj.cells #[.int .i64 ((lo : Int) + 1), .int .i64 k, .int .i64 i, .int .i64 n, .int .i64 rl, .bool p, .slice po xps.length pc, .slice qo xts.length qc, .string xn] 54)
  have hsame := SameRecords_yes (v1.alloc (Obj.cells #[.int .i64 ((lo : Int) + 1), .int .i64 k, .int .i64 i, .int .i64 n, .int .i64 rl, .bool p, .slice po xps.length pc, .slice qo xts.length qc, .string xn] 54)) (.slice ar 1 cr) (.slice (some ⟨v1.heap.size, 0, none⟩) 1 1) vs [⟨((lo : Int) + 1), k, i, n, rl, p, ⟨⟨xps, xts, xn⟩, .slice po xps.length pc, .slice qo xts.length qc⟩⟩] (by rw [HVL.out]; exact (Rd.of_owns HRW.out).chg hca (fun _ _ _ h => h)) (Rd_lit v1 #[.int .i64 ((lo : Int) + 1), .int .i64 k, .int .i64 i, .int .i64 n, .int .i64 rl, .bool p, .slice po xps.length pc, .slice qo xts.length qc, .string xn] 54 1) (by rw [HEQ.out]; simp only [List.map_cons, List.map_nil, rcs]; rw [HXL.out]) (by rw [HVL.out]; decide)
    (fun y hy => ⟨((HOWN.out y hy).chg hca (fun _ _ _ h => h)).at, by
      have h5 : y.rc ∈ rcs vs := List.mem_map_of_mem hy
      rw [HEQ.out] at h5
      have h6 : y.rc = L9 := by simpa using h5
      have h7 : y.q.x.c = (⟨xps, xts, xn⟩ : Cm) := by
        have h8 := congrArg (fun r : Rc => r.r.c) (h6.trans HXL.out.symm)
        exact h8
      rw [h7]; exact (HXR0.out _ HBa.out t).few⟩) (fun y hy => by rw [List.mem_singleton.1 hy]; exact (HXR0.out _ HBa.out t).cm)
  have HSAME := hide hsame
  have HP1 := hide (hca.heap HP.out (fun h => h))
  have HA3 := hide (hca.heap HA2.out (fun h => h))
  have HB3 := hide (hca.heap HB2.out (fun h => h))
  clear hca hsame HRW HOWN HP5
  go_wp2_with fail
  refine HSAME.out.mono ?_
  rintro e v2 ⟨rfl, hb2⟩
  have hc2 := Chg.of_below0 (S := fun _ => False) hb2
  have HBb := hide (HBa.out.trans (hb2.mono HBa.out.size))
  replace HP1 := hide (hc2.heap HP1.out (fun h => h))
  replace HA3 := hide (hc2.heap HA3.out (fun h => h))
  replace HB3 := hide (hc2.heap HB3.out (fun h => h))
  clear hb2 hc2 HSAME HBa cl0 cl1 cl2 cl3 cl4 cl5 cl6 cl7 cl8
  have hwr : IntKind.i64.wrap ((A.length : Int) + (Bb.length : Int)) = (A.length : Int) + (Bb.length : Int) := IntWalk.i64_in _ (by have := HAL.out; have := HBL.out; omega)
  have hsum : (((Bb.length : Int) + (A.length : Int)) == ((A.length : Int) + (Bb.length : Int))) = true := by rw [beq_iff_eq]; omega
  have ca0 := cell_of_heap HA3.out 0
  have ca1 := cell_of_heap HA3.out 1
  have ca2 := cell_of_heap HA3.out 2
  have ca3 := cell_of_heap HA3.out 3
  have ca4 := cell_of_heap HA3.out 4
  have ca5 := cell_of_heap HA3.out 5
  have ca6 := cell_of_heap HA3.out 6
  have ca7 := cell_of_heap HA3.out 7
  have ca8 := cell_of_heap HA3.out 8
  simp at ca0 ca1 ca2 ca3 ca4 ca5 ca6 ca7 ca8
  have HBc := hide (HBb.out.alloc HBb.out.size (Obj.cells #[.int .i64 (-1), .int .i64 k, .int .i64 i, .int .i64 n, .int .i64 rl, .bool p, .slice po xps.length pc, .slice qo xts.length qc, .string xn] 54))
  have hlow := record_Lay (v2.alloc (Obj.cells #[.int .i64 (-1), .int .i64 k, .int .i64 i, .int .i64 n, .int .i64 rl, .bool p, .slice po xps.length pc, .slice qo xts.length qc, .string xn] 54)) (.slice (some ⟨v2.heap.size, 0, none⟩) 1 1) [⟨(-1), k, i, n, rl, p, ⟨⟨xps, xts, xn⟩, .slice po xps.length pc, .slice qo xts.length qc⟩⟩] (Rd_lit v2 #[.int .i64 (-1), .int .i64 k, .int .i64 i, .int .i64 n, .int .i64 rl, .bool p, .slice po xps.length pc, .slice qo xts.length qc, .string xn] 54 1) (by simp) (fun y hy => by rw [List.mem_singleton.1 hy]; exact HXR0.out _ HBc.out (-1)) (HM.out.below HBc.out HM.out.pos)
  rw [show layRcs (rcs [⟨(-1), k, i, n, rl, p, ⟨⟨xps, xts, xn⟩, .slice po xps.length pc, .slice qo xts.length qc⟩⟩]) = [] from layRcs_one_no (by simp [mayRc, RcV.rc])] at hlow
  have HLOW := hide hlow
  have hca := Chg.alloc (fun _ => False) v2 (Obj.cells #[.int .i64 (-1), .int .i64 k, .int .i64 i, .int .i64 n, .int .i64 rl, .bool p, .slice po xps.length pc, .slice qo xts.length qc, .string xn] 54)
  replace HP1 := hide (hca.heap HP1.out (fun h => h))
  replace HB3 := hide (hca.heap HB3.out (fun h => h))
  clear hlow hca HA3
  go_wp2_with fail
  refine HLOW.out.mono ?_
  rintro e v3 ⟨hb3, ao3', cap3', rfl, -⟩
  have hc3 := Chg.of_below0 (S := fun _ => False) hb3
  have HBd := hide (HBc.out.trans (hb3.mono HBc.out.size))
  replace HP1 := hide (hc3.heap HP1.out (fun h => h))
  replace HB3 := hide (hc3.heap HB3.out (fun h => h))
  clear hb3 hc3 HLOW HBc ca0 ca1 ca2 ca3 ca4 ca5 ca6 ca7 ca8
  have cp0 := cell_of_heap HP1.out 0
  have cp1 := cell_of_heap HP1.out 1
  have cp2 := cell_of_heap HP1.out 2
  have cp3 := cell_of_heap HP1.out 3
  have cp4 := cell_of_heap HP1.out 4
  have cp5 := cell_of_heap HP1.out 5
  have cp6 := cell_of_heap HP1.out 6
  have cp7 := cell_of_heap HP1.out 7
  have cp8 := cell_of_heap HP1.out 8
  simp at cp0 cp1 cp2 cp3 cp4 cp5 cp6 cp7 cp8
  have cb0 := cell_of_heap HB3.out 0
  have cb1 := cell_of_heap HB3.out 1
  have cb2 := cell_of_heap HB3.out 2
  have cb3 := cell_of_heap HB3.out 3
  have cb4 := cell_of_heap HB3.out 4
  have cb5 := cell_of_heap HB3.out 5
  have cb6 := cell_of_heap HB3.out 6
  have cb7 := cell_of_heap HB3.out 7
  have cb8 := cell_of_heap HB3.out 8
  simp at cb0 cb1 cb2 cb3 cb4 cb5 cb6 cb7 cb8
  have HBe := hide (HBd.out.alloc HBd.out.size (Obj.cells #[.int .i64 t, .int .i64 k, .int .i64 i, .int .i64 n, .int .i64 rl, .bool p, .slice po xps.length pc, .slice qo xts.length qc, .string xn, .int .i64 1099511627777, .int .i64 k, .int .i64 i, .int .i64 n, .int .i64 rl, .bool p, .slice po xps.length pc, .slice qo xts.length qc, .string xn] 54))
  have hhi := record_Lay (v3.alloc (Obj.cells #[.int .i64 t, .int .i64 k, .int .i64 i, .int .i64 n, .int .i64 rl, .bool p, .slice po xps.length pc, .slice qo xts.length qc, .string xn, .int .i64 1099511627777, .int .i64 k, .int .i64 i, .int .i64 n, .int .i64 rl, .bool p, .slice po xps.length pc, .slice qo xts.length qc, .string xn] 54)) (.slice (some ⟨v3.heap.size, 0, none⟩) 2 2) [⟨t, k, i, n, rl, p, ⟨⟨xps, xts, xn⟩, .slice po xps.length pc, .slice qo xts.length qc⟩⟩, ⟨1099511627777, k, i, n, rl, p, ⟨⟨xps, xts, xn⟩, .slice po xps.length pc, .slice qo xts.length qc⟩⟩] (Rd_lit v3 #[.int .i64 t, .int .i64 k, .int .i64 i, .int .i64 n, .int .i64 rl, .bool p, .slice po xps.length pc, .slice qo xts.length qc, .string xn, .int .i64 1099511627777, .int .i64 k, .int .i64 i, .int .i64 n, .int .i64 rl, .bool p, .slice po xps.length pc, .slice qo xts.length qc, .string xn] 54 2) (by simp) (fun y hy => by
    rcases List.mem_cons.1 hy with h5 | h5
    · rw [h5]; exact HXR0.out _ HBe.out t
    · rw [List.mem_singleton.1 h5]; exact HXR0.out _ HBe.out 1099511627777) (HM.out.below HBe.out HM.out.pos)
  rw [show layRcs (rcs [⟨t, k, i, n, rl, p, ⟨⟨xps, xts, xn⟩, .slice po xps.length pc, .slice qo xts.length qc⟩⟩, ⟨1099511627777, k, i, n, rl, p, ⟨⟨xps, xts, xn⟩, .slice po xps.length pc, .slice qo xts.length qc⟩⟩]) = [] from layRcs_no (j := 1) (by simp [rcs]) (by simp [rcs, mayRc, RcV.rc])] at hhi
  have HHI := hide hhi
  clear hhi
  go_wp2_with fail
  refine HHI.out.mono ?_
  rintro e v4 ⟨hb4, ao4', cap4', rfl, -⟩
  have HBf := hide (HBe.out.trans (hb4.mono HBe.out.size))
  clear hb4 HHI HBe cp0 cp1 cp2 cp3 cp4 cp5 cp6 cp7 cp8 cb0 cb1 cb2 cb3 cb4 cb5 cb6 cb7 cb8
  go_wp2_with fail
  refine (awake18 _ (HM.out.below HBf.out HM.out.pos)).mono ?_
  rintro e v5 ⟨rfl, hb5⟩
  have HBg := hide (HBf.out.trans (hb5.mono HBf.out.size))
  clear hb5
  go_wp2_with fail
  go_ret
  exact ⟨rfl, HBg.out⟩

set_option maxRecDepth 100000 in
theorem RecordTimes_lifted (os : Os) (started : os.Started) (H : Type) (enc : TypeId × Value → H) :
    ReturnsInHanded {} Tryd.checked os 8 .any (fun w args => (Rows.recordTimesSpec.pre enc Tryd.prog Tryd.f8 Rows.recordTimesRow.domain false w args ∧ laidMetH Tryd.prog cardLaid w) ∧ sizedMet enc Tryd.prog Tryd.f8 (OpenSpec.ofChange Rows.recordTimesSpec) false w args) (Rows.recordTimesSpec.post enc Tryd.prog Tryd.f8 false true false false) := by
  refine card_wrap (C := Tryd.checked) (X := fun w => laidMetH Tryd.prog cardLaid w) law_own started (by kernel_rfl) Tryd.func8
    (ChangeSpec.witness_at (enc := enc) (C := Tryd.checked) (os := os) (X := fun w _ => laidMetH Tryd.prog cardLaid w) false (laidWorld os) #[.agg #[.int .i64 0, .int .i64 0, .int .i64 0, .int .i64 0, .int .i64 0, .bool false, .slice none 0 0, .slice none 0 0, .string ⟨#[]⟩], .int .i64 0] 8 rfl (by kernel_rfl) (by kernel_rfl) (by kernel_rfl) (by kernel_rfl) (by kernel_rfl) (laidWorld_met os _)) ?_
  intro W base args ds gs before hval0 hW hsh
  have hM := mx_of_shaped hsh
  have hval : ∀ (j : Nat) t v, Tryd.f8.params[j]? = some t → args[j]? = some v → Value.okWide Tryd.prog W .any base t v := hval0
  have hW' := hW
  obtain ⟨p, q, hA0, hV, rfl, hfz, hnd⟩ := hW
  have hA : DataW.TrodAll enc Tryd.prog W 0 (fun _ => true) true Tryd.f8.params.toList args.toList ds p := hA0
  rw [Tryd.params8] at hA hval
  obtain ⟨v0, vs0, d0, ds0, p0, q0, hargs, rfl, rfl, h0, r0⟩ := trodAll_cons hA
  obtain ⟨v1, vs1, d1, ds1, p1, q1, rfl, rfl, rfl, h1, r1⟩ := trodAll_cons r0
  obtain ⟨rfl, rfl, rfl⟩ := trodAll_nil r1
  obtain rfl : args = #[v0, v1] := by cases args; simp_all
  obtain ⟨rfl, rfl⟩ := trodVars_none hV
  have k0 := h0
  have lt0 : ∀ x ∈ p0, x.block < W.heap.size := by obtain ⟨m, hm⟩ := k0; exact DataW.trod_lt m _ _ _ hm
  obtain ⟨cs0, rfl, hsz0⟩ := okWide_struct Tryd.underlying54 (hval 0 54 v0 rfl rfl)
  have k1 := h1
  have lt1 : ∀ x ∈ p1, x.block < W.heap.size := by obtain ⟨m, hm⟩ := k1; exact DataW.trod_lt m _ _ _ hm
  obtain ⟨a1, rfl, rfl, rfl, w1⟩ := open_int Tryd.underlying3 (hval 1 3 v1 rfl rfl) h1
  clear hA0 hval0
  refine (RecordTimes_walk (enc := enc) W hM cs0 (Readable.of_trod h0) a1 w1).mono fun e W' ⟨he, bel⟩ => ?_
  subst he
  exact ⟨_, rfl, _, _, _, [], _, [], hW', trodAll_mk1 (shut_bool Tryd.underlying4 _), (trodAll_cons_mk (Below.trod law_laid (by kernel_rfl) (of_decide_eq_true (by kernel_rfl)) k0 bel lt0) (trodAll_cons_mk (Below.trod law_laid (by kernel_rfl) (of_decide_eq_true (by kernel_rfl)) k1 bel lt1) trodAll_mk0)), rfl, bel.frame _, fun h => by cases h⟩

theorem RecordTimes_over : Rows.recordTimesRow.holds Tryd.pinned (OpenSpec.ofChange Rows.recordTimesSpec) :=
  OpenClaim.holds_of_wide 8 Tryd.f8 rfl rfl rfl rfl rfl rfl rfl ⟨rfl, rfl, rfl, rfl, rfl⟩ rfl rfl rfl rfl rfl (by kernel_rfl) Tryd.func8 (by kernel_rfl)
    (of_decide_eq_true (by kernel_rfl)) (by unfold Func.isWrapper; first | (rw [if_pos (by decide +kernel)]; kernel_rfl) | (rw [if_neg (by decide +kernel)]; exact ⟨rfl, rfl⟩))
    (fun os started H enc _ => RecordTimes_lifted os started H enc)

theorem RecordTimes_params : ∀ (j : Nat) t, Tryd.f8.params[j]? = some t → Tryd.prog.wantsStandIn t = false := by
  intro j t ht
  rw [Tryd.params8] at ht
  have hm : t ∈ ([54, 3] : List TypeId) := List.mem_of_getElem? (i := j) (by simpa using ht)
  simp only [List.mem_cons, List.not_mem_nil, or_false] at hm
  rcases hm with h | h
  · subst h; exact (show Tryd.prog.wantsStandIn 54 = false by kernel_rfl)
  · subst h; exact (show Tryd.prog.wantsStandIn 3 = false by kernel_rfl)
theorem RecordTimes_holds : Rows.RecordTimesCardSaid :=
  Claim7.holds_tied_plain_at .later [] [.data, .pinned] true (true, "c4be9e7f0cdbaae3bf531276a3d215d8076bde4fb581a78ccccc1d3c7d66db3a") false
    RecordTimes_over (fun _ h => by cases h) (by kernel_rfl) (fun _ h => by cases h) recordTimes_row_tie rfl ⟨rfl, rfl⟩ (by kernel_rfl) rfl
    (fun f fn hf hfn => by
      obtain rfl : f = 8 := Option.some.inj ((show Tryd.prog.funcNamed "cortege/cortegelaw18.RecordTimes" = some 8 by kernel_rfl).symm.trans hf) |>.symm
      obtain rfl : fn = Tryd.f8 := (Option.some.inj (Tryd.func8.symm.trans hfn)).symm
      exact ⟨by kernel_rfl, RecordTimes_params⟩)
    (by kernel_rfl)
#print axioms RecordTimes_holds

end Go.Proofs.YtjmmmpnpkialjaaDoor
