/- RequestFields: a request that may be may not be any more with a number out of bounds, or with a field that its kind does not have. Conditions: none. -/
import Derived.Test.YtjmmmpnpkialjaaDoorRows
import Derived.Test.YtjmmmpnpkialjaaDoorTie
import Derived.Test.YtjmmmpnpkialjaaDoorCards
import Derived.Test.YtjmmmpnpkialjaaDoorCardB
import Derived.SevenTiedAt
import Derived.Test.YtjmmmpnpkialjaaDoorReqZ
import Derived.Test.YtjmmmpnpkialjaaDoorReg
import Derived.Deep.CutBlock
namespace Go.Proofs.YtjmmmpnpkialjaaDoor
open Go.ChangeShapes Go.WideShapes Go.ChangeAt Go.RowKit
open Go.ChangeMaps (open_string shut_string)
set_option linter.unusedVariables false
open Go.Shelf
attribute [local go_sem] Oper.semAt_some

/-- The cells of a request. -/
def RqV.cells (q : RqV) : Array Value := #[.int .i64 q.kind, .int .i64 q.id, .int .i64 q.number, .int .i64 q.lane, .bool q.pass, q.x.vp, q.x.vt, .string q.x.c.note]
theorem may_id {r : Rq} (h : ¬ (1 ≤ r.id ∧ r.id ≤ 2147483647)) : mayRq r = false := by
  cases hm : mayRq r with
  | false => rfl
  | true => exact absurd (mayRq_small hm).id h
theorem may_number {r : Rq} (h : ¬ (0 ≤ r.number ∧ r.number ≤ 2147483647)) : mayRq r = false := by
  cases hm : mayRq r with
  | false => rfl
  | true => exact absurd (mayRq_small hm).number h
theorem may_lane {r : Rq} (h : ¬ (0 ≤ r.lane ∧ r.lane < 4)) : mayRq r = false := by
  cases hm : mayRq r with
  | false => rfl
  | true => exact absurd (mayRq_small hm).lane h
theorem may_kind {r : Rq} (h : ¬ (1 ≤ r.kind ∧ r.kind ≤ 6)) : mayRq r = false := by
  cases hm : mayRq r with
  | false => rfl
  | true => exact absurd (mayRq_small hm).kind h
theorem may_parents {r : Rq} (h : r.c.parents = [0]) : mayRq r = false := by
  cases hm : mayRq r with
  | false => rfl
  | true =>
    have hs := mayRq_small hm
    by_cases hk : r.kind = 1
    · have h1 := (hs.push hk).pid 0 (by rw [h]; simp)
      omega
    · have h1 := hs.other hk
      rw [h1] at h
      cases h
theorem may_note {r : Rq} (h : r.c.note.size = 61) : mayRq r = false := by
  cases hm : mayRq r with
  | false => rfl
  | true =>
    have hs := mayRq_small hm
    by_cases hk : r.kind = 1
    · have h1 := (hs.push hk).nt
      omega
    · have h1 := hs.other hk
      rw [h1] at h
      cases h
/-- The other pass. -/
theorem may_pass {k i n l : Int} {p : Bool} {c : Cm} (h : mayRq ⟨k, i, n, l, p, c⟩ = true) : mayRq ⟨k, i, n, l, !p, c⟩ = decide (k = 5) := by
  simp only [mayRq, mayK] at h ⊢
  by_cases hk : k = 5
  · subst hk
    simp only [decide_true, Bool.true_or, Bool.and_true] at h ⊢
    exact h
  · cases p with
    | true => simp [hk] at h
    | false => simp [hk]
theorem eq_false {a b : Rq} (h : a ≠ b) : rqEq a b = false := by
  cases hq : rqEq a b with
  | false => rfl
  | true => exact absurd ((rqEq_iff a b).1 hq) h
theorem sets8_heap {w : World} {b : Nat} {T : TypeId} (h : w.heap[b]? = some (.cells rqZ T (0, 0))) (v0 v1 v2 v3 v4 v5 v6 v7 : Value) :
    ((((((((w.setCell ⟨b, 0, none⟩ v0).setCell ⟨b, 1, none⟩ v1).setCell ⟨b, 2, none⟩ v2).setCell ⟨b, 3, none⟩ v3).setCell ⟨b, 4, none⟩ v4).setCell ⟨b, 5, none⟩ v5).setCell ⟨b, 6, none⟩ v6).setCell ⟨b, 7, none⟩ v7).heap[b]? = some (.cells #[v0, v1, v2, v3, v4, v5, v6, v7] T (0, 0)) := by
  unfold rqZ at h
  have h1 : (w.setCell ⟨b, 0, none⟩ v0).heap[b]? = some (.cells #[v0, .int .i64 0, .int .i64 0, .int .i64 0, .bool false, .slice none 0 0, .slice none 0 0, .string ⟨#[]⟩] T (0, 0)) := heap_setCell_same h (i := 0) v0
  have h2 : ((w.setCell ⟨b, 0, none⟩ v0).setCell ⟨b, 1, none⟩ v1).heap[b]? = some (.cells #[v0, v1, .int .i64 0, .int .i64 0, .bool false, .slice none 0 0, .slice none 0 0, .string ⟨#[]⟩] T (0, 0)) := heap_setCell_same h1 (i := 1) v1
  have h3 : (((w.setCell ⟨b, 0, none⟩ v0).setCell ⟨b, 1, none⟩ v1).setCell ⟨b, 2, none⟩ v2).heap[b]? = some (.cells #[v0, v1, v2, .int .i64 0, .bool false, .slice none 0 0, .slice none 0 0, .string ⟨#[]⟩] T (0, 0)) := heap_setCell_same h2 (i := 2) v2
  have h4 : ((((w.setCell ⟨b, 0, none⟩ v0).setCell ⟨b, 1, none⟩ v1).setCell ⟨b, 2, none⟩ v2).setCell ⟨b, 3, none⟩ v3).heap[b]? = some (.cells #[v0, v1, v2, v3, .bool false, .slice none 0 0, .slice none 0 0, .string ⟨#[]⟩] T (0, 0)) := heap_setCell_same h3 (i := 3) v3
  have h5 : (((((w.setCell ⟨b, 0, none⟩ v0).setCell ⟨b, 1, none⟩ v1).setCell ⟨b, 2, none⟩ v2).setCell ⟨b, 3, none⟩ v3).setCell ⟨b, 4, none⟩ v4).heap[b]? = some (.cells #[v0, v1, v2, v3, v4, .slice none 0 0, .slice none 0 0, .string ⟨#[]⟩] T (0, 0)) := heap_setCell_same h4 (i := 4) v4
  have h6 : ((((((w.setCell ⟨b, 0, none⟩ v0).setCell ⟨b, 1, none⟩ v1).setCell ⟨b, 2, none⟩ v2).setCell ⟨b, 3, none⟩ v3).setCell ⟨b, 4, none⟩ v4).setCell ⟨b, 5, none⟩ v5).heap[b]? = some (.cells #[v0, v1, v2, v3, v4, v5, .slice none 0 0, .string ⟨#[]⟩] T (0, 0)) := heap_setCell_same h5 (i := 5) v5
  have h7 : (((((((w.setCell ⟨b, 0, none⟩ v0).setCell ⟨b, 1, none⟩ v1).setCell ⟨b, 2, none⟩ v2).setCell ⟨b, 3, none⟩ v3).setCell ⟨b, 4, none⟩ v4).setCell ⟨b, 5, none⟩ v5).setCell ⟨b, 6, none⟩ v6).heap[b]? = some (.cells #[v0, v1, v2, v3, v4, v5, v6, .string ⟨#[]⟩] T (0, 0)) := heap_setCell_same h6 (i := 6) v6
  have h8 : ((((((((w.setCell ⟨b, 0, none⟩ v0).setCell ⟨b, 1, none⟩ v1).setCell ⟨b, 2, none⟩ v2).setCell ⟨b, 3, none⟩ v3).setCell ⟨b, 4, none⟩ v4).setCell ⟨b, 5, none⟩ v5).setCell ⟨b, 6, none⟩ v6).setCell ⟨b, 7, none⟩ v7).heap[b]? = some (.cells #[v0, v1, v2, v3, v4, v5, v6, v7] T (0, 0)) := heap_setCell_same h7 (i := 7) v7
  exact h8
theorem chg_set {w w' : World} {b : Nat} (h : Chg (fun k => k = b) w w') (i : Nat) (v : Value) : Chg (fun k => k = b) w (w'.setCell ⟨b, i, none⟩ v) := h.trans (Chg.setCell w' ⟨b, i, none⟩ v) (fun _ _ h => h) (fun _ _ h => h)
theorem sets8_chg (w : World) (b : Nat) (v0 v1 v2 v3 v4 v5 v6 v7 : Value) : Chg (fun k => k = b) w ((((((((w.setCell ⟨b, 0, none⟩ v0).setCell ⟨b, 1, none⟩ v1).setCell ⟨b, 2, none⟩ v2).setCell ⟨b, 3, none⟩ v3).setCell ⟨b, 4, none⟩ v4).setCell ⟨b, 5, none⟩ v5).setCell ⟨b, 6, none⟩ v6).setCell ⟨b, 7, none⟩ v7) :=
  chg_set (chg_set (chg_set (chg_set (chg_set (chg_set (chg_set (chg_set (Chg.refl _ w) 0 v0) 1 v1) 2 v2) 3 v3) 4 v4) 5 v5) 6 v6) 7 v7
set_option maxHeartbeats 4000000 in
set_option maxRecDepth 100000 in
theorem RequestFields_walk {H : Type} {enc : TypeId × Value → H} (W : World) (hM : Mx W) (cs : Array Value) (hv : Readable enc Tryd.prog W 27 cs.toList) (wh : Int) (hwh : (Lit.int .i64 wh).wf = true) :
    Calls Tryd.prog 6 #[.agg cs, .int .i64 wh] W fun e W' => e = .returned (.bool true) ∧ Below W.heap.size W W' := by
  obtain ⟨⟨k, i, n, l, p, ⟨⟨xps, xts, xn⟩, xp, xt⟩⟩, hcs, hxa, hxw, -, -, -, -⟩ := request_of_readable hv
  simp only at hcs hxa hxw
  obtain rfl : cs = #[.int .i64 k, .int .i64 i, .int .i64 n, .int .i64 l, .bool p, xp, xt, .string xn] := by cases cs; simp at hcs; rw [hcs]
  have hxp : Rd W xp xps.length (flat int_enc xps) := hxa.ps
  have hxt : Rd W xt xts.length (flat fl_enc xts) := hxa.ts
  obtain ⟨po, pc, rfl, -, -⟩ := hxp.shape
  obtain ⟨qo, qc, rfl, -, -⟩ := hxt.shape
  have h1 := heap_alloc_new W (.cells #[.int .i64 k, .int .i64 i, .int .i64 n, .int .i64 l, .bool p, .slice po xps.length pc, .slice qo xts.length qc, .string xn] 27)
  have hb1 := (Below.refl W.heap.size W).alloc (Nat.le_refl _) (.cells #[.int .i64 k, .int .i64 i, .int .i64 n, .int .i64 l, .bool p, .slice po xps.length pc, .slice qo xts.length qc, .string xn] 27)
  obtain ⟨W1, hW1⟩ : ∃ W1, W1 = W.alloc (.cells #[.int .i64 k, .int .i64 i, .int .i64 n, .int .i64 l, .bool p, .slice po xps.length pc, .slice qo xts.length qc, .string xn] 27) := ⟨_, rfl⟩
  rw [← hW1] at h1 hb1
  have HH1 := hide h1
  have HB := hide hb1
  have HM := hide hM
  have HXA := hide hxa
  have HG1 := hide (GreatCommit_ok W1 ⟨⟨xps, xts, xn⟩, .slice po xps.length pc, .slice qo xts.length qc⟩ (hxa.same (Chg.of_below0 hb1)) hxw)
  have HW1 := hide hW1
  clear h1 hb1 hM hv hcs hxa hxw hW1 hxp hxt hwh
  go_enter Tryd.func6, Tryd.ntmps6
  go_upto_region 1 with (fail)
  rw [← HW1.out]
  clear HW1
  have a0 := cell_of_heap HH1.out 0
  have a1 := cell_of_heap HH1.out 1
  have a2 := cell_of_heap HH1.out 2
  have a3 := cell_of_heap HH1.out 3
  have a4 := cell_of_heap HH1.out 4
  have a5 := cell_of_heap HH1.out 5
  have a6 := cell_of_heap HH1.out 6
  have a7 := cell_of_heap HH1.out 7
  simp at a0 a1 a2 a3 a4 a5 a6 a7
  go_wp2_with fail
  refine HG1.out.mono ?_
  rintro e w2 ⟨rfl, hb⟩
  replace HB := hide (HB.out.trans (hb.mono HB.out.size))
  replace HH1 := hide ((Chg.of_below0 (S := fun _ => False) hb).heap HH1.out (fun h => h))
  clear hb HG1 a0 a1 a2 a3 a4 a5 a6 a7
  cases hg1 : greatC ⟨xps, xts, xn⟩ with
  | true =>
    clear hg1
    go_wp2_with fail
    refine (awake17 _ (HM.out.below HB.out HM.out.pos)).mono ?_
    rintro e w3 ⟨rfl, hb3⟩
    replace HB := hide (HB.out.trans (hb3.mono HB.out.size))
    clear hb3
    go_wp2_with fail
    go_ret
    exact ⟨rfl, HB.out⟩
  | false =>
  have HG := hide hg1
  clear hg1
  obtain ⟨hf1, hn1, hs1⟩ := great_small HG.out
  have HF1 := hide hf1
  have HN1 := hide hn1
  have hx3 := fun W4 (h : Chg (fun _ => False) w2 W4) => (HXA.out.same (Chg.of_below0 HB.out)).same h
  have HX3 := hide hx3
  have HMX := hide (HM.out.below HB.out HM.out.pos)
  clear hf1 hn1 hs1 hx3 HG HXA
  have hmy := request_May w2 ⟨k, i, n, l, p, ⟨⟨xps, xts, xn⟩, .slice po xps.length pc, .slice qo xts.length qc⟩⟩ (HX3.out _ (Chg.refl _ _)) HF1.out HN1.out HMX.out
  obtain ⟨m, hm⟩ : ∃ m, m = mayRq (RqV.r ⟨k, i, n, l, p, ⟨⟨xps, xts, xn⟩, .slice po xps.length pc, .slice qo xts.length qc⟩⟩) := ⟨_, rfl⟩
  rw [← hm] at hmy
  have HMY := hide hmy
  have HMM := hide hm
  clear hm hmy
  have a0 := cell_of_heap HH1.out 0
  have a1 := cell_of_heap HH1.out 1
  have a2 := cell_of_heap HH1.out 2
  have a3 := cell_of_heap HH1.out 3
  have a4 := cell_of_heap HH1.out 4
  have a5 := cell_of_heap HH1.out 5
  have a6 := cell_of_heap HH1.out 6
  have a7 := cell_of_heap HH1.out 7
  simp at a0 a1 a2 a3 a4 a5 a6 a7
  go_wp2_with fail
  refine HMY.out.mono ?_
  rintro e w3 ⟨rfl, hb⟩
  replace HB := hide (HB.out.trans (hb.mono HB.out.size))
  have hc3 : Chg (fun _ => False) w2 w3 := Chg.of_below0 hb
  replace HH1 := hide (hc3.heap HH1.out (fun h => h))
  have HC3 := hide hc3
  clear hb HMY a0 a1 a2 a3 a4 a5 a6 a7 hc3
  cases m with
  | false =>
    go_wp2_with fail
    refine (awake17 _ (HM.out.below HB.out HM.out.pos)).mono ?_
    rintro e w3 ⟨rfl, hb3⟩
    replace HB := hide (HB.out.trans (hb3.mono HB.out.size))
    clear hb3
    go_wp2_with fail
    go_ret
    exact ⟨rfl, HB.out⟩
  | true =>
  replace HX3 := hide (fun W4 (h : Chg (fun _ => False) w3 W4) => HX3.out W4 (HC3.out.trans h (fun _ _ h => h) (fun _ _ h => h)))
  replace HMX := hide (HMX.out.chg (S := fun _ => False) HC3.out (fun h => h))
  clear HC3
  have a0 := cell_of_heap HH1.out 0
  have a1 := cell_of_heap HH1.out 1
  have a2 := cell_of_heap HH1.out 2
  have a3 := cell_of_heap HH1.out 3
  have a4 := cell_of_heap HH1.out 4
  have a5 := cell_of_heap HH1.out 5
  have a6 := cell_of_heap HH1.out 6
  have a7 := cell_of_heap HH1.out 7
  simp at a0 a1 a2 a3 a4 a5 a6 a7
  go_upto_region 3 with (fail)
  go_cut [5, 6] from 17 to 18 (fun s t wc => ∃ pa pb, s = .pointer (some ⟨pa, 0, none⟩) ∧ t = .pointer (some ⟨pb, 0, none⟩) ∧ pa ≠ pb ∧ w3.heap.size ≤ pa ∧ w3.heap.size ≤ pb ∧
    wc.heap[pa]? = some (.cells #[.int .i64 k, .int .i64 i, .int .i64 n, .int .i64 l, .bool p, .slice po xps.length pc, .slice qo xts.length qc, .string xn] 27 (0, 0)) ∧ wc.heap[pb]? = some (.cells #[.int .i64 k, .int .i64 i, .int .i64 n, .int .i64 l, .bool p, .slice po xps.length pc, .slice qo xts.length qc, .string xn] 27 (0, 0)) ∧ Chg (fun _ => False) w3 wc)
  case first =>
    refine reg_start (Chg (fun _ => False) w3) 6 6 (by rfl) (by kernel_rfl) (Chg.drew _ _) ?_
    intro hS0
    have hSc := hS0
    refine reg_take (i := 0) (v := ?g2v) rfl (by kernel_rfl) (by kernel_rfl) (by kernel_rfl) (by kernel_rfl) (fun _ _ _ h => h) (by rfl) ?g2y (by assumption) ?g2r
    case g2y => (intro W hS; have f0 := hS.cell a0 (fun h => h); have f1 := hS.cell a1 (fun h => h); have f2 := hS.cell a2 (fun h => h); have f3 := hS.cell a3 (fun h => h); have f4 := hS.cell a4 (fun h => h); have f5 := hS.cell a5 (fun h => h); have f6 := hS.cell a6 (fun h => h); have f7 := hS.cell a7 (fun h => h); first | (go_simp; done) | (go_simp; with_reducible rfl))
    simp only [Act.put, List.setIfInBounds_toArray, List.set_cons_zero, List.set_cons_succ]
    refine reg_take (i := 1) (v := ?g3v) rfl (by kernel_rfl) (by kernel_rfl) (by kernel_rfl) (by kernel_rfl) (fun _ _ _ h => h) (by rfl) ?g3y (by assumption) ?g3r
    case g3y => (intro W hS; have f0 := hS.cell a0 (fun h => h); have f1 := hS.cell a1 (fun h => h); have f2 := hS.cell a2 (fun h => h); have f3 := hS.cell a3 (fun h => h); have f4 := hS.cell a4 (fun h => h); have f5 := hS.cell a5 (fun h => h); have f6 := hS.cell a6 (fun h => h); have f7 := hS.cell a7 (fun h => h); first | (go_simp; done) | (go_simp; with_reducible rfl))
    simp only [Act.put, List.setIfInBounds_toArray, List.set_cons_zero, List.set_cons_succ]
    refine reg_two (i := 2) (j := 3) (by kernel_rfl) ?_ ?_
    · refine op_val (i := 2) rfl (by rfl) (v := .pointer (some ⟨w3.heap.size, 0, none⟩)) (w' := w3.drew.alloc (Obj.cells rqZ 27)) (by unfold rqZ; go_simp) ?_
      refine ⟨(Chg.drew (fun _ => False) w3).trans (Chg.alloc (fun _ => False) _ _) (fun _ _ h => h) (fun _ _ h => h), ?_⟩
      simp only [Act.put, List.setIfInBounds_toArray, List.set_cons_zero, List.set_cons_succ]
      refine reg_one (i := 3) (by kernel_rfl) ?_
      refine op_val (i := 3) rfl (by rfl) (v := .pointer (some ⟨w3.heap.size + 1, 0, none⟩)) (w' := (w3.drew.alloc (Obj.cells rqZ 27)).alloc (Obj.cells rqZ 27)) (by unfold rqZ; go_simp) ?_
      obtain ⟨wq, hwq⟩ : ∃ wq, wq = (w3.drew.alloc (Obj.cells rqZ 27)).alloc (Obj.cells rqZ 27) := ⟨_, rfl⟩
      have hn0 : wq.heap[w3.heap.size]? = some (.cells rqZ 27 (0, 0)) := by rw [hwq]; exact (Chg.alloc (fun _ => False) _ _).heap (heap_alloc_new w3.drew _) (fun h => h)
      have hn1 : wq.heap[w3.heap.size + 1]? = some (.cells rqZ 27 (0, 0)) := by rw [hwq]; have h5 := heap_alloc_new (w3.drew.alloc (Obj.cells rqZ 27)) (Obj.cells rqZ 27); rw [World.size_alloc] at h5; exact h5
      have hSc : Chg (fun _ => False) w3 wq := by rw [hwq]; exact ((Chg.drew (fun _ => False) w3).trans (Chg.alloc (fun _ => False) _ _) (fun _ _ h => h) (fun _ _ h => h)).trans (Chg.alloc (fun _ => False) _ _) (fun _ _ h => h) (fun _ _ h => h)
      rw [← hwq]
      clear hwq
      obtain ⟨pa, hpa⟩ : ∃ pa, pa = w3.heap.size := ⟨_, rfl⟩
      obtain ⟨pb, hpb⟩ : ∃ pb, pb = w3.heap.size + 1 := ⟨_, rfl⟩
      have HNE := hide (show pa ≠ pb by omega)
      have HGA := hide (show w3.heap.size ≤ pa by omega)
      have HGB := hide (show w3.heap.size ≤ pb by omega)
      rw [← hpb, ← hpa]
      have HA : Hid (wq.heap[pa]? = some (.cells rqZ 27 (0, 0))) := by rw [hpa]; exact hn0
      have HBX : Hid (wq.heap[pb]? = some (.cells rqZ 27 (0, 0))) := by rw [hpb]; exact hn1
      clear hpa hpb hn0 hn1
      have HW := hide hSc
      have t0 := cell_of_heap HA.out 0
      have u0 := free_of_heap HA.out 0
      have t1 := cell_of_heap HA.out 1
      have u1 := free_of_heap HA.out 1
      have t2 := cell_of_heap HA.out 2
      have u2 := free_of_heap HA.out 2
      have t3 := cell_of_heap HA.out 3
      have u3 := free_of_heap HA.out 3
      have t4 := cell_of_heap HA.out 4
      have u4 := free_of_heap HA.out 4
      have t5 := cell_of_heap HA.out 5
      have u5 := free_of_heap HA.out 5
      have t6 := cell_of_heap HA.out 6
      have u6 := free_of_heap HA.out 6
      have t7 := cell_of_heap HA.out 7
      have u7 := free_of_heap HA.out 7
      unfold rqZ at t0 t1 t2 t3 t4 t5 t6 t7
      simp at t0 t1 t2 t3 t4 t5 t6 t7 u0 u1 u2 u3 u4 u5 u6 u7
      refine ⟨hSc, ?_⟩
      simp only [Act.put, List.setIfInBounds_toArray, List.set_cons_zero, List.set_cons_succ]
      refine reg_one (i := 4) (by kernel_rfl) ?_
      refine op_store (i := 4) rfl (by rfl) (w' := ((((((((wq.setCell ⟨pa, 0, none⟩ (.int .i64 k)).setCell ⟨pa, 1, none⟩ (.int .i64 i)).setCell ⟨pa, 2, none⟩ (.int .i64 n)).setCell ⟨pa, 3, none⟩ (.int .i64 l)).setCell ⟨pa, 4, none⟩ (.bool p)).setCell ⟨pa, 5, none⟩ (.slice po xps.length pc)).setCell ⟨pa, 6, none⟩ (.slice qo xts.length qc)).setCell ⟨pa, 7, none⟩ (.string xn))) (by go_simp) ?_
      obtain ⟨ws, hws⟩ : ∃ ws, ws = ((((((((wq.setCell ⟨pa, 0, none⟩ (.int .i64 k)).setCell ⟨pa, 1, none⟩ (.int .i64 i)).setCell ⟨pa, 2, none⟩ (.int .i64 n)).setCell ⟨pa, 3, none⟩ (.int .i64 l)).setCell ⟨pa, 4, none⟩ (.bool p)).setCell ⟨pa, 5, none⟩ (.slice po xps.length pc)).setCell ⟨pa, 6, none⟩ (.slice qo xts.length qc)).setCell ⟨pa, 7, none⟩ (.string xn)) := ⟨_, rfl⟩
      have hcs : Chg (fun k => k = pa) wq ws := hws ▸ sets8_chg wq pa (.int .i64 k) (.int .i64 i) (.int .i64 n) (.int .i64 l) (.bool p) (.slice po xps.length pc) (.slice qo xts.length qc) (.string xn)
      have ha : ws.heap[pa]? = some (.cells #[.int .i64 k, .int .i64 i, .int .i64 n, .int .i64 l, .bool p, .slice po xps.length pc, .slice qo xts.length qc, .string xn] 27 (0, 0)) := hws ▸ sets8_heap HA.out (.int .i64 k) (.int .i64 i) (.int .i64 n) (.int .i64 l) (.bool p) (.slice po xps.length pc) (.slice qo xts.length qc) (.string xn)
      rw [← hws]
      clear hws
      have HA2 := hide ha
      have HB2 := hide (hcs.heap HBX.out (fun h => by have h5 : pb = pa := h; have h6 := HNE.out; omega))
      have hSc := hSc.trans hcs (S'' := fun _ => False) (fun _ _ h => h) (fun k hk h => by have h5 : k = pa := h; have h6 := HGA.out; omega)
      clear t0 t1 t2 t3 t4 t5 t6 t7 u0 u1 u2 u3 u4 u5 u6 u7 hcs ha
      have t0 := cell_of_heap HB2.out 0
      have u0 := free_of_heap HB2.out 0
      have t1 := cell_of_heap HB2.out 1
      have u1 := free_of_heap HB2.out 1
      have t2 := cell_of_heap HB2.out 2
      have u2 := free_of_heap HB2.out 2
      have t3 := cell_of_heap HB2.out 3
      have u3 := free_of_heap HB2.out 3
      have t4 := cell_of_heap HB2.out 4
      have u4 := free_of_heap HB2.out 4
      have t5 := cell_of_heap HB2.out 5
      have u5 := free_of_heap HB2.out 5
      have t6 := cell_of_heap HB2.out 6
      have u6 := free_of_heap HB2.out 6
      have t7 := cell_of_heap HB2.out 7
      have u7 := free_of_heap HB2.out 7
      unfold rqZ at t0 t1 t2 t3 t4 t5 t6 t7
      simp at t0 t1 t2 t3 t4 t5 t6 t7 u0 u1 u2 u3 u4 u5 u6 u7
      refine ⟨hSc, ?_⟩
      simp only [Act.put]
      refine reg_one (i := 5) (by kernel_rfl) ?_
      refine op_store (i := 5) rfl (by rfl) (w' := ((((((((ws.setCell ⟨pb, 0, none⟩ (.int .i64 k)).setCell ⟨pb, 1, none⟩ (.int .i64 i)).setCell ⟨pb, 2, none⟩ (.int .i64 n)).setCell ⟨pb, 3, none⟩ (.int .i64 l)).setCell ⟨pb, 4, none⟩ (.bool p)).setCell ⟨pb, 5, none⟩ (.slice po xps.length pc)).setCell ⟨pb, 6, none⟩ (.slice qo xts.length qc)).setCell ⟨pb, 7, none⟩ (.string xn))) (by go_simp) ?_
      obtain ⟨wt, hwt⟩ : ∃ wt, wt = ((((((((ws.setCell ⟨pb, 0, none⟩ (.int .i64 k)).setCell ⟨pb, 1, none⟩ (.int .i64 i)).setCell ⟨pb, 2, none⟩ (.int .i64 n)).setCell ⟨pb, 3, none⟩ (.int .i64 l)).setCell ⟨pb, 4, none⟩ (.bool p)).setCell ⟨pb, 5, none⟩ (.slice po xps.length pc)).setCell ⟨pb, 6, none⟩ (.slice qo xts.length qc)).setCell ⟨pb, 7, none⟩ (.string xn)) := ⟨_, rfl⟩
      have hcs : Chg (fun k => k = pb) ws wt := hwt ▸ sets8_chg ws pb (.int .i64 k) (.int .i64 i) (.int .i64 n) (.int .i64 l) (.bool p) (.slice po xps.length pc) (.slice qo xts.length qc) (.string xn)
      have hb : wt.heap[pb]? = some (.cells #[.int .i64 k, .int .i64 i, .int .i64 n, .int .i64 l, .bool p, .slice po xps.length pc, .slice qo xts.length qc, .string xn] 27 (0, 0)) := hwt ▸ sets8_heap HB2.out (.int .i64 k) (.int .i64 i) (.int .i64 n) (.int .i64 l) (.bool p) (.slice po xps.length pc) (.slice qo xts.length qc) (.string xn)
      rw [← hwt]
      clear hwt
      have HB3 := hide hb
      have HA3 := hide (hcs.heap HA2.out (fun h => by have h5 : pa = pb := h; have h6 := HNE.out; omega))
      have hSc := hSc.trans hcs (S'' := fun _ => False) (fun _ _ h => h) (fun k hk h => by have h5 : k = pb := h; have h6 := HGB.out; omega)
      clear t0 t1 t2 t3 t4 t5 t6 t7 u0 u1 u2 u3 u4 u5 u6 u7 hcs hb
      refine ⟨hSc, ?_⟩
      simp only [Act.put]
      refine wpAnyG_done (by kernel_rfl) ?_ _
      go_wp2
      go_meet
      exact ⟨pa, pb, rfl, rfl, HNE.out, HGA.out, HGB.out, HA3.out, HB3.out, hSc⟩
    · refine op_val (i := 3) rfl (by rfl) (v := .pointer (some ⟨w3.heap.size, 0, none⟩)) (w' := w3.drew.alloc (Obj.cells rqZ 27)) (by unfold rqZ; go_simp) ?_
      refine ⟨(Chg.drew (fun _ => False) w3).trans (Chg.alloc (fun _ => False) _ _) (fun _ _ h => h) (fun _ _ h => h), ?_⟩
      simp only [Act.put, List.setIfInBounds_toArray, List.set_cons_zero, List.set_cons_succ]
      refine reg_one (i := 2) (by kernel_rfl) ?_
      refine op_val (i := 2) rfl (by rfl) (v := .pointer (some ⟨w3.heap.size + 1, 0, none⟩)) (w' := (w3.drew.alloc (Obj.cells rqZ 27)).alloc (Obj.cells rqZ 27)) (by unfold rqZ; go_simp) ?_
      obtain ⟨wq, hwq⟩ : ∃ wq, wq = (w3.drew.alloc (Obj.cells rqZ 27)).alloc (Obj.cells rqZ 27) := ⟨_, rfl⟩
      have hn0 : wq.heap[w3.heap.size]? = some (.cells rqZ 27 (0, 0)) := by rw [hwq]; exact (Chg.alloc (fun _ => False) _ _).heap (heap_alloc_new w3.drew _) (fun h => h)
      have hn1 : wq.heap[w3.heap.size + 1]? = some (.cells rqZ 27 (0, 0)) := by rw [hwq]; have h5 := heap_alloc_new (w3.drew.alloc (Obj.cells rqZ 27)) (Obj.cells rqZ 27); rw [World.size_alloc] at h5; exact h5
      have hSc : Chg (fun _ => False) w3 wq := by rw [hwq]; exact ((Chg.drew (fun _ => False) w3).trans (Chg.alloc (fun _ => False) _ _) (fun _ _ h => h) (fun _ _ h => h)).trans (Chg.alloc (fun _ => False) _ _) (fun _ _ h => h) (fun _ _ h => h)
      rw [← hwq]
      clear hwq
      obtain ⟨pa, hpa⟩ : ∃ pa, pa = w3.heap.size + 1 := ⟨_, rfl⟩
      obtain ⟨pb, hpb⟩ : ∃ pb, pb = w3.heap.size := ⟨_, rfl⟩
      have HNE := hide (show pa ≠ pb by omega)
      have HGA := hide (show w3.heap.size ≤ pa by omega)
      have HGB := hide (show w3.heap.size ≤ pb by omega)
      rw [← hpa, ← hpb]
      have HA : Hid (wq.heap[pa]? = some (.cells rqZ 27 (0, 0))) := by rw [hpa]; exact hn1
      have HBX : Hid (wq.heap[pb]? = some (.cells rqZ 27 (0, 0))) := by rw [hpb]; exact hn0
      clear hpa hpb hn0 hn1
      have HW := hide hSc
      have t0 := cell_of_heap HA.out 0
      have u0 := free_of_heap HA.out 0
      have t1 := cell_of_heap HA.out 1
      have u1 := free_of_heap HA.out 1
      have t2 := cell_of_heap HA.out 2
      have u2 := free_of_heap HA.out 2
      have t3 := cell_of_heap HA.out 3
      have u3 := free_of_heap HA.out 3
      have t4 := cell_of_heap HA.out 4
      have u4 := free_of_heap HA.out 4
      have t5 := cell_of_heap HA.out 5
      have u5 := free_of_heap HA.out 5
      have t6 := cell_of_heap HA.out 6
      have u6 := free_of_heap HA.out 6
      have t7 := cell_of_heap HA.out 7
      have u7 := free_of_heap HA.out 7
      unfold rqZ at t0 t1 t2 t3 t4 t5 t6 t7
      simp at t0 t1 t2 t3 t4 t5 t6 t7 u0 u1 u2 u3 u4 u5 u6 u7
      refine ⟨hSc, ?_⟩
      simp only [Act.put, List.setIfInBounds_toArray, List.set_cons_zero, List.set_cons_succ]
      refine reg_one (i := 4) (by kernel_rfl) ?_
      refine op_store (i := 4) rfl (by rfl) (w' := ((((((((wq.setCell ⟨pa, 0, none⟩ (.int .i64 k)).setCell ⟨pa, 1, none⟩ (.int .i64 i)).setCell ⟨pa, 2, none⟩ (.int .i64 n)).setCell ⟨pa, 3, none⟩ (.int .i64 l)).setCell ⟨pa, 4, none⟩ (.bool p)).setCell ⟨pa, 5, none⟩ (.slice po xps.length pc)).setCell ⟨pa, 6, none⟩ (.slice qo xts.length qc)).setCell ⟨pa, 7, none⟩ (.string xn))) (by go_simp) ?_
      obtain ⟨ws, hws⟩ : ∃ ws, ws = ((((((((wq.setCell ⟨pa, 0, none⟩ (.int .i64 k)).setCell ⟨pa, 1, none⟩ (.int .i64 i)).setCell ⟨pa, 2, none⟩ (.int .i64 n)).setCell ⟨pa, 3, none⟩ (.int .i64 l)).setCell ⟨pa, 4, none⟩ (.bool p)).setCell ⟨pa, 5, none⟩ (.slice po xps.length pc)).setCell ⟨pa, 6, none⟩ (.slice qo xts.length qc)).setCell ⟨pa, 7, none⟩ (.string xn)) := ⟨_, rfl⟩
      have hcs : Chg (fun k => k = pa) wq ws := hws ▸ sets8_chg wq pa (.int .i64 k) (.int .i64 i) (.int .i64 n) (.int .i64 l) (.bool p) (.slice po xps.length pc) (.slice qo xts.length qc) (.string xn)
      have ha : ws.heap[pa]? = some (.cells #[.int .i64 k, .int .i64 i, .int .i64 n, .int .i64 l, .bool p, .slice po xps.length pc, .slice qo xts.length qc, .string xn] 27 (0, 0)) := hws ▸ sets8_heap HA.out (.int .i64 k) (.int .i64 i) (.int .i64 n) (.int .i64 l) (.bool p) (.slice po xps.length pc) (.slice qo xts.length qc) (.string xn)
      rw [← hws]
      clear hws
      have HA2 := hide ha
      have HB2 := hide (hcs.heap HBX.out (fun h => by have h5 : pb = pa := h; have h6 := HNE.out; omega))
      have hSc := hSc.trans hcs (S'' := fun _ => False) (fun _ _ h => h) (fun k hk h => by have h5 : k = pa := h; have h6 := HGA.out; omega)
      clear t0 t1 t2 t3 t4 t5 t6 t7 u0 u1 u2 u3 u4 u5 u6 u7 hcs ha
      have t0 := cell_of_heap HB2.out 0
      have u0 := free_of_heap HB2.out 0
      have t1 := cell_of_heap HB2.out 1
      have u1 := free_of_heap HB2.out 1
      have t2 := cell_of_heap HB2.out 2
      have u2 := free_of_heap HB2.out 2
      have t3 := cell_of_heap HB2.out 3
      have u3 := free_of_heap HB2.out 3
      have t4 := cell_of_heap HB2.out 4
      have u4 := free_of_heap HB2.out 4
      have t5 := cell_of_heap HB2.out 5
      have u5 := free_of_heap HB2.out 5
      have t6 := cell_of_heap HB2.out 6
      have u6 := free_of_heap HB2.out 6
      have t7 := cell_of_heap HB2.out 7
      have u7 := free_of_heap HB2.out 7
      unfold rqZ at t0 t1 t2 t3 t4 t5 t6 t7
      simp at t0 t1 t2 t3 t4 t5 t6 t7 u0 u1 u2 u3 u4 u5 u6 u7
      refine ⟨hSc, ?_⟩
      simp only [Act.put]
      refine reg_one (i := 5) (by kernel_rfl) ?_
      refine op_store (i := 5) rfl (by rfl) (w' := ((((((((ws.setCell ⟨pb, 0, none⟩ (.int .i64 k)).setCell ⟨pb, 1, none⟩ (.int .i64 i)).setCell ⟨pb, 2, none⟩ (.int .i64 n)).setCell ⟨pb, 3, none⟩ (.int .i64 l)).setCell ⟨pb, 4, none⟩ (.bool p)).setCell ⟨pb, 5, none⟩ (.slice po xps.length pc)).setCell ⟨pb, 6, none⟩ (.slice qo xts.length qc)).setCell ⟨pb, 7, none⟩ (.string xn))) (by go_simp) ?_
      obtain ⟨wt, hwt⟩ : ∃ wt, wt = ((((((((ws.setCell ⟨pb, 0, none⟩ (.int .i64 k)).setCell ⟨pb, 1, none⟩ (.int .i64 i)).setCell ⟨pb, 2, none⟩ (.int .i64 n)).setCell ⟨pb, 3, none⟩ (.int .i64 l)).setCell ⟨pb, 4, none⟩ (.bool p)).setCell ⟨pb, 5, none⟩ (.slice po xps.length pc)).setCell ⟨pb, 6, none⟩ (.slice qo xts.length qc)).setCell ⟨pb, 7, none⟩ (.string xn)) := ⟨_, rfl⟩
      have hcs : Chg (fun k => k = pb) ws wt := hwt ▸ sets8_chg ws pb (.int .i64 k) (.int .i64 i) (.int .i64 n) (.int .i64 l) (.bool p) (.slice po xps.length pc) (.slice qo xts.length qc) (.string xn)
      have hb : wt.heap[pb]? = some (.cells #[.int .i64 k, .int .i64 i, .int .i64 n, .int .i64 l, .bool p, .slice po xps.length pc, .slice qo xts.length qc, .string xn] 27 (0, 0)) := hwt ▸ sets8_heap HB2.out (.int .i64 k) (.int .i64 i) (.int .i64 n) (.int .i64 l) (.bool p) (.slice po xps.length pc) (.slice qo xts.length qc) (.string xn)
      rw [← hwt]
      clear hwt
      have HB3 := hide hb
      have HA3 := hide (hcs.heap HA2.out (fun h => by have h5 : pa = pb := h; have h6 := HNE.out; omega))
      have hSc := hSc.trans hcs (S'' := fun _ => False) (fun _ _ h => h) (fun k hk h => by have h5 : k = pb := h; have h6 := HGB.out; omega)
      clear t0 t1 t2 t3 t4 t5 t6 t7 u0 u1 u2 u3 u4 u5 u6 u7 hcs hb
      refine ⟨hSc, ?_⟩
      simp only [Act.put]
      refine wpAnyG_done (by kernel_rfl) ?_ _
      go_wp2
      go_meet
      exact ⟨pa, pb, rfl, rfl, HNE.out, HGA.out, HGB.out, HA3.out, HB3.out, hSc⟩
  case rest =>
  obtain ⟨pa, pb, rfl, rfl, hne, hga, hgb, hha, hhb, hch⟩ := hcut
  have HNE := hide hne
  have HGA := hide hga
  have HGB := hide hgb
  have HA := hide hha
  have HBX := hide hhb
  have HCH := hide hch
  have HSM := hide (mayRq_small HMM.out.symm)
  clear hne hga hgb hha hhb hch a0 a1 a2 a3 a4 a5 a6 a7
  go_wp2_with fail
  refine (Low_ok wc wh 5 (by decide) (by decide)).mono ?_
  rintro e w4 ⟨rfl, rfl⟩
  have hlw := low_lt wh 5 (by decide)
  generalize low wh 5 = lw at hlw ⊢
  obtain ⟨wc, hwc⟩ : ∃ wc, wc = w4 := ⟨_, rfl⟩
  subst hwc
  go_upto_block 0 with (fail)
  go_cut [] from 21 to 43 (fun wd => ∃ qa qb : RqV, wd.heap[pa]? = some (.cells qa.cells 27 (0, 0)) ∧ wd.heap[pb]? = some (.cells qb.cells 27 (0, 0)) ∧ Chg (fun _ => False) w3 wd ∧
    mayRq qa.r = false ∧ mayRq qb.r = false ∧ rqEq qa.r ⟨k, i, n, l, p, ⟨xps, xts, xn⟩⟩ = false ∧ CmAt wd qa.x ∧ CmAt wd qb.x ∧ Few qa.x.c ∧ Few qb.x.c ∧ qa.x.c.note.size ≤ 140737488351232 ∧ qb.x.c.note.size ≤ 140737488351232)
  case first =>
    have h5 : lw = 0 ∨ lw = 1 ∨ lw = 2 ∨ lw = 3 ∨ lw = 4 := by omega
    clear hlw
    rcases h5 with rfl | rfl | rfl | rfl | rfl
    · skip
      have fa := free_of_heap HA.out 1
      have ga := cell_of_heap HA.out 1
      have hc1 := Chg.setCell wc ⟨pa, 1, none⟩ (.int .i64 (0))
      have hb1 := hc1.heap HBX.out (fun h => by have h5 : pb = pa := h; have h6 := HNE.out; omega)
      have ha1 : (wc.setCell ⟨pa, 1, none⟩ (.int .i64 (0))).heap[pa]? = some (.cells #[.int .i64 k, .int .i64 (0), .int .i64 n, .int .i64 l, .bool p, .slice po xps.length pc, .slice qo xts.length qc, .string xn] 27 (0, 0)) := heap_setCell_same HA.out (i := 1) (.int .i64 (0))
      have hc2 := Chg.setCell (wc.setCell ⟨pa, 1, none⟩ (.int .i64 (0))) ⟨pb, 1, none⟩ (.int .i64 (2147483648))
      have ha2 := hc2.heap ha1 (fun h => by have h5 : pa = pb := h; have h6 := HNE.out; omega)
      have hb2 : ((wc.setCell ⟨pa, 1, none⟩ (.int .i64 (0))).setCell ⟨pb, 1, none⟩ (.int .i64 (2147483648))).heap[pb]? = some (.cells #[.int .i64 k, .int .i64 (2147483648), .int .i64 n, .int .i64 l, .bool p, .slice po xps.length pc, .slice qo xts.length qc, .string xn] 27 (0, 0)) := heap_setCell_same hb1 (i := 1) (.int .i64 (2147483648))
      have fb := free_of_heap hb1 1
      have gb := cell_of_heap hb1 1
      simp at fa ga fb gb
      have hcc : Chg (fun _ => False) w3 ((wc.setCell ⟨pa, 1, none⟩ (.int .i64 (0))).setCell ⟨pb, 1, none⟩ (.int .i64 (2147483648))) := (HCH.out.trans hc1 (S'' := fun _ => False) (fun _ _ h => h) (fun k hk h => by have h5 : k = pa := h; have h6 := HGA.out; omega)).trans hc2 (fun _ _ h => h) (fun k hk h => by have h5 : k = pb := h; have h6 := HGB.out; omega)
      have HCC := hide hcc
      have HA2 := hide ha2
      have HB2 := hide hb2
      clear hc1 hc2 hb1 ha1 ha2 hb2 hcc
      go_wp2_with fail
      go_meet
      exact ⟨⟨k, 0, n, l, p, ⟨⟨xps, xts, xn⟩, .slice po xps.length pc, .slice qo xts.length qc⟩⟩, ⟨k, 2147483648, n, l, p, ⟨⟨xps, xts, xn⟩, .slice po xps.length pc, .slice qo xts.length qc⟩⟩, HA2.out, HB2.out, HCC.out, by exact may_id (fun h => by have h5 := h.1; have h6 := h.2; simp only [RqV.r] at h5 h6; omega), by exact may_id (fun h => by have h5 := h.1; have h6 := h.2; simp only [RqV.r] at h5 h6; omega), by exact eq_false (fun h => by have h5 := HSM.out.id; have h6 := congrArg Rq.id h; simp only [RqV.r] at h5 h6; omega), HX3.out _ HCC.out, HX3.out _ HCC.out, HF1.out, HF1.out, HN1.out, HN1.out⟩
    · skip
      have fa := free_of_heap HA.out 2
      have ga := cell_of_heap HA.out 2
      have hc1 := Chg.setCell wc ⟨pa, 2, none⟩ (.int .i64 (-1))
      have hb1 := hc1.heap HBX.out (fun h => by have h5 : pb = pa := h; have h6 := HNE.out; omega)
      have ha1 : (wc.setCell ⟨pa, 2, none⟩ (.int .i64 (-1))).heap[pa]? = some (.cells #[.int .i64 k, .int .i64 i, .int .i64 (-1), .int .i64 l, .bool p, .slice po xps.length pc, .slice qo xts.length qc, .string xn] 27 (0, 0)) := heap_setCell_same HA.out (i := 2) (.int .i64 (-1))
      have hc2 := Chg.setCell (wc.setCell ⟨pa, 2, none⟩ (.int .i64 (-1))) ⟨pb, 2, none⟩ (.int .i64 (2147483648))
      have ha2 := hc2.heap ha1 (fun h => by have h5 : pa = pb := h; have h6 := HNE.out; omega)
      have hb2 : ((wc.setCell ⟨pa, 2, none⟩ (.int .i64 (-1))).setCell ⟨pb, 2, none⟩ (.int .i64 (2147483648))).heap[pb]? = some (.cells #[.int .i64 k, .int .i64 i, .int .i64 (2147483648), .int .i64 l, .bool p, .slice po xps.length pc, .slice qo xts.length qc, .string xn] 27 (0, 0)) := heap_setCell_same hb1 (i := 2) (.int .i64 (2147483648))
      have fb := free_of_heap hb1 2
      have gb := cell_of_heap hb1 2
      simp at fa ga fb gb
      have hcc : Chg (fun _ => False) w3 ((wc.setCell ⟨pa, 2, none⟩ (.int .i64 (-1))).setCell ⟨pb, 2, none⟩ (.int .i64 (2147483648))) := (HCH.out.trans hc1 (S'' := fun _ => False) (fun _ _ h => h) (fun k hk h => by have h5 : k = pa := h; have h6 := HGA.out; omega)).trans hc2 (fun _ _ h => h) (fun k hk h => by have h5 : k = pb := h; have h6 := HGB.out; omega)
      have HCC := hide hcc
      have HA2 := hide ha2
      have HB2 := hide hb2
      clear hc1 hc2 hb1 ha1 ha2 hb2 hcc
      go_wp2_with fail
      go_meet
      exact ⟨⟨k, i, -1, l, p, ⟨⟨xps, xts, xn⟩, .slice po xps.length pc, .slice qo xts.length qc⟩⟩, ⟨k, i, 2147483648, l, p, ⟨⟨xps, xts, xn⟩, .slice po xps.length pc, .slice qo xts.length qc⟩⟩, HA2.out, HB2.out, HCC.out, by exact may_number (fun h => by have h5 := h.1; have h6 := h.2; simp only [RqV.r] at h5 h6; omega), by exact may_number (fun h => by have h5 := h.1; have h6 := h.2; simp only [RqV.r] at h5 h6; omega), by exact eq_false (fun h => by have h5 := HSM.out.number; have h6 := congrArg Rq.number h; simp only [RqV.r] at h5 h6; omega), HX3.out _ HCC.out, HX3.out _ HCC.out, HF1.out, HF1.out, HN1.out, HN1.out⟩
    · skip
      have fa := free_of_heap HA.out 3
      have ga := cell_of_heap HA.out 3
      have hc1 := Chg.setCell wc ⟨pa, 3, none⟩ (.int .i64 (-1))
      have hb1 := hc1.heap HBX.out (fun h => by have h5 : pb = pa := h; have h6 := HNE.out; omega)
      have ha1 : (wc.setCell ⟨pa, 3, none⟩ (.int .i64 (-1))).heap[pa]? = some (.cells #[.int .i64 k, .int .i64 i, .int .i64 n, .int .i64 (-1), .bool p, .slice po xps.length pc, .slice qo xts.length qc, .string xn] 27 (0, 0)) := heap_setCell_same HA.out (i := 3) (.int .i64 (-1))
      have hc2 := Chg.setCell (wc.setCell ⟨pa, 3, none⟩ (.int .i64 (-1))) ⟨pb, 3, none⟩ (.int .i64 (4))
      have ha2 := hc2.heap ha1 (fun h => by have h5 : pa = pb := h; have h6 := HNE.out; omega)
      have hb2 : ((wc.setCell ⟨pa, 3, none⟩ (.int .i64 (-1))).setCell ⟨pb, 3, none⟩ (.int .i64 (4))).heap[pb]? = some (.cells #[.int .i64 k, .int .i64 i, .int .i64 n, .int .i64 (4), .bool p, .slice po xps.length pc, .slice qo xts.length qc, .string xn] 27 (0, 0)) := heap_setCell_same hb1 (i := 3) (.int .i64 (4))
      have fb := free_of_heap hb1 3
      have gb := cell_of_heap hb1 3
      simp at fa ga fb gb
      have hcc : Chg (fun _ => False) w3 ((wc.setCell ⟨pa, 3, none⟩ (.int .i64 (-1))).setCell ⟨pb, 3, none⟩ (.int .i64 (4))) := (HCH.out.trans hc1 (S'' := fun _ => False) (fun _ _ h => h) (fun k hk h => by have h5 : k = pa := h; have h6 := HGA.out; omega)).trans hc2 (fun _ _ h => h) (fun k hk h => by have h5 : k = pb := h; have h6 := HGB.out; omega)
      have HCC := hide hcc
      have HA2 := hide ha2
      have HB2 := hide hb2
      clear hc1 hc2 hb1 ha1 ha2 hb2 hcc
      go_wp2_with fail
      go_meet
      exact ⟨⟨k, i, n, -1, p, ⟨⟨xps, xts, xn⟩, .slice po xps.length pc, .slice qo xts.length qc⟩⟩, ⟨k, i, n, 4, p, ⟨⟨xps, xts, xn⟩, .slice po xps.length pc, .slice qo xts.length qc⟩⟩, HA2.out, HB2.out, HCC.out, by exact may_lane (fun h => by have h5 := h.1; have h6 := h.2; simp only [RqV.r] at h5 h6; omega), by exact may_lane (fun h => by have h5 := h.1; have h6 := h.2; simp only [RqV.r] at h5 h6; omega), by exact eq_false (fun h => by have h5 := HSM.out.lane; have h6 := congrArg Rq.lane h; simp only [RqV.r] at h5 h6; omega), HX3.out _ HCC.out, HX3.out _ HCC.out, HF1.out, HF1.out, HN1.out, HN1.out⟩
    · skip
      have fa := free_of_heap HA.out 0
      have ga := cell_of_heap HA.out 0
      have hc1 := Chg.setCell wc ⟨pa, 0, none⟩ (.int .i64 (0))
      have hb1 := hc1.heap HBX.out (fun h => by have h5 : pb = pa := h; have h6 := HNE.out; omega)
      have ha1 : (wc.setCell ⟨pa, 0, none⟩ (.int .i64 (0))).heap[pa]? = some (.cells #[.int .i64 (0), .int .i64 i, .int .i64 n, .int .i64 l, .bool p, .slice po xps.length pc, .slice qo xts.length qc, .string xn] 27 (0, 0)) := heap_setCell_same HA.out (i := 0) (.int .i64 (0))
      have hc2 := Chg.setCell (wc.setCell ⟨pa, 0, none⟩ (.int .i64 (0))) ⟨pb, 0, none⟩ (.int .i64 (7))
      have ha2 := hc2.heap ha1 (fun h => by have h5 : pa = pb := h; have h6 := HNE.out; omega)
      have hb2 : ((wc.setCell ⟨pa, 0, none⟩ (.int .i64 (0))).setCell ⟨pb, 0, none⟩ (.int .i64 (7))).heap[pb]? = some (.cells #[.int .i64 (7), .int .i64 i, .int .i64 n, .int .i64 l, .bool p, .slice po xps.length pc, .slice qo xts.length qc, .string xn] 27 (0, 0)) := heap_setCell_same hb1 (i := 0) (.int .i64 (7))
      have fb := free_of_heap hb1 0
      have gb := cell_of_heap hb1 0
      simp at fa ga fb gb
      have hcc : Chg (fun _ => False) w3 ((wc.setCell ⟨pa, 0, none⟩ (.int .i64 (0))).setCell ⟨pb, 0, none⟩ (.int .i64 (7))) := (HCH.out.trans hc1 (S'' := fun _ => False) (fun _ _ h => h) (fun k hk h => by have h5 : k = pa := h; have h6 := HGA.out; omega)).trans hc2 (fun _ _ h => h) (fun k hk h => by have h5 : k = pb := h; have h6 := HGB.out; omega)
      have HCC := hide hcc
      have HA2 := hide ha2
      have HB2 := hide hb2
      clear hc1 hc2 hb1 ha1 ha2 hb2 hcc
      go_wp2_with fail
      go_meet
      exact ⟨⟨0, i, n, l, p, ⟨⟨xps, xts, xn⟩, .slice po xps.length pc, .slice qo xts.length qc⟩⟩, ⟨7, i, n, l, p, ⟨⟨xps, xts, xn⟩, .slice po xps.length pc, .slice qo xts.length qc⟩⟩, HA2.out, HB2.out, HCC.out, by exact may_kind (fun h => by have h5 := h.1; have h6 := h.2; simp only [RqV.r] at h5 h6; omega), by exact may_kind (fun h => by have h5 := h.1; have h6 := h.2; simp only [RqV.r] at h5 h6; omega), by exact eq_false (fun h => by have h5 := HSM.out.kind; have h6 := congrArg Rq.kind h; simp only [RqV.r] at h5 h6; omega), HX3.out _ HCC.out, HX3.out _ HCC.out, HF1.out, HF1.out, HN1.out, HN1.out⟩
    · have HPS := hide (show xps ≠ [0] from fun h => by have h5 := may_parents (r := ⟨k, i, n, l, p, ⟨xps, xts, xn⟩⟩) h; have h6 := HMM.out; simp only [RqV.r] at h6; rw [h5] at h6; cases h6)
      obtain ⟨R61, hR61⟩ : ∃ R, R = madeCells #[Value.int .u8 0] 61 := ⟨_, rfl⟩
      obtain ⟨N61, hN61⟩ : ∃ N : ByteArray, N = ⟨(List.replicate 61 (0 : UInt8)).toArray⟩ := ⟨_, rfl⟩
      have HNZ := hide (show N61.size = 61 by rw [hN61]; rfl)
      have HMK := hide (show ∀ w', Sem.run Tryd.prog (Instr.makeSlice 30 (.int .i64 61) (.int .i64 61)) w' = .ok (.slice (some ⟨w'.heap.size, 0, none⟩) 61 61) (w'.alloc (.cells R61 5)) from fun w' => by
        rw [hR61]; exact run_make_row' (P := Tryd.prog) 30 5 (.int .u8 0) 1 Tryd.underlying30 (by kernel_rfl) rfl .i64 .i64 61 (by decide) (by decide) w')
      have HCV := hide (show ∀ (w' : World) (b : Nat), w'.heap[b]? = some (.cells R61 5 (0, 0)) → Sem.run Tryd.prog (convert 30 9 (.slice (some ⟨b, 0, none⟩) 61 61)) w' = .ok (.string N61) w' from fun w' b h => by
        rw [hN61]
        refine conv_rd w' _ (List.replicate 61 (0 : UInt8)) (Rd.mk (Nat.le_refl _) ?_)
        have h5 := CellsAt.of_heap h 0 61
        rw [hR61] at h5
        have h6 : List.take 61 (List.drop 0 (madeCells #[Value.int .u8 0] 61).toList) = u8s (List.replicate 61 (0 : UInt8)) := by kernel_rfl
        rw [h6] at h5
        exact h5)
      clear hR61 hN61
      go_upto_region 5 with (fail)
      refine reg_start (fun _ => True) 9 9 (by rfl) (by kernel_rfl) (trivial) ?_
      intro hS0
      have hSc := hS0
      refine reg_two (i := 0) (j := 1) (by kernel_rfl) ?_ ?_
      · refine op_val (i := 0) rfl (by rfl) (v := .slice (some ⟨wc.drew.heap.size, 0, none⟩) 1 1) (w' := wc.drew.alloc (.cells #[.int .i64 0] 3)) (by go_simp) ?_
        have hal := Chg.alloc (fun _ => False) wc.drew (Obj.cells #[.int .i64 0] 3)
        have hl := Rd_lit wc.drew #[.int .i64 0] 3 1
        have hs := World.size_alloc wc.drew (Obj.cells #[.int .i64 0] 3)
        generalize wc.drew.alloc (Obj.cells #[.int .i64 0] 3) = z21 at hal hl hs ⊢
        obtain ⟨q0, hq0⟩ : ∃ q0, q0 = wc.drew.heap.size := ⟨_, rfl⟩
        rw [← hq0] at hl hs
        rw [← hq0]
        have HL := hide hl
        have HQ0 := hide (show q0 < z21.heap.size ∧ pa < q0 ∧ pb < q0 from by have h5 := (Array.getElem?_eq_some_iff.1 HA.out).1; have h6 := (Array.getElem?_eq_some_iff.1 HBX.out).1; have h7 : pa < wc.drew.heap.size := h5; have h8 : pb < wc.drew.heap.size := h6; omega)
        clear hl hs hq0
        replace HCH := hide (HCH.out.trans (Chg.of_drewN (n := 1) hal) (fun _ _ h => h) (fun _ _ h => h))
        replace HA := hide (hal.heap HA.out (fun h => h))
        replace HBX := hide (hal.heap HBX.out (fun h => h))
        clear hal
        refine ⟨trivial, ?_⟩
        simp only [Act.put, List.setIfInBounds_toArray, List.set_cons_zero, List.set_cons_succ]
        refine reg_take (i := 3) (v := ?g5v) rfl (by kernel_rfl) (by kernel_rfl) (by kernel_rfl) (by kernel_rfl) (fun _ _ _ h => h) (by rfl) ?g5y (by assumption) ?g5r
        case g5y => (intro W hS; first | (go_simp; done) | (go_simp; with_reducible rfl))
        simp only [Act.put, List.setIfInBounds_toArray, List.set_cons_zero, List.set_cons_succ]
        refine reg_take (i := 4) (v := ?g6v) rfl (by kernel_rfl) (by kernel_rfl) (by kernel_rfl) (by kernel_rfl) (fun _ _ _ h => h) (by rfl) ?g6y (by assumption) ?g6r
        case g6y => (intro W hS; first | (go_simp; done) | (go_simp; with_reducible rfl))
        simp only [Act.put, List.setIfInBounds_toArray, List.set_cons_zero, List.set_cons_succ]
        refine reg_two (i := 1) (j := 5) (by kernel_rfl) ?_ ?_
        · have hmk := HMK.out z21
          refine op_val (i := 1) rfl (by rfl) (v := .slice (some ⟨z21.heap.size, 0, none⟩) 61 61) (w' := z21.alloc (.cells R61 5)) (by go_simp) ?_
          clear hmk
          have hal := Chg.alloc (fun _ => False) z21 (Obj.cells R61 5)
          have hm := heap_alloc_new z21 (Obj.cells R61 5)
          generalize z21.alloc (Obj.cells R61 5) = z2122 at hal hm ⊢
          obtain ⟨q1, hq1⟩ : ∃ q1, q1 = z21.heap.size := ⟨_, rfl⟩
          rw [← hq1] at hm
          rw [← hq1]
          have HMR := hide hm
          have HQ1 := hide (show pa < q1 from by have h5 := (Array.getElem?_eq_some_iff.1 HA.out).1; have h7 : pa < z21.heap.size := h5; omega)
          clear hm hq1
          replace HCH := hide (HCH.out.trans (Chg.of_drewN (n := 0) hal) (fun _ _ h => h) (fun _ _ h => h))
          replace HA := hide (hal.heap HA.out (fun h => h))
          replace HBX := hide (hal.heap HBX.out (fun h => h))
          replace HL := hide (HL.out.chg hal (fun _ _ _ h => h))
          replace HQ0 := hide (show q0 < z2122.heap.size ∧ pa < q0 ∧ pb < q0 from by have h5 := HQ0.out; have h6 := hal.size; omega)
          clear hal
          refine ⟨trivial, ?_⟩
          simp only [Act.put, List.setIfInBounds_toArray, List.set_cons_zero, List.set_cons_succ]
          refine reg_two (i := 2) (j := 5) (by kernel_rfl) ?_ ?_
          · have hcv := HCV.out z2122 q1 HMR.out
            refine op_val (i := 2) rfl (by rfl) (v := .string N61) (w' := z2122) (by go_simp) ?_
            clear hcv
            obtain ⟨z212223, hz⟩ : ∃ z, z = z2122 := ⟨_, rfl⟩
            rw [← hz] at HA HBX HCH HMR HL HQ0
            rw [← hz]
            clear hz
            refine ⟨trivial, ?_⟩
            simp only [Act.put, List.setIfInBounds_toArray, List.set_cons_zero, List.set_cons_succ]
            refine reg_one (i := 5) (by kernel_rfl) ?_
            have t5 := cell_of_heap HA.out 5
            have u5 := free_of_heap HA.out 5
            simp at t5 u5
            refine op_store (i := 5) rfl (by rfl) (w' := z212223.setCell ⟨pa, 5, none⟩ (.slice (some ⟨q0, 0, none⟩) 1 1)) (by go_simp) ?_
            clear t5 u5
            have hal := Chg.setCell z212223 ⟨pa, 5, none⟩ (.slice (some ⟨q0, 0, none⟩) 1 1)
            have ha : (z212223.setCell ⟨pa, 5, none⟩ (.slice (some ⟨q0, 0, none⟩) 1 1)).heap[pa]? = some (.cells #[.int .i64 k, .int .i64 i, .int .i64 n, .int .i64 l, .bool p, .slice (some ⟨q0, 0, none⟩) 1 1, .slice qo xts.length qc, .string xn] 27 (0, 0)) := heap_setCell_same HA.out (i := 5) (.slice (some ⟨q0, 0, none⟩) 1 1)
            generalize z212223.setCell ⟨pa, 5, none⟩ (.slice (some ⟨q0, 0, none⟩) 1 1) = z212223s5 at hal ha ⊢
            replace HA := hide ha
            replace HBX := hide (hal.heap HBX.out (fun h => by have h5 : pb = pa := h; have h6 := HNE.out; omega))
            replace HCH := hide (HCH.out.trans hal (S'' := fun _ => False) (fun _ _ h => h) (fun k hk h => by have h5 : k = pa := h; have h6 := HGA.out; omega))
            replace HL := hide (HL.out.chg hal (fun k hk _ h => by cases hk; have h5 : q0 = pa := h; have h6 := HQ0.out; omega))
            replace HQ0 := hide (show q0 < z212223s5.heap.size ∧ pa < q0 ∧ pb < q0 from by have h5 := HQ0.out; have h6 := hal.size; omega)
            replace HMR := hide (hal.heap HMR.out (fun h => by have h5 : q1 = pa := h; have h6 := HQ1.out; omega))
            clear hal ha
            refine ⟨trivial, ?_⟩
            simp only [Act.put]
            refine reg_take (i := 6) (v := ?g7v) rfl (by kernel_rfl) (by kernel_rfl) (by kernel_rfl) (by kernel_rfl) (fun _ _ _ h => h) (by rfl) ?g7y (by assumption) ?g7r
            case g7y => (intro W hS; first | (go_simp; done) | (go_simp; with_reducible rfl))
            simp only [Act.put, List.setIfInBounds_toArray, List.set_cons_zero, List.set_cons_succ]
            refine reg_take (i := 7) (v := ?g8v) rfl (by kernel_rfl) (by kernel_rfl) (by kernel_rfl) (by kernel_rfl) (fun _ _ _ h => h) (by rfl) ?g8y (by assumption) ?g8r
            case g8y => (intro W hS; first | (go_simp; done) | (go_simp; with_reducible rfl))
            simp only [Act.put, List.setIfInBounds_toArray, List.set_cons_zero, List.set_cons_succ]
            refine reg_one (i := 8) (by kernel_rfl) ?_
            have t5 := cell_of_heap HBX.out 7
            have u5 := free_of_heap HBX.out 7
            simp at t5 u5
            refine op_store (i := 8) rfl (by rfl) (w' := z212223s5.setCell ⟨pb, 7, none⟩ (.string N61)) (by go_simp) ?_
            clear t5 u5
            have hal := Chg.setCell z212223s5 ⟨pb, 7, none⟩ (.string N61)
            have ha : (z212223s5.setCell ⟨pb, 7, none⟩ (.string N61)).heap[pb]? = some (.cells #[.int .i64 k, .int .i64 i, .int .i64 n, .int .i64 l, .bool p, .slice po xps.length pc, .slice qo xts.length qc, .string N61] 27 (0, 0)) := heap_setCell_same HBX.out (i := 7) (.string N61)
            generalize z212223s5.setCell ⟨pb, 7, none⟩ (.string N61) = zz at hal ha ⊢
            replace HBX := hide ha
            replace HA := hide (hal.heap HA.out (fun h => by have h5 : pa = pb := h; have h6 := HNE.out; omega))
            replace HCH := hide (HCH.out.trans hal (S'' := fun _ => False) (fun _ _ h => h) (fun k hk h => by have h5 : k = pb := h; have h6 := HGB.out; omega))
            replace HL := hide (HL.out.chg hal (fun k hk _ h => by cases hk; have h5 : q0 = pb := h; have h6 := HQ0.out; omega))
            replace HQ0 := hide (show q0 < zz.heap.size ∧ pa < q0 ∧ pb < q0 from by have h5 := HQ0.out; have h6 := hal.size; omega)
            clear hal ha
            refine ⟨trivial, ?_⟩
            simp only [Act.put]
            refine wpAnyG_done (by kernel_rfl) ?_ _
            go_wp2
            go_meet
            have hx9 := HX3.out _ HCH.out
            have hf9 : ([0] : List Int).length ≤ 1000000 := by decide
            exact ⟨⟨k, i, n, l, p, ⟨⟨[0], xts, xn⟩, .slice (some ⟨q0, 0, none⟩) 1 1, .slice qo xts.length qc⟩⟩, ⟨k, i, n, l, p, ⟨⟨xps, xts, N61⟩, .slice po xps.length pc, .slice qo xts.length qc⟩⟩, HA.out, HBX.out, HCH.out, may_parents rfl, may_note HNZ.out, eq_false (fun h => by have h5 := congrArg (fun r : Rq => r.c.parents) h; exact HPS.out h5.symm), ⟨HL.out, (HX3.out _ HCH.out).ts, fun b hb _ => by cases hb; exact HQ0.out.1, (HX3.out _ HCH.out).tb⟩, ⟨hx9.ps, hx9.ts, hx9.pb, hx9.tb⟩, ⟨hf9, HF1.out.2⟩, HF1.out, HN1.out, by rw [HNZ.out]; decide⟩
          · have t5 := cell_of_heap HA.out 5
            have u5 := free_of_heap HA.out 5
            simp at t5 u5
            refine op_store (i := 5) rfl (by rfl) (w' := z2122.setCell ⟨pa, 5, none⟩ (.slice (some ⟨q0, 0, none⟩) 1 1)) (by go_simp) ?_
            clear t5 u5
            have hal := Chg.setCell z2122 ⟨pa, 5, none⟩ (.slice (some ⟨q0, 0, none⟩) 1 1)
            have ha : (z2122.setCell ⟨pa, 5, none⟩ (.slice (some ⟨q0, 0, none⟩) 1 1)).heap[pa]? = some (.cells #[.int .i64 k, .int .i64 i, .int .i64 n, .int .i64 l, .bool p, .slice (some ⟨q0, 0, none⟩) 1 1, .slice qo xts.length qc, .string xn] 27 (0, 0)) := heap_setCell_same HA.out (i := 5) (.slice (some ⟨q0, 0, none⟩) 1 1)
            generalize z2122.setCell ⟨pa, 5, none⟩ (.slice (some ⟨q0, 0, none⟩) 1 1) = z2122s5 at hal ha ⊢
            replace HA := hide ha
            replace HBX := hide (hal.heap HBX.out (fun h => by have h5 : pb = pa := h; have h6 := HNE.out; omega))
            replace HCH := hide (HCH.out.trans hal (S'' := fun _ => False) (fun _ _ h => h) (fun k hk h => by have h5 : k = pa := h; have h6 := HGA.out; omega))
            replace HL := hide (HL.out.chg hal (fun k hk _ h => by cases hk; have h5 : q0 = pa := h; have h6 := HQ0.out; omega))
            replace HQ0 := hide (show q0 < z2122s5.heap.size ∧ pa < q0 ∧ pb < q0 from by have h5 := HQ0.out; have h6 := hal.size; omega)
            replace HMR := hide (hal.heap HMR.out (fun h => by have h5 : q1 = pa := h; have h6 := HQ1.out; omega))
            clear hal ha
            refine ⟨trivial, ?_⟩
            simp only [Act.put]
            refine reg_one (i := 2) (by kernel_rfl) ?_
            have hcv := HCV.out z2122s5 q1 HMR.out
            refine op_val (i := 2) rfl (by rfl) (v := .string N61) (w' := z2122s5) (by go_simp) ?_
            clear hcv
            obtain ⟨z2122s523, hz⟩ : ∃ z, z = z2122s5 := ⟨_, rfl⟩
            rw [← hz] at HA HBX HCH HMR HL HQ0
            rw [← hz]
            clear hz
            refine ⟨trivial, ?_⟩
            simp only [Act.put, List.setIfInBounds_toArray, List.set_cons_zero, List.set_cons_succ]
            refine reg_take (i := 6) (v := ?g9v) rfl (by kernel_rfl) (by kernel_rfl) (by kernel_rfl) (by kernel_rfl) (fun _ _ _ h => h) (by rfl) ?g9y (by assumption) ?g9r
            case g9y => (intro W hS; first | (go_simp; done) | (go_simp; with_reducible rfl))
            simp only [Act.put, List.setIfInBounds_toArray, List.set_cons_zero, List.set_cons_succ]
            refine reg_take (i := 7) (v := ?g10v) rfl (by kernel_rfl) (by kernel_rfl) (by kernel_rfl) (by kernel_rfl) (fun _ _ _ h => h) (by rfl) ?g10y (by assumption) ?g10r
            case g10y => (intro W hS; first | (go_simp; done) | (go_simp; with_reducible rfl))
            simp only [Act.put, List.setIfInBounds_toArray, List.set_cons_zero, List.set_cons_succ]
            refine reg_one (i := 8) (by kernel_rfl) ?_
            have t5 := cell_of_heap HBX.out 7
            have u5 := free_of_heap HBX.out 7
            simp at t5 u5
            refine op_store (i := 8) rfl (by rfl) (w' := z2122s523.setCell ⟨pb, 7, none⟩ (.string N61)) (by go_simp) ?_
            clear t5 u5
            have hal := Chg.setCell z2122s523 ⟨pb, 7, none⟩ (.string N61)
            have ha : (z2122s523.setCell ⟨pb, 7, none⟩ (.string N61)).heap[pb]? = some (.cells #[.int .i64 k, .int .i64 i, .int .i64 n, .int .i64 l, .bool p, .slice po xps.length pc, .slice qo xts.length qc, .string N61] 27 (0, 0)) := heap_setCell_same HBX.out (i := 7) (.string N61)
            generalize z2122s523.setCell ⟨pb, 7, none⟩ (.string N61) = zz at hal ha ⊢
            replace HBX := hide ha
            replace HA := hide (hal.heap HA.out (fun h => by have h5 : pa = pb := h; have h6 := HNE.out; omega))
            replace HCH := hide (HCH.out.trans hal (S'' := fun _ => False) (fun _ _ h => h) (fun k hk h => by have h5 : k = pb := h; have h6 := HGB.out; omega))
            replace HL := hide (HL.out.chg hal (fun k hk _ h => by cases hk; have h5 : q0 = pb := h; have h6 := HQ0.out; omega))
            replace HQ0 := hide (show q0 < zz.heap.size ∧ pa < q0 ∧ pb < q0 from by have h5 := HQ0.out; have h6 := hal.size; omega)
            clear hal ha
            refine ⟨trivial, ?_⟩
            simp only [Act.put]
            refine wpAnyG_done (by kernel_rfl) ?_ _
            go_wp2
            go_meet
            have hx9 := HX3.out _ HCH.out
            have hf9 : ([0] : List Int).length ≤ 1000000 := by decide
            exact ⟨⟨k, i, n, l, p, ⟨⟨[0], xts, xn⟩, .slice (some ⟨q0, 0, none⟩) 1 1, .slice qo xts.length qc⟩⟩, ⟨k, i, n, l, p, ⟨⟨xps, xts, N61⟩, .slice po xps.length pc, .slice qo xts.length qc⟩⟩, HA.out, HBX.out, HCH.out, may_parents rfl, may_note HNZ.out, eq_false (fun h => by have h5 := congrArg (fun r : Rq => r.c.parents) h; exact HPS.out h5.symm), ⟨HL.out, (HX3.out _ HCH.out).ts, fun b hb _ => by cases hb; exact HQ0.out.1, (HX3.out _ HCH.out).tb⟩, ⟨hx9.ps, hx9.ts, hx9.pb, hx9.tb⟩, ⟨hf9, HF1.out.2⟩, HF1.out, HN1.out, by rw [HNZ.out]; decide⟩
        · have t5 := cell_of_heap HA.out 5
          have u5 := free_of_heap HA.out 5
          simp at t5 u5
          refine op_store (i := 5) rfl (by rfl) (w' := z21.setCell ⟨pa, 5, none⟩ (.slice (some ⟨q0, 0, none⟩) 1 1)) (by go_simp) ?_
          clear t5 u5
          have hal := Chg.setCell z21 ⟨pa, 5, none⟩ (.slice (some ⟨q0, 0, none⟩) 1 1)
          have ha : (z21.setCell ⟨pa, 5, none⟩ (.slice (some ⟨q0, 0, none⟩) 1 1)).heap[pa]? = some (.cells #[.int .i64 k, .int .i64 i, .int .i64 n, .int .i64 l, .bool p, .slice (some ⟨q0, 0, none⟩) 1 1, .slice qo xts.length qc, .string xn] 27 (0, 0)) := heap_setCell_same HA.out (i := 5) (.slice (some ⟨q0, 0, none⟩) 1 1)
          generalize z21.setCell ⟨pa, 5, none⟩ (.slice (some ⟨q0, 0, none⟩) 1 1) = z21s5 at hal ha ⊢
          replace HA := hide ha
          replace HBX := hide (hal.heap HBX.out (fun h => by have h5 : pb = pa := h; have h6 := HNE.out; omega))
          replace HCH := hide (HCH.out.trans hal (S'' := fun _ => False) (fun _ _ h => h) (fun k hk h => by have h5 : k = pa := h; have h6 := HGA.out; omega))
          replace HL := hide (HL.out.chg hal (fun k hk _ h => by cases hk; have h5 : q0 = pa := h; have h6 := HQ0.out; omega))
          replace HQ0 := hide (show q0 < z21s5.heap.size ∧ pa < q0 ∧ pb < q0 from by have h5 := HQ0.out; have h6 := hal.size; omega)
          clear hal ha
          refine ⟨trivial, ?_⟩
          simp only [Act.put]
          refine reg_one (i := 1) (by kernel_rfl) ?_
          have hmk := HMK.out z21s5
          refine op_val (i := 1) rfl (by rfl) (v := .slice (some ⟨z21s5.heap.size, 0, none⟩) 61 61) (w' := z21s5.alloc (.cells R61 5)) (by go_simp) ?_
          clear hmk
          have hal := Chg.alloc (fun _ => False) z21s5 (Obj.cells R61 5)
          have hm := heap_alloc_new z21s5 (Obj.cells R61 5)
          generalize z21s5.alloc (Obj.cells R61 5) = z21s522 at hal hm ⊢
          obtain ⟨q1, hq1⟩ : ∃ q1, q1 = z21s5.heap.size := ⟨_, rfl⟩
          rw [← hq1] at hm
          rw [← hq1]
          have HMR := hide hm
          have HQ1 := hide (show pa < q1 from by have h5 := (Array.getElem?_eq_some_iff.1 HA.out).1; have h7 : pa < z21s5.heap.size := h5; omega)
          clear hm hq1
          replace HCH := hide (HCH.out.trans (Chg.of_drewN (n := 0) hal) (fun _ _ h => h) (fun _ _ h => h))
          replace HA := hide (hal.heap HA.out (fun h => h))
          replace HBX := hide (hal.heap HBX.out (fun h => h))
          replace HL := hide (HL.out.chg hal (fun _ _ _ h => h))
          replace HQ0 := hide (show q0 < z21s522.heap.size ∧ pa < q0 ∧ pb < q0 from by have h5 := HQ0.out; have h6 := hal.size; omega)
          clear hal
          refine ⟨trivial, ?_⟩
          simp only [Act.put, List.setIfInBounds_toArray, List.set_cons_zero, List.set_cons_succ]
          refine reg_one (i := 2) (by kernel_rfl) ?_
          have hcv := HCV.out z21s522 q1 HMR.out
          refine op_val (i := 2) rfl (by rfl) (v := .string N61) (w' := z21s522) (by go_simp) ?_
          clear hcv
          obtain ⟨z21s52223, hz⟩ : ∃ z, z = z21s522 := ⟨_, rfl⟩
          rw [← hz] at HA HBX HCH HMR HL HQ0
          rw [← hz]
          clear hz
          refine ⟨trivial, ?_⟩
          simp only [Act.put, List.setIfInBounds_toArray, List.set_cons_zero, List.set_cons_succ]
          refine reg_take (i := 6) (v := ?g11v) rfl (by kernel_rfl) (by kernel_rfl) (by kernel_rfl) (by kernel_rfl) (fun _ _ _ h => h) (by rfl) ?g11y (by assumption) ?g11r
          case g11y => (intro W hS; first | (go_simp; done) | (go_simp; with_reducible rfl))
          simp only [Act.put, List.setIfInBounds_toArray, List.set_cons_zero, List.set_cons_succ]
          refine reg_take (i := 7) (v := ?g12v) rfl (by kernel_rfl) (by kernel_rfl) (by kernel_rfl) (by kernel_rfl) (fun _ _ _ h => h) (by rfl) ?g12y (by assumption) ?g12r
          case g12y => (intro W hS; first | (go_simp; done) | (go_simp; with_reducible rfl))
          simp only [Act.put, List.setIfInBounds_toArray, List.set_cons_zero, List.set_cons_succ]
          refine reg_one (i := 8) (by kernel_rfl) ?_
          have t5 := cell_of_heap HBX.out 7
          have u5 := free_of_heap HBX.out 7
          simp at t5 u5
          refine op_store (i := 8) rfl (by rfl) (w' := z21s52223.setCell ⟨pb, 7, none⟩ (.string N61)) (by go_simp) ?_
          clear t5 u5
          have hal := Chg.setCell z21s52223 ⟨pb, 7, none⟩ (.string N61)
          have ha : (z21s52223.setCell ⟨pb, 7, none⟩ (.string N61)).heap[pb]? = some (.cells #[.int .i64 k, .int .i64 i, .int .i64 n, .int .i64 l, .bool p, .slice po xps.length pc, .slice qo xts.length qc, .string N61] 27 (0, 0)) := heap_setCell_same HBX.out (i := 7) (.string N61)
          generalize z21s52223.setCell ⟨pb, 7, none⟩ (.string N61) = zz at hal ha ⊢
          replace HBX := hide ha
          replace HA := hide (hal.heap HA.out (fun h => by have h5 : pa = pb := h; have h6 := HNE.out; omega))
          replace HCH := hide (HCH.out.trans hal (S'' := fun _ => False) (fun _ _ h => h) (fun k hk h => by have h5 : k = pb := h; have h6 := HGB.out; omega))
          replace HL := hide (HL.out.chg hal (fun k hk _ h => by cases hk; have h5 : q0 = pb := h; have h6 := HQ0.out; omega))
          replace HQ0 := hide (show q0 < zz.heap.size ∧ pa < q0 ∧ pb < q0 from by have h5 := HQ0.out; have h6 := hal.size; omega)
          clear hal ha
          refine ⟨trivial, ?_⟩
          simp only [Act.put]
          refine wpAnyG_done (by kernel_rfl) ?_ _
          go_wp2
          go_meet
          have hx9 := HX3.out _ HCH.out
          have hf9 : ([0] : List Int).length ≤ 1000000 := by decide
          exact ⟨⟨k, i, n, l, p, ⟨⟨[0], xts, xn⟩, .slice (some ⟨q0, 0, none⟩) 1 1, .slice qo xts.length qc⟩⟩, ⟨k, i, n, l, p, ⟨⟨xps, xts, N61⟩, .slice po xps.length pc, .slice qo xts.length qc⟩⟩, HA.out, HBX.out, HCH.out, may_parents rfl, may_note HNZ.out, eq_false (fun h => by have h5 := congrArg (fun r : Rq => r.c.parents) h; exact HPS.out h5.symm), ⟨HL.out, (HX3.out _ HCH.out).ts, fun b hb _ => by cases hb; exact HQ0.out.1, (HX3.out _ HCH.out).tb⟩, ⟨hx9.ps, hx9.ts, hx9.pb, hx9.tb⟩, ⟨hf9, HF1.out.2⟩, HF1.out, HN1.out, by rw [HNZ.out]; decide⟩
      · have hmk := HMK.out wc.drew
        refine op_val (i := 1) rfl (by rfl) (v := .slice (some ⟨wc.drew.heap.size, 0, none⟩) 61 61) (w' := wc.drew.alloc (.cells R61 5)) (by go_simp) ?_
        clear hmk
        have hal := Chg.alloc (fun _ => False) wc.drew (Obj.cells R61 5)
        have hm := heap_alloc_new wc.drew (Obj.cells R61 5)
        generalize wc.drew.alloc (Obj.cells R61 5) = z22 at hal hm ⊢
        obtain ⟨q1, hq1⟩ : ∃ q1, q1 = wc.drew.heap.size := ⟨_, rfl⟩
        rw [← hq1] at hm
        rw [← hq1]
        have HMR := hide hm
        have HQ1 := hide (show pa < q1 from by have h5 := (Array.getElem?_eq_some_iff.1 HA.out).1; have h7 : pa < wc.drew.heap.size := h5; omega)
        clear hm hq1
        replace HCH := hide (HCH.out.trans (Chg.of_drewN (n := 1) hal) (fun _ _ h => h) (fun _ _ h => h))
        replace HA := hide (hal.heap HA.out (fun h => h))
        replace HBX := hide (hal.heap HBX.out (fun h => h))
        clear hal
        refine ⟨trivial, ?_⟩
        simp only [Act.put, List.setIfInBounds_toArray, List.set_cons_zero, List.set_cons_succ]
        refine reg_two (i := 0) (j := 2) (by kernel_rfl) ?_ ?_
        · refine op_val (i := 0) rfl (by rfl) (v := .slice (some ⟨z22.heap.size, 0, none⟩) 1 1) (w' := z22.alloc (.cells #[.int .i64 0] 3)) (by go_simp) ?_
          have hal := Chg.alloc (fun _ => False) z22 (Obj.cells #[.int .i64 0] 3)
          have hl := Rd_lit z22 #[.int .i64 0] 3 1
          have hs := World.size_alloc z22 (Obj.cells #[.int .i64 0] 3)
          generalize z22.alloc (Obj.cells #[.int .i64 0] 3) = z2221 at hal hl hs ⊢
          obtain ⟨q0, hq0⟩ : ∃ q0, q0 = z22.heap.size := ⟨_, rfl⟩
          rw [← hq0] at hl hs
          rw [← hq0]
          have HL := hide hl
          have HQ0 := hide (show q0 < z2221.heap.size ∧ pa < q0 ∧ pb < q0 from by have h5 := (Array.getElem?_eq_some_iff.1 HA.out).1; have h6 := (Array.getElem?_eq_some_iff.1 HBX.out).1; have h7 : pa < z22.heap.size := h5; have h8 : pb < z22.heap.size := h6; omega)
          clear hl hs hq0
          replace HCH := hide (HCH.out.trans (Chg.of_drewN (n := 0) hal) (fun _ _ h => h) (fun _ _ h => h))
          replace HA := hide (hal.heap HA.out (fun h => h))
          replace HBX := hide (hal.heap HBX.out (fun h => h))
          replace HMR := hide (hal.heap HMR.out (fun h => h))
          clear hal
          refine ⟨trivial, ?_⟩
          simp only [Act.put, List.setIfInBounds_toArray, List.set_cons_zero, List.set_cons_succ]
          refine reg_take (i := 3) (v := ?g13v) rfl (by kernel_rfl) (by kernel_rfl) (by kernel_rfl) (by kernel_rfl) (fun _ _ _ h => h) (by rfl) ?g13y (by assumption) ?g13r
          case g13y => (intro W hS; first | (go_simp; done) | (go_simp; with_reducible rfl))
          simp only [Act.put, List.setIfInBounds_toArray, List.set_cons_zero, List.set_cons_succ]
          refine reg_take (i := 4) (v := ?g14v) rfl (by kernel_rfl) (by kernel_rfl) (by kernel_rfl) (by kernel_rfl) (fun _ _ _ h => h) (by rfl) ?g14y (by assumption) ?g14r
          case g14y => (intro W hS; first | (go_simp; done) | (go_simp; with_reducible rfl))
          simp only [Act.put, List.setIfInBounds_toArray, List.set_cons_zero, List.set_cons_succ]
          refine reg_two (i := 2) (j := 5) (by kernel_rfl) ?_ ?_
          · have hcv := HCV.out z2221 q1 HMR.out
            refine op_val (i := 2) rfl (by rfl) (v := .string N61) (w' := z2221) (by go_simp) ?_
            clear hcv
            obtain ⟨z222123, hz⟩ : ∃ z, z = z2221 := ⟨_, rfl⟩
            rw [← hz] at HA HBX HCH HMR HL HQ0
            rw [← hz]
            clear hz
            refine ⟨trivial, ?_⟩
            simp only [Act.put, List.setIfInBounds_toArray, List.set_cons_zero, List.set_cons_succ]
            refine reg_one (i := 5) (by kernel_rfl) ?_
            have t5 := cell_of_heap HA.out 5
            have u5 := free_of_heap HA.out 5
            simp at t5 u5
            refine op_store (i := 5) rfl (by rfl) (w' := z222123.setCell ⟨pa, 5, none⟩ (.slice (some ⟨q0, 0, none⟩) 1 1)) (by go_simp) ?_
            clear t5 u5
            have hal := Chg.setCell z222123 ⟨pa, 5, none⟩ (.slice (some ⟨q0, 0, none⟩) 1 1)
            have ha : (z222123.setCell ⟨pa, 5, none⟩ (.slice (some ⟨q0, 0, none⟩) 1 1)).heap[pa]? = some (.cells #[.int .i64 k, .int .i64 i, .int .i64 n, .int .i64 l, .bool p, .slice (some ⟨q0, 0, none⟩) 1 1, .slice qo xts.length qc, .string xn] 27 (0, 0)) := heap_setCell_same HA.out (i := 5) (.slice (some ⟨q0, 0, none⟩) 1 1)
            generalize z222123.setCell ⟨pa, 5, none⟩ (.slice (some ⟨q0, 0, none⟩) 1 1) = z222123s5 at hal ha ⊢
            replace HA := hide ha
            replace HBX := hide (hal.heap HBX.out (fun h => by have h5 : pb = pa := h; have h6 := HNE.out; omega))
            replace HCH := hide (HCH.out.trans hal (S'' := fun _ => False) (fun _ _ h => h) (fun k hk h => by have h5 : k = pa := h; have h6 := HGA.out; omega))
            replace HL := hide (HL.out.chg hal (fun k hk _ h => by cases hk; have h5 : q0 = pa := h; have h6 := HQ0.out; omega))
            replace HQ0 := hide (show q0 < z222123s5.heap.size ∧ pa < q0 ∧ pb < q0 from by have h5 := HQ0.out; have h6 := hal.size; omega)
            replace HMR := hide (hal.heap HMR.out (fun h => by have h5 : q1 = pa := h; have h6 := HQ1.out; omega))
            clear hal ha
            refine ⟨trivial, ?_⟩
            simp only [Act.put]
            refine reg_take (i := 6) (v := ?g15v) rfl (by kernel_rfl) (by kernel_rfl) (by kernel_rfl) (by kernel_rfl) (fun _ _ _ h => h) (by rfl) ?g15y (by assumption) ?g15r
            case g15y => (intro W hS; first | (go_simp; done) | (go_simp; with_reducible rfl))
            simp only [Act.put, List.setIfInBounds_toArray, List.set_cons_zero, List.set_cons_succ]
            refine reg_take (i := 7) (v := ?g16v) rfl (by kernel_rfl) (by kernel_rfl) (by kernel_rfl) (by kernel_rfl) (fun _ _ _ h => h) (by rfl) ?g16y (by assumption) ?g16r
            case g16y => (intro W hS; first | (go_simp; done) | (go_simp; with_reducible rfl))
            simp only [Act.put, List.setIfInBounds_toArray, List.set_cons_zero, List.set_cons_succ]
            refine reg_one (i := 8) (by kernel_rfl) ?_
            have t5 := cell_of_heap HBX.out 7
            have u5 := free_of_heap HBX.out 7
            simp at t5 u5
            refine op_store (i := 8) rfl (by rfl) (w' := z222123s5.setCell ⟨pb, 7, none⟩ (.string N61)) (by go_simp) ?_
            clear t5 u5
            have hal := Chg.setCell z222123s5 ⟨pb, 7, none⟩ (.string N61)
            have ha : (z222123s5.setCell ⟨pb, 7, none⟩ (.string N61)).heap[pb]? = some (.cells #[.int .i64 k, .int .i64 i, .int .i64 n, .int .i64 l, .bool p, .slice po xps.length pc, .slice qo xts.length qc, .string N61] 27 (0, 0)) := heap_setCell_same HBX.out (i := 7) (.string N61)
            generalize z222123s5.setCell ⟨pb, 7, none⟩ (.string N61) = zz at hal ha ⊢
            replace HBX := hide ha
            replace HA := hide (hal.heap HA.out (fun h => by have h5 : pa = pb := h; have h6 := HNE.out; omega))
            replace HCH := hide (HCH.out.trans hal (S'' := fun _ => False) (fun _ _ h => h) (fun k hk h => by have h5 : k = pb := h; have h6 := HGB.out; omega))
            replace HL := hide (HL.out.chg hal (fun k hk _ h => by cases hk; have h5 : q0 = pb := h; have h6 := HQ0.out; omega))
            replace HQ0 := hide (show q0 < zz.heap.size ∧ pa < q0 ∧ pb < q0 from by have h5 := HQ0.out; have h6 := hal.size; omega)
            clear hal ha
            refine ⟨trivial, ?_⟩
            simp only [Act.put]
            refine wpAnyG_done (by kernel_rfl) ?_ _
            go_wp2
            go_meet
            have hx9 := HX3.out _ HCH.out
            have hf9 : ([0] : List Int).length ≤ 1000000 := by decide
            exact ⟨⟨k, i, n, l, p, ⟨⟨[0], xts, xn⟩, .slice (some ⟨q0, 0, none⟩) 1 1, .slice qo xts.length qc⟩⟩, ⟨k, i, n, l, p, ⟨⟨xps, xts, N61⟩, .slice po xps.length pc, .slice qo xts.length qc⟩⟩, HA.out, HBX.out, HCH.out, may_parents rfl, may_note HNZ.out, eq_false (fun h => by have h5 := congrArg (fun r : Rq => r.c.parents) h; exact HPS.out h5.symm), ⟨HL.out, (HX3.out _ HCH.out).ts, fun b hb _ => by cases hb; exact HQ0.out.1, (HX3.out _ HCH.out).tb⟩, ⟨hx9.ps, hx9.ts, hx9.pb, hx9.tb⟩, ⟨hf9, HF1.out.2⟩, HF1.out, HN1.out, by rw [HNZ.out]; decide⟩
          · have t5 := cell_of_heap HA.out 5
            have u5 := free_of_heap HA.out 5
            simp at t5 u5
            refine op_store (i := 5) rfl (by rfl) (w' := z2221.setCell ⟨pa, 5, none⟩ (.slice (some ⟨q0, 0, none⟩) 1 1)) (by go_simp) ?_
            clear t5 u5
            have hal := Chg.setCell z2221 ⟨pa, 5, none⟩ (.slice (some ⟨q0, 0, none⟩) 1 1)
            have ha : (z2221.setCell ⟨pa, 5, none⟩ (.slice (some ⟨q0, 0, none⟩) 1 1)).heap[pa]? = some (.cells #[.int .i64 k, .int .i64 i, .int .i64 n, .int .i64 l, .bool p, .slice (some ⟨q0, 0, none⟩) 1 1, .slice qo xts.length qc, .string xn] 27 (0, 0)) := heap_setCell_same HA.out (i := 5) (.slice (some ⟨q0, 0, none⟩) 1 1)
            generalize z2221.setCell ⟨pa, 5, none⟩ (.slice (some ⟨q0, 0, none⟩) 1 1) = z2221s5 at hal ha ⊢
            replace HA := hide ha
            replace HBX := hide (hal.heap HBX.out (fun h => by have h5 : pb = pa := h; have h6 := HNE.out; omega))
            replace HCH := hide (HCH.out.trans hal (S'' := fun _ => False) (fun _ _ h => h) (fun k hk h => by have h5 : k = pa := h; have h6 := HGA.out; omega))
            replace HL := hide (HL.out.chg hal (fun k hk _ h => by cases hk; have h5 : q0 = pa := h; have h6 := HQ0.out; omega))
            replace HQ0 := hide (show q0 < z2221s5.heap.size ∧ pa < q0 ∧ pb < q0 from by have h5 := HQ0.out; have h6 := hal.size; omega)
            replace HMR := hide (hal.heap HMR.out (fun h => by have h5 : q1 = pa := h; have h6 := HQ1.out; omega))
            clear hal ha
            refine ⟨trivial, ?_⟩
            simp only [Act.put]
            refine reg_one (i := 2) (by kernel_rfl) ?_
            have hcv := HCV.out z2221s5 q1 HMR.out
            refine op_val (i := 2) rfl (by rfl) (v := .string N61) (w' := z2221s5) (by go_simp) ?_
            clear hcv
            obtain ⟨z2221s523, hz⟩ : ∃ z, z = z2221s5 := ⟨_, rfl⟩
            rw [← hz] at HA HBX HCH HMR HL HQ0
            rw [← hz]
            clear hz
            refine ⟨trivial, ?_⟩
            simp only [Act.put, List.setIfInBounds_toArray, List.set_cons_zero, List.set_cons_succ]
            refine reg_take (i := 6) (v := ?g17v) rfl (by kernel_rfl) (by kernel_rfl) (by kernel_rfl) (by kernel_rfl) (fun _ _ _ h => h) (by rfl) ?g17y (by assumption) ?g17r
            case g17y => (intro W hS; first | (go_simp; done) | (go_simp; with_reducible rfl))
            simp only [Act.put, List.setIfInBounds_toArray, List.set_cons_zero, List.set_cons_succ]
            refine reg_take (i := 7) (v := ?g18v) rfl (by kernel_rfl) (by kernel_rfl) (by kernel_rfl) (by kernel_rfl) (fun _ _ _ h => h) (by rfl) ?g18y (by assumption) ?g18r
            case g18y => (intro W hS; first | (go_simp; done) | (go_simp; with_reducible rfl))
            simp only [Act.put, List.setIfInBounds_toArray, List.set_cons_zero, List.set_cons_succ]
            refine reg_one (i := 8) (by kernel_rfl) ?_
            have t5 := cell_of_heap HBX.out 7
            have u5 := free_of_heap HBX.out 7
            simp at t5 u5
            refine op_store (i := 8) rfl (by rfl) (w' := z2221s523.setCell ⟨pb, 7, none⟩ (.string N61)) (by go_simp) ?_
            clear t5 u5
            have hal := Chg.setCell z2221s523 ⟨pb, 7, none⟩ (.string N61)
            have ha : (z2221s523.setCell ⟨pb, 7, none⟩ (.string N61)).heap[pb]? = some (.cells #[.int .i64 k, .int .i64 i, .int .i64 n, .int .i64 l, .bool p, .slice po xps.length pc, .slice qo xts.length qc, .string N61] 27 (0, 0)) := heap_setCell_same HBX.out (i := 7) (.string N61)
            generalize z2221s523.setCell ⟨pb, 7, none⟩ (.string N61) = zz at hal ha ⊢
            replace HBX := hide ha
            replace HA := hide (hal.heap HA.out (fun h => by have h5 : pa = pb := h; have h6 := HNE.out; omega))
            replace HCH := hide (HCH.out.trans hal (S'' := fun _ => False) (fun _ _ h => h) (fun k hk h => by have h5 : k = pb := h; have h6 := HGB.out; omega))
            replace HL := hide (HL.out.chg hal (fun k hk _ h => by cases hk; have h5 : q0 = pb := h; have h6 := HQ0.out; omega))
            replace HQ0 := hide (show q0 < zz.heap.size ∧ pa < q0 ∧ pb < q0 from by have h5 := HQ0.out; have h6 := hal.size; omega)
            clear hal ha
            refine ⟨trivial, ?_⟩
            simp only [Act.put]
            refine wpAnyG_done (by kernel_rfl) ?_ _
            go_wp2
            go_meet
            have hx9 := HX3.out _ HCH.out
            have hf9 : ([0] : List Int).length ≤ 1000000 := by decide
            exact ⟨⟨k, i, n, l, p, ⟨⟨[0], xts, xn⟩, .slice (some ⟨q0, 0, none⟩) 1 1, .slice qo xts.length qc⟩⟩, ⟨k, i, n, l, p, ⟨⟨xps, xts, N61⟩, .slice po xps.length pc, .slice qo xts.length qc⟩⟩, HA.out, HBX.out, HCH.out, may_parents rfl, may_note HNZ.out, eq_false (fun h => by have h5 := congrArg (fun r : Rq => r.c.parents) h; exact HPS.out h5.symm), ⟨HL.out, (HX3.out _ HCH.out).ts, fun b hb _ => by cases hb; exact HQ0.out.1, (HX3.out _ HCH.out).tb⟩, ⟨hx9.ps, hx9.ts, hx9.pb, hx9.tb⟩, ⟨hf9, HF1.out.2⟩, HF1.out, HN1.out, by rw [HNZ.out]; decide⟩
        · have hcv := HCV.out z22 q1 HMR.out
          refine op_val (i := 2) rfl (by rfl) (v := .string N61) (w' := z22) (by go_simp) ?_
          clear hcv
          obtain ⟨z2223, hz⟩ : ∃ z, z = z22 := ⟨_, rfl⟩
          rw [← hz] at HA HBX HCH HMR
          rw [← hz]
          clear hz
          refine ⟨trivial, ?_⟩
          simp only [Act.put, List.setIfInBounds_toArray, List.set_cons_zero, List.set_cons_succ]
          refine reg_one (i := 0) (by kernel_rfl) ?_
          refine op_val (i := 0) rfl (by rfl) (v := .slice (some ⟨z2223.heap.size, 0, none⟩) 1 1) (w' := z2223.alloc (.cells #[.int .i64 0] 3)) (by go_simp) ?_
          have hal := Chg.alloc (fun _ => False) z2223 (Obj.cells #[.int .i64 0] 3)
          have hl := Rd_lit z2223 #[.int .i64 0] 3 1
          have hs := World.size_alloc z2223 (Obj.cells #[.int .i64 0] 3)
          generalize z2223.alloc (Obj.cells #[.int .i64 0] 3) = z222321 at hal hl hs ⊢
          obtain ⟨q0, hq0⟩ : ∃ q0, q0 = z2223.heap.size := ⟨_, rfl⟩
          rw [← hq0] at hl hs
          rw [← hq0]
          have HL := hide hl
          have HQ0 := hide (show q0 < z222321.heap.size ∧ pa < q0 ∧ pb < q0 from by have h5 := (Array.getElem?_eq_some_iff.1 HA.out).1; have h6 := (Array.getElem?_eq_some_iff.1 HBX.out).1; have h7 : pa < z2223.heap.size := h5; have h8 : pb < z2223.heap.size := h6; omega)
          clear hl hs hq0
          replace HCH := hide (HCH.out.trans (Chg.of_drewN (n := 0) hal) (fun _ _ h => h) (fun _ _ h => h))
          replace HA := hide (hal.heap HA.out (fun h => h))
          replace HBX := hide (hal.heap HBX.out (fun h => h))
          replace HMR := hide (hal.heap HMR.out (fun h => h))
          clear hal
          refine ⟨trivial, ?_⟩
          simp only [Act.put, List.setIfInBounds_toArray, List.set_cons_zero, List.set_cons_succ]
          refine reg_take (i := 3) (v := ?g19v) rfl (by kernel_rfl) (by kernel_rfl) (by kernel_rfl) (by kernel_rfl) (fun _ _ _ h => h) (by rfl) ?g19y (by assumption) ?g19r
          case g19y => (intro W hS; first | (go_simp; done) | (go_simp; with_reducible rfl))
          simp only [Act.put, List.setIfInBounds_toArray, List.set_cons_zero, List.set_cons_succ]
          refine reg_take (i := 4) (v := ?g20v) rfl (by kernel_rfl) (by kernel_rfl) (by kernel_rfl) (by kernel_rfl) (fun _ _ _ h => h) (by rfl) ?g20y (by assumption) ?g20r
          case g20y => (intro W hS; first | (go_simp; done) | (go_simp; with_reducible rfl))
          simp only [Act.put, List.setIfInBounds_toArray, List.set_cons_zero, List.set_cons_succ]
          refine reg_one (i := 5) (by kernel_rfl) ?_
          have t5 := cell_of_heap HA.out 5
          have u5 := free_of_heap HA.out 5
          simp at t5 u5
          refine op_store (i := 5) rfl (by rfl) (w' := z222321.setCell ⟨pa, 5, none⟩ (.slice (some ⟨q0, 0, none⟩) 1 1)) (by go_simp) ?_
          clear t5 u5
          have hal := Chg.setCell z222321 ⟨pa, 5, none⟩ (.slice (some ⟨q0, 0, none⟩) 1 1)
          have ha : (z222321.setCell ⟨pa, 5, none⟩ (.slice (some ⟨q0, 0, none⟩) 1 1)).heap[pa]? = some (.cells #[.int .i64 k, .int .i64 i, .int .i64 n, .int .i64 l, .bool p, .slice (some ⟨q0, 0, none⟩) 1 1, .slice qo xts.length qc, .string xn] 27 (0, 0)) := heap_setCell_same HA.out (i := 5) (.slice (some ⟨q0, 0, none⟩) 1 1)
          generalize z222321.setCell ⟨pa, 5, none⟩ (.slice (some ⟨q0, 0, none⟩) 1 1) = z222321s5 at hal ha ⊢
          replace HA := hide ha
          replace HBX := hide (hal.heap HBX.out (fun h => by have h5 : pb = pa := h; have h6 := HNE.out; omega))
          replace HCH := hide (HCH.out.trans hal (S'' := fun _ => False) (fun _ _ h => h) (fun k hk h => by have h5 : k = pa := h; have h6 := HGA.out; omega))
          replace HL := hide (HL.out.chg hal (fun k hk _ h => by cases hk; have h5 : q0 = pa := h; have h6 := HQ0.out; omega))
          replace HQ0 := hide (show q0 < z222321s5.heap.size ∧ pa < q0 ∧ pb < q0 from by have h5 := HQ0.out; have h6 := hal.size; omega)
          replace HMR := hide (hal.heap HMR.out (fun h => by have h5 : q1 = pa := h; have h6 := HQ1.out; omega))
          clear hal ha
          refine ⟨trivial, ?_⟩
          simp only [Act.put]
          refine reg_take (i := 6) (v := ?g21v) rfl (by kernel_rfl) (by kernel_rfl) (by kernel_rfl) (by kernel_rfl) (fun _ _ _ h => h) (by rfl) ?g21y (by assumption) ?g21r
          case g21y => (intro W hS; first | (go_simp; done) | (go_simp; with_reducible rfl))
          simp only [Act.put, List.setIfInBounds_toArray, List.set_cons_zero, List.set_cons_succ]
          refine reg_take (i := 7) (v := ?g22v) rfl (by kernel_rfl) (by kernel_rfl) (by kernel_rfl) (by kernel_rfl) (fun _ _ _ h => h) (by rfl) ?g22y (by assumption) ?g22r
          case g22y => (intro W hS; first | (go_simp; done) | (go_simp; with_reducible rfl))
          simp only [Act.put, List.setIfInBounds_toArray, List.set_cons_zero, List.set_cons_succ]
          refine reg_one (i := 8) (by kernel_rfl) ?_
          have t5 := cell_of_heap HBX.out 7
          have u5 := free_of_heap HBX.out 7
          simp at t5 u5
          refine op_store (i := 8) rfl (by rfl) (w' := z222321s5.setCell ⟨pb, 7, none⟩ (.string N61)) (by go_simp) ?_
          clear t5 u5
          have hal := Chg.setCell z222321s5 ⟨pb, 7, none⟩ (.string N61)
          have ha : (z222321s5.setCell ⟨pb, 7, none⟩ (.string N61)).heap[pb]? = some (.cells #[.int .i64 k, .int .i64 i, .int .i64 n, .int .i64 l, .bool p, .slice po xps.length pc, .slice qo xts.length qc, .string N61] 27 (0, 0)) := heap_setCell_same HBX.out (i := 7) (.string N61)
          generalize z222321s5.setCell ⟨pb, 7, none⟩ (.string N61) = zz at hal ha ⊢
          replace HBX := hide ha
          replace HA := hide (hal.heap HA.out (fun h => by have h5 : pa = pb := h; have h6 := HNE.out; omega))
          replace HCH := hide (HCH.out.trans hal (S'' := fun _ => False) (fun _ _ h => h) (fun k hk h => by have h5 : k = pb := h; have h6 := HGB.out; omega))
          replace HL := hide (HL.out.chg hal (fun k hk _ h => by cases hk; have h5 : q0 = pb := h; have h6 := HQ0.out; omega))
          replace HQ0 := hide (show q0 < zz.heap.size ∧ pa < q0 ∧ pb < q0 from by have h5 := HQ0.out; have h6 := hal.size; omega)
          clear hal ha
          refine ⟨trivial, ?_⟩
          simp only [Act.put]
          refine wpAnyG_done (by kernel_rfl) ?_ _
          go_wp2
          go_meet
          have hx9 := HX3.out _ HCH.out
          have hf9 : ([0] : List Int).length ≤ 1000000 := by decide
          exact ⟨⟨k, i, n, l, p, ⟨⟨[0], xts, xn⟩, .slice (some ⟨q0, 0, none⟩) 1 1, .slice qo xts.length qc⟩⟩, ⟨k, i, n, l, p, ⟨⟨xps, xts, N61⟩, .slice po xps.length pc, .slice qo xts.length qc⟩⟩, HA.out, HBX.out, HCH.out, may_parents rfl, may_note HNZ.out, eq_false (fun h => by have h5 := congrArg (fun r : Rq => r.c.parents) h; exact HPS.out h5.symm), ⟨HL.out, (HX3.out _ HCH.out).ts, fun b hb _ => by cases hb; exact HQ0.out.1, (HX3.out _ HCH.out).tb⟩, ⟨hx9.ps, hx9.ts, hx9.pb, hx9.tb⟩, ⟨hf9, HF1.out.2⟩, HF1.out, HN1.out, by rw [HNZ.out]; decide⟩
  case rest =>
  obtain ⟨qa, qb, ha, hb, hch, hma, hmb, hms, hca, hcb, hfa, hfb, hna, hnb⟩ := hcut
  replace HH1 := hide (hch.heap HH1.out (fun h => h))
  replace HX3 := hide (fun W4 (h : Chg (fun _ => False) wc W4) => HX3.out W4 (hch.trans h (fun _ _ h => h) (fun _ _ h => h)))
  replace HMX := hide (HMX.out.chg hch (fun h => h))
  replace HB := hide (HB.out.trans (hch.below (n := W.heap.size) HB.out.size (fun _ _ h => h)))
  have HA := hide ha
  have HBX := hide hb
  have HMA := hide hma
  have HMB := hide hmb
  have HMS := hide hms
  have HCA := hide hca
  have HCB := hide hcb
  have HFA := hide hfa
  have HFB := hide hfb
  have HNA := hide hna
  have HNB := hide hnb
  clear ha hb hch hma hmb hms hca hcb hfa hfb hna hnb hlw HCH HGA HGB
  have a0 := cell_of_heap HH1.out 0
  have a1 := cell_of_heap HH1.out 1
  have a2 := cell_of_heap HH1.out 2
  have a3 := cell_of_heap HH1.out 3
  have a4 := cell_of_heap HH1.out 4
  have a5 := cell_of_heap HH1.out 5
  have a6 := cell_of_heap HH1.out 6
  have a7 := cell_of_heap HH1.out 7
  simp at a0 a1 a2 a3 a4 a5 a6 a7
  have hlo : W.heap.size < wc.heap.size := (Array.getElem?_eq_some_iff.1 HH1.out).1
  go_upto_region 16 with (fail)
  clear a0 a1 a2 a3 a4 a5 a6 a7 hlo
  have hal := Chg.alloc (fun _ => False) wc (Obj.cells #[.int .i64 k, .int .i64 i, .int .i64 n, .int .i64 l, .bool (!p), .slice po xps.length pc, .slice qo xts.length qc, .string xn] 27)
  have h7 := heap_alloc_new wc (Obj.cells #[.int .i64 k, .int .i64 i, .int .i64 n, .int .i64 l, .bool (!p), .slice po xps.length pc, .slice qo xts.length qc, .string xn] 27)
  generalize wc.alloc (Obj.cells #[.int .i64 k, .int .i64 i, .int .i64 n, .int .i64 l, .bool (!p), .slice po xps.length pc, .slice qo xts.length qc, .string xn] 27) = wv at hal h7 ⊢
  generalize wc.heap.size = p7 at h7 ⊢
  have HH7 := hide h7
  replace HH1 := hide (hal.heap HH1.out (fun h => h))
  replace HA := hide (hal.heap HA.out (fun h => h))
  replace HBX := hide (hal.heap HBX.out (fun h => h))
  replace HX3 := hide (fun W4 (h : Chg (fun _ => False) wv W4) => HX3.out W4 (hal.trans h (fun _ _ h => h) (fun _ _ h => h)))
  replace HCA := hide (fun W4 (h : Chg (fun _ => False) wv W4) => (HCA.out.same hal).same h)
  replace HCB := hide (fun W4 (h : Chg (fun _ => False) wv W4) => (HCB.out.same hal).same h)
  replace HMX := hide (fun W4 (h : Chg (fun _ => False) wv W4) => HMX.out.chg (hal.trans h (S'' := fun _ => False) (fun _ _ h => h) (fun _ _ h => h)) (fun h => h))
  replace HB := hide (HB.out.trans (hal.below (n := W.heap.size) HB.out.size (fun _ _ h => h)))
  clear hal h7
  obtain ⟨ka, ia, na, la, sa, ⟨⟨psa, tsa, nta⟩, xpa, xta⟩⟩ := qa
  obtain ⟨kb, ib, nb, lb, sb, ⟨⟨psb, tsb, ntb⟩, xpb, xtb⟩⟩ := qb
  unfold RqV.cells at HA HBX
  simp only at HA HBX HFA HFB HNA HNB
  have ca0 := cell_of_heap HA.out 0
  have ca1 := cell_of_heap HA.out 1
  have ca2 := cell_of_heap HA.out 2
  have ca3 := cell_of_heap HA.out 3
  have ca4 := cell_of_heap HA.out 4
  have ca5 := cell_of_heap HA.out 5
  have ca6 := cell_of_heap HA.out 6
  have ca7 := cell_of_heap HA.out 7
  have cb0 := cell_of_heap HBX.out 0
  have cb1 := cell_of_heap HBX.out 1
  have cb2 := cell_of_heap HBX.out 2
  have cb3 := cell_of_heap HBX.out 3
  have cb4 := cell_of_heap HBX.out 4
  have cb5 := cell_of_heap HBX.out 5
  have cb6 := cell_of_heap HBX.out 6
  have cb7 := cell_of_heap HBX.out 7
  have cr0 := cell_of_heap HH1.out 0
  have cr1 := cell_of_heap HH1.out 1
  have cr2 := cell_of_heap HH1.out 2
  have cr3 := cell_of_heap HH1.out 3
  have cr4 := cell_of_heap HH1.out 4
  have cr5 := cell_of_heap HH1.out 5
  have cr6 := cell_of_heap HH1.out 6
  have cr7 := cell_of_heap HH1.out 7
  have cc0 := cell_of_heap HH7.out 0
  have cc1 := cell_of_heap HH7.out 1
  have cc2 := cell_of_heap HH7.out 2
  have cc3 := cell_of_heap HH7.out 3
  have cc4 := cell_of_heap HH7.out 4
  have cc5 := cell_of_heap HH7.out 5
  have cc6 := cell_of_heap HH7.out 6
  have cc7 := cell_of_heap HH7.out 7
  simp at ca0 ca1 ca2 ca3 ca4 ca5 ca6 ca7 cb0 cb1 cb2 cb3 cb4 cb5 cb6 cb7 cr0 cr1 cr2 cr3 cr4 cr5 cr6 cr7 cc0 cc1 cc2 cc3 cc4 cc5 cc6 cc7
  have HMC := hide (may_pass HMM.out.symm)
  refine reg_start (Chg (fun _ => False) wv) 26 26 (by rfl) (by kernel_rfl) (Chg.drew _ _) ?_
  intro hS0
  have hSc := hS0
  refine reg_take (i := 0) (v := ?g24v) rfl (by kernel_rfl) (by kernel_rfl) (by kernel_rfl) (by kernel_rfl) (fun _ _ _ h => h) (by rfl) ?g24y (by assumption) ?g24r
  case g24y => (intro W hS; have fa0 := hS.cell ca0 (fun h => h); have fa1 := hS.cell ca1 (fun h => h); have fa2 := hS.cell ca2 (fun h => h); have fa3 := hS.cell ca3 (fun h => h); have fa4 := hS.cell ca4 (fun h => h); have fa5 := hS.cell ca5 (fun h => h); have fa6 := hS.cell ca6 (fun h => h); have fa7 := hS.cell ca7 (fun h => h); have fb0 := hS.cell cb0 (fun h => h); have fb1 := hS.cell cb1 (fun h => h); have fb2 := hS.cell cb2 (fun h => h); have fb3 := hS.cell cb3 (fun h => h); have fb4 := hS.cell cb4 (fun h => h); have fb5 := hS.cell cb5 (fun h => h); have fb6 := hS.cell cb6 (fun h => h); have fb7 := hS.cell cb7 (fun h => h); have fr0 := hS.cell cr0 (fun h => h); have fr1 := hS.cell cr1 (fun h => h); have fr2 := hS.cell cr2 (fun h => h); have fr3 := hS.cell cr3 (fun h => h); have fr4 := hS.cell cr4 (fun h => h); have fr5 := hS.cell cr5 (fun h => h); have fr6 := hS.cell cr6 (fun h => h); have fr7 := hS.cell cr7 (fun h => h); have fc0 := hS.cell cc0 (fun h => h); have fc1 := hS.cell cc1 (fun h => h); have fc2 := hS.cell cc2 (fun h => h); have fc3 := hS.cell cc3 (fun h => h); have fc4 := hS.cell cc4 (fun h => h); have fc5 := hS.cell cc5 (fun h => h); have fc6 := hS.cell cc6 (fun h => h); have fc7 := hS.cell cc7 (fun h => h); first | (go_simp; done) | (go_simp; with_reducible rfl))
  simp only [Act.put, List.setIfInBounds_toArray, List.set_cons_zero, List.set_cons_succ]
  refine reg_one (i := 1) (by kernel_rfl) ?_
  refine op_call (i := 1) (#[.agg #[.int .i64 ka, .int .i64 ia, .int .i64 na, .int .i64 la, .bool sa, xpa, xta, .string nta]]) rfl (by rfl) (enters_of Tryd.func16 (by kernel_rfl) rfl) (by first | (simp [Act.eval]; done) | rfl | (simp only [List.map_toArray, List.map_cons, List.map_nil, Act.eval]; rfl) | (simp [Act.eval]; trace_state; done)) ?_
  refine (request_May _ ⟨ka, ia, na, la, sa, ⟨⟨psa, tsa, nta⟩, xpa, xta⟩⟩ (HCA.out _ hSc) HFA.out HNA.out (HMX.out _ hSc)).mono ?_
  rintro e W5 ⟨rfl, hb5⟩
  have hSc := hSc.trans (Chg.of_below0 (S := fun _ => False) hb5) (S'' := fun _ => False) (fun _ _ h => h) (fun _ _ h => h)
  rw [HMA.out]
  clear hb5
  refine ⟨_, rfl, hSc, ?_⟩
  simp only [Act.put, List.setIfInBounds_toArray, List.set_cons_zero, List.set_cons_succ]
  refine reg_take (i := 2) (v := ?g25v) rfl (by kernel_rfl) (by kernel_rfl) (by kernel_rfl) (by kernel_rfl) (fun _ _ _ h => h) (by rfl) ?g25y (by assumption) ?g25r
  case g25y => (intro W hS; first | (go_simp; done) | (go_simp; with_reducible rfl))
  simp only [Act.put, List.setIfInBounds_toArray, List.set_cons_zero, List.set_cons_succ]
  refine reg_take (i := 3) (v := ?g26v) rfl (by kernel_rfl) (by kernel_rfl) (by kernel_rfl) (by kernel_rfl) (fun _ _ _ h => h) (by rfl) ?g26y (by assumption) ?g26r
  case g26y => (intro W hS; first | (go_simp; done) | (go_simp; with_reducible rfl))
  simp only [Act.put, List.setIfInBounds_toArray, List.set_cons_zero, List.set_cons_succ]
  refine reg_take (i := 4) (v := ?g27v) rfl (by kernel_rfl) (by kernel_rfl) (by kernel_rfl) (by kernel_rfl) (fun _ _ _ h => h) (by rfl) ?g27y (by assumption) ?g27r
  case g27y => (intro W hS; have fa0 := hS.cell ca0 (fun h => h); have fa1 := hS.cell ca1 (fun h => h); have fa2 := hS.cell ca2 (fun h => h); have fa3 := hS.cell ca3 (fun h => h); have fa4 := hS.cell ca4 (fun h => h); have fa5 := hS.cell ca5 (fun h => h); have fa6 := hS.cell ca6 (fun h => h); have fa7 := hS.cell ca7 (fun h => h); have fb0 := hS.cell cb0 (fun h => h); have fb1 := hS.cell cb1 (fun h => h); have fb2 := hS.cell cb2 (fun h => h); have fb3 := hS.cell cb3 (fun h => h); have fb4 := hS.cell cb4 (fun h => h); have fb5 := hS.cell cb5 (fun h => h); have fb6 := hS.cell cb6 (fun h => h); have fb7 := hS.cell cb7 (fun h => h); have fr0 := hS.cell cr0 (fun h => h); have fr1 := hS.cell cr1 (fun h => h); have fr2 := hS.cell cr2 (fun h => h); have fr3 := hS.cell cr3 (fun h => h); have fr4 := hS.cell cr4 (fun h => h); have fr5 := hS.cell cr5 (fun h => h); have fr6 := hS.cell cr6 (fun h => h); have fr7 := hS.cell cr7 (fun h => h); have fc0 := hS.cell cc0 (fun h => h); have fc1 := hS.cell cc1 (fun h => h); have fc2 := hS.cell cc2 (fun h => h); have fc3 := hS.cell cc3 (fun h => h); have fc4 := hS.cell cc4 (fun h => h); have fc5 := hS.cell cc5 (fun h => h); have fc6 := hS.cell cc6 (fun h => h); have fc7 := hS.cell cc7 (fun h => h); first | (go_simp; done) | (go_simp; with_reducible rfl))
  simp only [Act.put, List.setIfInBounds_toArray, List.set_cons_zero, List.set_cons_succ]
  refine reg_one (i := 5) (by kernel_rfl) ?_
  refine op_call (i := 5) (#[.agg #[.int .i64 kb, .int .i64 ib, .int .i64 nb, .int .i64 lb, .bool sb, xpb, xtb, .string ntb]]) rfl (by rfl) (enters_of Tryd.func16 (by kernel_rfl) rfl) (by first | (simp [Act.eval]; done) | rfl | (simp only [List.map_toArray, List.map_cons, List.map_nil, Act.eval]; rfl) | (simp [Act.eval]; trace_state; done)) ?_
  refine (request_May _ ⟨kb, ib, nb, lb, sb, ⟨⟨psb, tsb, ntb⟩, xpb, xtb⟩⟩ (HCB.out _ hSc) HFB.out HNB.out (HMX.out _ hSc)).mono ?_
  rintro e W6 ⟨rfl, hb5⟩
  have hSc := hSc.trans (Chg.of_below0 (S := fun _ => False) hb5) (S'' := fun _ => False) (fun _ _ h => h) (fun _ _ h => h)
  rw [HMB.out]
  clear hb5
  refine ⟨_, rfl, hSc, ?_⟩
  simp only [Act.put, List.setIfInBounds_toArray, List.set_cons_zero, List.set_cons_succ]
  refine reg_take (i := 6) (v := ?g28v) rfl (by kernel_rfl) (by kernel_rfl) (by kernel_rfl) (by kernel_rfl) (fun _ _ _ h => h) (by rfl) ?g28y (by assumption) ?g28r
  case g28y => (intro W hS; first | (go_simp; done) | (go_simp; with_reducible rfl))
  simp only [Act.put, List.setIfInBounds_toArray, List.set_cons_zero, List.set_cons_succ]
  refine reg_take (i := 7) (v := ?g29v) rfl (by kernel_rfl) (by kernel_rfl) (by kernel_rfl) (by kernel_rfl) (fun _ _ _ h => h) (by rfl) ?g29y (by assumption) ?g29r
  case g29y => (intro W hS; first | (go_simp; done) | (go_simp; with_reducible rfl))
  simp only [Act.put, List.setIfInBounds_toArray, List.set_cons_zero, List.set_cons_succ]
  refine reg_take (i := 8) (v := ?g30v) rfl (by kernel_rfl) (by kernel_rfl) (by kernel_rfl) (by kernel_rfl) (fun _ _ _ h => h) (by rfl) ?g30y (by assumption) ?g30r
  case g30y => (intro W hS; first | (go_simp; done) | (go_simp; with_reducible rfl))
  simp only [Act.put, List.setIfInBounds_toArray, List.set_cons_zero, List.set_cons_succ]
  refine reg_take (i := 9) (v := ?g31v) rfl (by kernel_rfl) (by kernel_rfl) (by kernel_rfl) (by kernel_rfl) (fun _ _ _ h => h) (by rfl) ?g31y (by assumption) ?g31r
  case g31y => (intro W hS; have fa0 := hS.cell ca0 (fun h => h); have fa1 := hS.cell ca1 (fun h => h); have fa2 := hS.cell ca2 (fun h => h); have fa3 := hS.cell ca3 (fun h => h); have fa4 := hS.cell ca4 (fun h => h); have fa5 := hS.cell ca5 (fun h => h); have fa6 := hS.cell ca6 (fun h => h); have fa7 := hS.cell ca7 (fun h => h); have fb0 := hS.cell cb0 (fun h => h); have fb1 := hS.cell cb1 (fun h => h); have fb2 := hS.cell cb2 (fun h => h); have fb3 := hS.cell cb3 (fun h => h); have fb4 := hS.cell cb4 (fun h => h); have fb5 := hS.cell cb5 (fun h => h); have fb6 := hS.cell cb6 (fun h => h); have fb7 := hS.cell cb7 (fun h => h); have fr0 := hS.cell cr0 (fun h => h); have fr1 := hS.cell cr1 (fun h => h); have fr2 := hS.cell cr2 (fun h => h); have fr3 := hS.cell cr3 (fun h => h); have fr4 := hS.cell cr4 (fun h => h); have fr5 := hS.cell cr5 (fun h => h); have fr6 := hS.cell cr6 (fun h => h); have fr7 := hS.cell cr7 (fun h => h); have fc0 := hS.cell cc0 (fun h => h); have fc1 := hS.cell cc1 (fun h => h); have fc2 := hS.cell cc2 (fun h => h); have fc3 := hS.cell cc3 (fun h => h); have fc4 := hS.cell cc4 (fun h => h); have fc5 := hS.cell cc5 (fun h => h); have fc6 := hS.cell cc6 (fun h => h); have fc7 := hS.cell cc7 (fun h => h); first | (go_simp; done) | (go_simp; with_reducible rfl))
  simp only [Act.put, List.setIfInBounds_toArray, List.set_cons_zero, List.set_cons_succ]
  refine reg_take (i := 11) (v := ?g32v) rfl (by kernel_rfl) (by kernel_rfl) (by kernel_rfl) (by kernel_rfl) (fun _ _ _ h => h) (by rfl) ?g32y (by assumption) ?g32r
  case g32y => (intro W hS; first | (go_simp; done) | (go_simp; with_reducible rfl))
  simp only [Act.put, List.setIfInBounds_toArray, List.set_cons_zero, List.set_cons_succ]
  refine reg_take (i := 12) (v := ?g33v) rfl (by kernel_rfl) (by kernel_rfl) (by kernel_rfl) (by kernel_rfl) (fun _ _ _ h => h) (by rfl) ?g33y (by assumption) ?g33r
  case g33y => (intro W hS; have fa0 := hS.cell ca0 (fun h => h); have fa1 := hS.cell ca1 (fun h => h); have fa2 := hS.cell ca2 (fun h => h); have fa3 := hS.cell ca3 (fun h => h); have fa4 := hS.cell ca4 (fun h => h); have fa5 := hS.cell ca5 (fun h => h); have fa6 := hS.cell ca6 (fun h => h); have fa7 := hS.cell ca7 (fun h => h); have fb0 := hS.cell cb0 (fun h => h); have fb1 := hS.cell cb1 (fun h => h); have fb2 := hS.cell cb2 (fun h => h); have fb3 := hS.cell cb3 (fun h => h); have fb4 := hS.cell cb4 (fun h => h); have fb5 := hS.cell cb5 (fun h => h); have fb6 := hS.cell cb6 (fun h => h); have fb7 := hS.cell cb7 (fun h => h); have fr0 := hS.cell cr0 (fun h => h); have fr1 := hS.cell cr1 (fun h => h); have fr2 := hS.cell cr2 (fun h => h); have fr3 := hS.cell cr3 (fun h => h); have fr4 := hS.cell cr4 (fun h => h); have fr5 := hS.cell cr5 (fun h => h); have fr6 := hS.cell cr6 (fun h => h); have fr7 := hS.cell cr7 (fun h => h); have fc0 := hS.cell cc0 (fun h => h); have fc1 := hS.cell cc1 (fun h => h); have fc2 := hS.cell cc2 (fun h => h); have fc3 := hS.cell cc3 (fun h => h); have fc4 := hS.cell cc4 (fun h => h); have fc5 := hS.cell cc5 (fun h => h); have fc6 := hS.cell cc6 (fun h => h); have fc7 := hS.cell cc7 (fun h => h); first | (go_simp; done) | (go_simp; with_reducible rfl))
  simp only [Act.put, List.setIfInBounds_toArray, List.set_cons_zero, List.set_cons_succ]
  refine reg_take (i := 13) (v := ?g34v) rfl (by kernel_rfl) (by kernel_rfl) (by kernel_rfl) (by kernel_rfl) (fun _ _ _ h => h) (by rfl) ?g34y (by assumption) ?g34r
  case g34y => (intro W hS; first | (go_simp; done) | (go_simp; with_reducible rfl))
  simp only [Act.put, List.setIfInBounds_toArray, List.set_cons_zero, List.set_cons_succ]
  refine reg_one (i := 10) (by kernel_rfl) ?_
  refine op_call (i := 10) (#[.agg #[.int .i64 k, .int .i64 i, .int .i64 n, .int .i64 l, .bool (!p), .slice po xps.length pc, .slice qo xts.length qc, .string xn]]) rfl (by rfl) (enters_of Tryd.func16 (by kernel_rfl) rfl) (by first | (simp [Act.eval]; done) | rfl | (simp only [List.map_toArray, List.map_cons, List.map_nil, Act.eval]; rfl) | (simp [Act.eval]; trace_state; done)) ?_
  refine (request_May _ ⟨k, i, n, l, !p, ⟨⟨xps, xts, xn⟩, .slice po xps.length pc, .slice qo xts.length qc⟩⟩ (HX3.out _ hSc) HF1.out HN1.out (HMX.out _ hSc)).mono ?_
  rintro e W7 ⟨rfl, hb5⟩
  have hSc := hSc.trans (Chg.of_below0 (S := fun _ => False) hb5) (S'' := fun _ => False) (fun _ _ h => h) (fun _ _ h => h)
  rw [show mayRq (RqV.r ⟨k, i, n, l, !p, ⟨⟨xps, xts, xn⟩, .slice po xps.length pc, .slice qo xts.length qc⟩⟩) = (k == 5) from HMC.out]
  clear hb5
  refine ⟨_, rfl, hSc, ?_⟩
  simp only [Act.put, List.setIfInBounds_toArray, List.set_cons_zero, List.set_cons_succ]
  refine reg_take (i := 14) (v := ?g35v) rfl (by kernel_rfl) (by kernel_rfl) (by kernel_rfl) (by kernel_rfl) (fun _ _ _ h => h) (by rfl) ?g35y (by assumption) ?g35r
  case g35y => (intro W hS; first | (go_simp; done) | (go_simp; with_reducible rfl))
  simp only [Act.put, List.setIfInBounds_toArray, List.set_cons_zero, List.set_cons_succ]
  refine reg_take (i := 15) (v := ?g36v) rfl (by kernel_rfl) (by kernel_rfl) (by kernel_rfl) (by kernel_rfl) (fun _ _ _ h => h) (by rfl) ?g36y (by assumption) ?g36r
  case g36y => (intro W hS; first | (go_simp; done) | (go_simp; with_reducible rfl))
  simp only [Act.put, List.setIfInBounds_toArray, List.set_cons_zero, List.set_cons_succ]
  refine reg_take (i := 16) (v := ?g37v) rfl (by kernel_rfl) (by kernel_rfl) (by kernel_rfl) (by kernel_rfl) (fun _ _ _ h => h) (by rfl) ?g37y (by assumption) ?g37r
  case g37y => (intro W hS; first | (go_simp; done) | (go_simp; with_reducible rfl))
  simp only [Act.put, List.setIfInBounds_toArray, List.set_cons_zero, List.set_cons_succ]
  refine reg_take (i := 17) (v := ?g38v) rfl (by kernel_rfl) (by kernel_rfl) (by kernel_rfl) (by kernel_rfl) (fun _ _ _ h => h) (by rfl) ?g38y (by assumption) ?g38r
  case g38y => (intro W hS; have fa0 := hS.cell ca0 (fun h => h); have fa1 := hS.cell ca1 (fun h => h); have fa2 := hS.cell ca2 (fun h => h); have fa3 := hS.cell ca3 (fun h => h); have fa4 := hS.cell ca4 (fun h => h); have fa5 := hS.cell ca5 (fun h => h); have fa6 := hS.cell ca6 (fun h => h); have fa7 := hS.cell ca7 (fun h => h); have fb0 := hS.cell cb0 (fun h => h); have fb1 := hS.cell cb1 (fun h => h); have fb2 := hS.cell cb2 (fun h => h); have fb3 := hS.cell cb3 (fun h => h); have fb4 := hS.cell cb4 (fun h => h); have fb5 := hS.cell cb5 (fun h => h); have fb6 := hS.cell cb6 (fun h => h); have fb7 := hS.cell cb7 (fun h => h); have fr0 := hS.cell cr0 (fun h => h); have fr1 := hS.cell cr1 (fun h => h); have fr2 := hS.cell cr2 (fun h => h); have fr3 := hS.cell cr3 (fun h => h); have fr4 := hS.cell cr4 (fun h => h); have fr5 := hS.cell cr5 (fun h => h); have fr6 := hS.cell cr6 (fun h => h); have fr7 := hS.cell cr7 (fun h => h); have fc0 := hS.cell cc0 (fun h => h); have fc1 := hS.cell cc1 (fun h => h); have fc2 := hS.cell cc2 (fun h => h); have fc3 := hS.cell cc3 (fun h => h); have fc4 := hS.cell cc4 (fun h => h); have fc5 := hS.cell cc5 (fun h => h); have fc6 := hS.cell cc6 (fun h => h); have fc7 := hS.cell cc7 (fun h => h); first | (go_simp; done) | (go_simp; with_reducible rfl))
  simp only [Act.put, List.setIfInBounds_toArray, List.set_cons_zero, List.set_cons_succ]
  refine reg_take (i := 18) (v := ?g39v) rfl (by kernel_rfl) (by kernel_rfl) (by kernel_rfl) (by kernel_rfl) (fun _ _ _ h => h) (by rfl) ?g39y (by assumption) ?g39r
  case g39y => (intro W hS; have fa0 := hS.cell ca0 (fun h => h); have fa1 := hS.cell ca1 (fun h => h); have fa2 := hS.cell ca2 (fun h => h); have fa3 := hS.cell ca3 (fun h => h); have fa4 := hS.cell ca4 (fun h => h); have fa5 := hS.cell ca5 (fun h => h); have fa6 := hS.cell ca6 (fun h => h); have fa7 := hS.cell ca7 (fun h => h); have fb0 := hS.cell cb0 (fun h => h); have fb1 := hS.cell cb1 (fun h => h); have fb2 := hS.cell cb2 (fun h => h); have fb3 := hS.cell cb3 (fun h => h); have fb4 := hS.cell cb4 (fun h => h); have fb5 := hS.cell cb5 (fun h => h); have fb6 := hS.cell cb6 (fun h => h); have fb7 := hS.cell cb7 (fun h => h); have fr0 := hS.cell cr0 (fun h => h); have fr1 := hS.cell cr1 (fun h => h); have fr2 := hS.cell cr2 (fun h => h); have fr3 := hS.cell cr3 (fun h => h); have fr4 := hS.cell cr4 (fun h => h); have fr5 := hS.cell cr5 (fun h => h); have fr6 := hS.cell cr6 (fun h => h); have fr7 := hS.cell cr7 (fun h => h); have fc0 := hS.cell cc0 (fun h => h); have fc1 := hS.cell cc1 (fun h => h); have fc2 := hS.cell cc2 (fun h => h); have fc3 := hS.cell cc3 (fun h => h); have fc4 := hS.cell cc4 (fun h => h); have fc5 := hS.cell cc5 (fun h => h); have fc6 := hS.cell cc6 (fun h => h); have fc7 := hS.cell cc7 (fun h => h); first | (go_simp; done) | (go_simp; with_reducible rfl))
  simp only [Act.put, List.setIfInBounds_toArray, List.set_cons_zero, List.set_cons_succ]
  refine reg_one (i := 19) (by kernel_rfl) ?_
  refine op_call (i := 19) (#[.agg #[.int .i64 ka, .int .i64 ia, .int .i64 na, .int .i64 la, .bool sa, xpa, xta, .string nta], .agg #[.int .i64 k, .int .i64 i, .int .i64 n, .int .i64 l, .bool p, .slice po xps.length pc, .slice qo xts.length qc, .string xn]]) rfl (by rfl) (enters_of Tryd.func18 (by kernel_rfl) rfl) (by first | (simp [Act.eval]; done) | rfl | (simp only [List.map_toArray, List.map_cons, List.map_nil, Act.eval]; rfl) | (simp [Act.eval]; trace_state; done)) ?_
  refine (request_Same _ ⟨ka, ia, na, la, sa, ⟨⟨psa, tsa, nta⟩, xpa, xta⟩⟩ ⟨k, i, n, l, p, ⟨⟨xps, xts, xn⟩, .slice po xps.length pc, .slice qo xts.length qc⟩⟩ (HCA.out _ hSc) (HX3.out _ hSc) HFA.out HF1.out).mono ?_
  rintro e W8 ⟨rfl, hb5⟩
  have hSc := hSc.trans (Chg.of_below0 (S := fun _ => False) hb5) (S'' := fun _ => False) (fun _ _ h => h) (fun _ _ h => h)
  rw [show rqEq (RqV.r ⟨ka, ia, na, la, sa, ⟨⟨psa, tsa, nta⟩, xpa, xta⟩⟩) (RqV.r ⟨k, i, n, l, p, ⟨⟨xps, xts, xn⟩, .slice po xps.length pc, .slice qo xts.length qc⟩⟩) = false from HMS.out]
  clear hb5
  refine ⟨_, rfl, hSc, ?_⟩
  simp only [Act.put, List.setIfInBounds_toArray, List.set_cons_zero, List.set_cons_succ]
  refine reg_take (i := 20) (v := ?g40v) rfl (by kernel_rfl) (by kernel_rfl) (by kernel_rfl) (by kernel_rfl) (fun _ _ _ h => h) (by rfl) ?g40y (by assumption) ?g40r
  case g40y => (intro W hS; first | (go_simp; done) | (go_simp; with_reducible rfl))
  simp only [Act.put, List.setIfInBounds_toArray, List.set_cons_zero, List.set_cons_succ]
  refine reg_take (i := 21) (v := ?g41v) rfl (by kernel_rfl) (by kernel_rfl) (by kernel_rfl) (by kernel_rfl) (fun _ _ _ h => h) (by rfl) ?g41y (by assumption) ?g41r
  case g41y => (intro W hS; first | (go_simp; done) | (go_simp; with_reducible rfl))
  simp only [Act.put, List.setIfInBounds_toArray, List.set_cons_zero, List.set_cons_succ]
  refine reg_take (i := 22) (v := ?g42v) rfl (by kernel_rfl) (by kernel_rfl) (by kernel_rfl) (by kernel_rfl) (fun _ _ _ h => h) (by rfl) ?g42y (by assumption) ?g42r
  case g42y => (intro W hS; first | (go_simp; done) | (go_simp; with_reducible rfl))
  simp only [Act.put, List.setIfInBounds_toArray, List.set_cons_zero, List.set_cons_succ]
  refine reg_one (i := 23) (by kernel_rfl) ?_
  refine op_call (i := 23) (#[]) rfl (by rfl) (enters_of Tryd.func11 (by kernel_rfl) rfl) (by simp) ?_
  refine (awake17 _ (HMX.out _ hSc)).mono ?_
  rintro e W9 ⟨rfl, hb5⟩
  have hSc := hSc.trans (Chg.of_below0 (S := fun _ => False) hb5) (S'' := fun _ => False) (fun _ _ h => h) (fun _ _ h => h)
  clear hb5
  refine ⟨_, rfl, hSc, ?_⟩
  simp only [Act.put, List.setIfInBounds_toArray, List.set_cons_zero, List.set_cons_succ]
  refine reg_take (i := 24) (v := ?g43v) rfl (by kernel_rfl) (by kernel_rfl) (by kernel_rfl) (by kernel_rfl) (fun _ _ _ h => h) (by rfl) ?g43y (by assumption) ?g43r
  case g43y => (intro W hS; first | (go_simp; done) | (go_simp; with_reducible rfl))
  simp only [Act.put, List.setIfInBounds_toArray, List.set_cons_zero, List.set_cons_succ]
  refine reg_take (i := 25) (v := ?g44v) rfl (by kernel_rfl) (by kernel_rfl) (by kernel_rfl) (by kernel_rfl) (fun _ _ _ h => h) (by rfl) ?g44y (by assumption) ?g44r
  case g44y => (intro W hS; first | (go_simp; done) | (go_simp; with_reducible rfl))
  simp only [Act.put, List.setIfInBounds_toArray, List.set_cons_zero, List.set_cons_succ]
  refine wpAnyG_done (by kernel_rfl) ?_ _
  have HB9 := hide (HB.out.trans (hSc.below (n := W.heap.size) HB.out.size (fun _ _ h => h)))
  go_wp2_with fail
  go_ret
  exact ⟨rfl, HB9.out⟩

set_option maxRecDepth 100000 in
theorem RequestFields_lifted (os : Os) (started : os.Started) (H : Type) (enc : TypeId × Value → H) :
    ReturnsInHanded {} Tryd.checked os 6 .any (fun w args => (Rows.requestFieldsSpec.pre enc Tryd.prog Tryd.f6 Rows.requestFieldsRow.domain false w args ∧ laidMetH Tryd.prog cardLaid w) ∧ sizedMet enc Tryd.prog Tryd.f6 (OpenSpec.ofChange Rows.requestFieldsSpec) false w args) (Rows.requestFieldsSpec.post enc Tryd.prog Tryd.f6 false true false false) := by
  refine card_wrap (C := Tryd.checked) (X := fun w => laidMetH Tryd.prog cardLaid w) law_own started (by kernel_rfl) Tryd.func6
    (ChangeSpec.witness_at (enc := enc) (C := Tryd.checked) (os := os) (X := fun w _ => laidMetH Tryd.prog cardLaid w) false (laidWorld os) #[.agg #[.int .i64 0, .int .i64 0, .int .i64 0, .int .i64 0, .bool false, .slice none 0 0, .slice none 0 0, .string ⟨#[]⟩], .int .i64 0] 8 rfl (by kernel_rfl) (by kernel_rfl) (by kernel_rfl) (by kernel_rfl) (by kernel_rfl) (laidWorld_met os _)) ?_
  intro W base args ds gs before hval0 hW hsh
  have hM := mx_of_shaped hsh
  have hval : ∀ (j : Nat) t v, Tryd.f6.params[j]? = some t → args[j]? = some v → Value.okWide Tryd.prog W .any base t v := hval0
  have hW' := hW
  obtain ⟨p, q, hA0, hV, rfl, hfz, hnd⟩ := hW
  have hA : DataW.TrodAll enc Tryd.prog W 0 (fun _ => true) true Tryd.f6.params.toList args.toList ds p := hA0
  rw [Tryd.params6] at hA hval
  obtain ⟨v0, vs0, d0, ds0, p0, q0, hargs, rfl, rfl, h0, r0⟩ := trodAll_cons hA
  obtain ⟨v1, vs1, d1, ds1, p1, q1, rfl, rfl, rfl, h1, r1⟩ := trodAll_cons r0
  obtain ⟨rfl, rfl, rfl⟩ := trodAll_nil r1
  obtain rfl : args = #[v0, v1] := by cases args; simp_all
  obtain ⟨rfl, rfl⟩ := trodVars_none hV
  have k0 := h0
  have lt0 : ∀ x ∈ p0, x.block < W.heap.size := by obtain ⟨m, hm⟩ := k0; exact DataW.trod_lt m _ _ _ hm
  obtain ⟨cs0, rfl, hsz0⟩ := okWide_struct Tryd.underlying27 (hval 0 27 v0 rfl rfl)
  have k1 := h1
  have lt1 : ∀ x ∈ p1, x.block < W.heap.size := by obtain ⟨m, hm⟩ := k1; exact DataW.trod_lt m _ _ _ hm
  obtain ⟨a1, rfl, rfl, rfl, w1⟩ := open_int Tryd.underlying3 (hval 1 3 v1 rfl rfl) h1
  clear hA0 hval0
  refine (RequestFields_walk (enc := enc) W hM cs0 (Readable.of_trod h0) a1 w1).mono fun e W' ⟨he, bel⟩ => ?_
  subst he
  exact ⟨_, rfl, _, _, _, [], _, [], hW', trodAll_mk1 (shut_bool Tryd.underlying4 _), (trodAll_cons_mk (Below.trod law_laid (by kernel_rfl) (of_decide_eq_true (by kernel_rfl)) k0 bel lt0) (trodAll_cons_mk (Below.trod law_laid (by kernel_rfl) (of_decide_eq_true (by kernel_rfl)) k1 bel lt1) trodAll_mk0)), rfl, bel.frame _, fun h => by cases h⟩

theorem RequestFields_over : Rows.requestFieldsRow.holds Tryd.pinned (OpenSpec.ofChange Rows.requestFieldsSpec) :=
  OpenClaim.holds_of_wide 6 Tryd.f6 rfl rfl rfl rfl rfl rfl rfl ⟨rfl, rfl, rfl, rfl, rfl⟩ rfl rfl rfl rfl rfl (by kernel_rfl) Tryd.func6 (by kernel_rfl)
    (of_decide_eq_true (by kernel_rfl)) (by unfold Func.isWrapper; first | (rw [if_pos (by decide +kernel)]; kernel_rfl) | (rw [if_neg (by decide +kernel)]; exact ⟨rfl, rfl⟩))
    (fun os started H enc _ => RequestFields_lifted os started H enc)

theorem RequestFields_params : ∀ (j : Nat) t, Tryd.f6.params[j]? = some t → Tryd.prog.wantsStandIn t = false := by
  intro j t ht
  rw [Tryd.params6] at ht
  have hm : t ∈ ([27, 3] : List TypeId) := List.mem_of_getElem? (i := j) (by simpa using ht)
  simp only [List.mem_cons, List.not_mem_nil, or_false] at hm
  rcases hm with h | h
  · subst h; exact (show Tryd.prog.wantsStandIn 27 = false by kernel_rfl)
  · subst h; exact (show Tryd.prog.wantsStandIn 3 = false by kernel_rfl)
theorem RequestFields_holds : Rows.RequestFieldsCardSaid :=
  Claim7.holds_tied_plain_at .later [] [.data, .pinned] true (true, "c4be9e7f0cdbaae3bf531276a3d215d8076bde4fb581a78ccccc1d3c7d66db3a") false
    RequestFields_over (fun _ h => by cases h) (by kernel_rfl) (fun _ h => by cases h) requestFields_row_tie rfl ⟨rfl, rfl⟩ (by kernel_rfl) rfl
    (fun f fn hf hfn => by
      obtain rfl : f = 6 := Option.some.inj ((show Tryd.prog.funcNamed "cortege/cortegelaw17.RequestFields" = some 6 by kernel_rfl).symm.trans hf) |>.symm
      obtain rfl : fn = Tryd.f6 := (Option.some.inj (Tryd.func6.symm.trans hfn)).symm
      exact ⟨by kernel_rfl, RequestFields_params⟩)
    (by kernel_rfl)
#print axioms RequestFields_holds

end Go.Proofs.YtjmmmpnpkialjaaDoor
