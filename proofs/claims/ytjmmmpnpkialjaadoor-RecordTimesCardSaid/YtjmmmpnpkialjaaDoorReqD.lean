/- request.Read. Conditions: the bytes read as said. -/
import Derived.Test.YtjmmmpnpkialjaaDoorReqR
import Derived.Test.YtjmmmpnpkialjaaDoorReqY
import Derived.Test.YtjmmmpnpkialjaaDoorRqM
import Derived.Test.YtjmmmpnpkialjaaDoorReqE
import Derived.Deep.CutRange
namespace Go.Proofs.YtjmmmpnpkialjaaDoor
open Go.RowKit Go.Shelf

/-- The five numbers, so far as they are read. -/
def arrK (b : List UInt8) (k : Nat) : Array Value := ((List.range 5).map fun j => Value.int .i64 (if j < k then nmAt b (8 * j : Nat) else 0)).toArray
def rqZ : Array Value := #[.int .i64 0, .int .i64 0, .int .i64 0, .int .i64 0, .bool false, .slice none 0 0, .slice none 0 0, .string ⟨#[]⟩]
theorem nm_ok (b : List UInt8) (k : Nat) (h : 8 * k + 8 ≤ b.length) : rdNum b (8 * k : Nat) = (nmAt b (8 * k : Nat), ((8 * (k + 1) : Nat) : Int), true) := by
  have hp : 0 ≤ ((8 * k : Nat) : Int) ∧ ((8 * k : Nat) : Int) + 8 ≤ b.length := by omega
  simp only [nmAt, rdNum, if_pos hp]
  simp only [Prod.mk.injEq, and_true, true_and]
  omega
theorem nm_no (b : List UInt8) (k : Nat) (h : ¬ 8 * k + 8 ≤ b.length) : rdNum b (8 * k : Nat) = (0, 0, false) := by
  have hp : ¬ (0 ≤ ((8 * k : Nat) : Int) ∧ ((8 * k : Nat) : Int) + 8 ≤ b.length) := by omega
  simp only [rdNum, if_neg hp]

theorem results_cu {P : Program} {fn : Func} {p u : Tmp} {ty : TypeId} (h : fn.results = #[.cell p ty, .tmp u]) (tmps : Array Value) (w : World) (g : Nat) (t : TypeId) (cs : Array Value) (fr : Nat × Nat) (d : TypeDesc)
    (hp : tmps.getD p undef = .pointer (some ⟨g, 0, none⟩)) (hg : w.heap[g]? = some (.cells cs t fr)) (hu : P.underlying ty = some d) (hd : (match d with | .struct _ | .array _ _ => true | _ => false) = true) (hi : (P.info? ty).map (·.size) = some cs.size) :
    (results fn tmps).run P w = .ok (.tuple #[.agg cs, tmps.getD u undef]) w := by
  have hp' : tmps[p]?.getD undef = .pointer (some ⟨g, 0, none⟩) := by simpa using hp
  simp [results, h, hp', asAddr, Result.andThen, run_loadVar_row w g t ty cs fr d hg hu hd hi]
theorem Own.set {w : World} {n : Nat} {x : CmV} (h : Own w (n + 1) x) (i : Nat) (v : Value) : Own (w.setCell ⟨n, i, none⟩ v) (n + 1) x :=
  h.chg (Chg.setCell w ⟨n, i, none⟩ v) (fun b hb _ e => by have e2 : b = n := e; omega)
theorem own_sets {w : World} {n : Nat} {x : CmV} (h : Own w (n + 1) x) (v0 v1 v2 v3 v4 v5 v6 v7 : Value) :
    Own ((((((((w.setCell ⟨n, 0, none⟩ v0).setCell ⟨n, 1, none⟩ v1).setCell ⟨n, 2, none⟩ v2).setCell ⟨n, 3, none⟩ v3).setCell ⟨n, 4, none⟩ v4).setCell ⟨n, 5, none⟩ v5).setCell ⟨n, 6, none⟩ v6).setCell ⟨n, 7, none⟩ v7) (n + 1) x :=
  (((((((h.set 0 v0).set 1 v1).set 2 v2).set 3 v3).set 4 v4).set 5 v5).set 6 v6).set 7 v7
theorem rd_may {b : List UInt8} {r : Rq} (h : candP b = some r) (hm : mayRq r = false) : rdRq b = none := by
  rw [rdRq, h]; simp [Option.filter, hm]
theorem rd_other {b : List UInt8} {r : Rq} (h : candP b = some r) (hm : (layRq r == b) = false) : rdRq b = none := by
  have : ¬ layRq r = b := by simpa using hm
  rw [rdRq, h]; simp [Option.filter, this]
theorem rd_yes {b : List UInt8} {r : Rq} (hy : mayRq r = true) (hm : (layRq r == b) = true) : rdRq b = some r := by
  have : layRq r = b := by simpa using hm
  exact rdRq_some.2 ⟨hy, this⟩
theorem rd_none {b : List UInt8} (h : b.length < 40) : rdRq b = none := by
  rw [rdRq, candP, if_neg (by omega)]; rfl
set_option maxHeartbeats 4000000 in
set_option maxRecDepth 100000 in
theorem request_Read (w : World) (vb : Value) (b : List UInt8) (hb : Rd w vb b.length (u8s b)) (hm : b.length ≤ 140737488351232) (hM : Mx w) :
    Calls Tryd.prog 22 #[vb] w fun e w' => Below w.heap.size w w' ∧ ((rdRq b = none ∧ e = .returned (.tuple #[.agg rqZ, .int .i64 5])) ∨ ∃ q : RqV, rdRq b = some q.r ∧ e = .returned (.tuple #[q.val, .int .i64 0]) ∧ Own w' w.heap.size q.x) := by
  have HB := hide hb
  have HM := hide hM
  obtain ⟨ab, cb, rfl, -, -⟩ := hb.shape
  clear hb hM
  go_enter Tryd.func22, Tryd.ntmps22
  go_wp2_with fail
  have hb0 := ((Below.refl w.heap.size w).alloc (Nat.le_refl _) (Obj.cells rqZ 27)).alloc (by simp) (Obj.cells (arrK b 0) 82)
  have hz0 := heap_alloc_new (w.alloc (Obj.cells rqZ 27)) (Obj.cells (arrK b 0) 82)
  rw [World.size_alloc] at hz0
  have hy0 : ((w.alloc (Obj.cells rqZ 27)).alloc (Obj.cells (arrK b 0) 82)).heap[w.heap.size]? = some (.cells rqZ 27 (0, 0)) := (Chg.alloc (fun _ => False) _ _).heap (heap_alloc_new w _) (fun h => h)
  go_loopw [5, 13] (fun pv iv wr => ∃ k : Nat, k ≤ 5 ∧ pv = .int .i64 ((8 * k : Nat) : Int) ∧ iv = .int .i64 k ∧ 8 * k ≤ b.length ∧ Hid (wr.heap[w.heap.size + 1]? = some (.cells (arrK b k) 82 (0, 0))) ∧ Hid (wr.heap[w.heap.size]? = some (.cells rqZ 27 (0, 0))) ∧ Hid (Below w.heap.size w wr)) (fun _ i _ => 5 - (intOf i).toNat)
  case atStart => exact ⟨0, by omega, rfl, rfl, by omega, hz0, hy0, hb0⟩
  case round =>
    obtain ⟨k, hk, rfl, rfl, hkb, HA, HZ, HBW⟩ := hrel
    clear hz0 hy0 hb0
    by_cases hlt : k < 5
    · have hcall := code_ReadNum wr _ b ((8 * k : Nat) : Int) (HB.out.chg (Chg.of_below0 (S := fun _ => False) HBW.out) (fun _ _ _ h => h)) hm
      by_cases hok : 8 * k + 8 ≤ b.length
      · rw [nm_ok b k hok] at hcall
        have HCALL := hide hcall
        clear hcall
        go_wp2_with fail
        refine HCALL.out.mono ?_
        rintro e w2 ⟨rfl, rfl⟩
        have hf := free_of_heap HA.out k
        have hc : w2.cell? ⟨w.heap.size + 1, k, none⟩ = some (.int .i64 0) := (cell_of_heap HA.out k).trans (by simp [arrK, hlt])
        have hs := heap_setCell_same HA.out (i := k) (.int .i64 (nmAt b (8 * k : Nat)))
        have hs2 : w2.setCell ⟨w.heap.size + 1, k, none⟩ (.int .i64 (nmAt b (8 * k : Nat))) |>.heap[w.heap.size]? = some (.cells rqZ 27 (0, 0)) := (Chg.setCell w2 ⟨w.heap.size + 1, k, none⟩ _).heap HZ.out (fun h => by have h5 : w.heap.size = w.heap.size + 1 := h; omega)
        have HS := hide hs
        have HS2 := hide hs2
        clear hs hs2
        go_wp2_with fail
        go_roundw
        case rel =>
          refine ⟨k + 1, by omega, by go_num, by go_num, by omega, ?_, HS2.out, (HBW.out.setCell (by simp) _)⟩
          have h := HS.out
          have e : (arrK b k).setIfInBounds k (.int .i64 (nmAt b (8 * k : Nat))) = arrK b (k + 1) := by
            match k, hlt with
            | 0, _ => rfl
            | 1, _ => rfl
            | 2, _ => rfl
            | 3, _ => rfl
            | 4, _ => rfl
          rw [e] at h
          exact h
        case measure => simp [intOf]; omega
      · rw [nm_no b k hok] at hcall
        have HCALL := hide hcall
        clear hcall
        have f0 := free_of_heap HZ.out 0
        have g0 := cell_of_heap HZ.out 0
        have f1 := free_of_heap HZ.out 1
        have g1 := cell_of_heap HZ.out 1
        have f2 := free_of_heap HZ.out 2
        have g2 := cell_of_heap HZ.out 2
        have f3 := free_of_heap HZ.out 3
        have g3 := cell_of_heap HZ.out 3
        have f4 := free_of_heap HZ.out 4
        have g4 := cell_of_heap HZ.out 4
        have f5 := free_of_heap HZ.out 5
        have g5 := cell_of_heap HZ.out 5
        have f6 := free_of_heap HZ.out 6
        have g6 := cell_of_heap HZ.out 6
        have f7 := free_of_heap HZ.out 7
        have g7 := cell_of_heap HZ.out 7
        unfold rqZ at g0 g1 g2 g3 g4 g5 g6 g7
        simp at g0 g1 g2 g3 g4 g5 g6 g7
        go_wp2_with fail
        refine HCALL.out.mono ?_
        rintro e w2 ⟨rfl, rfl⟩
        go_wp2_with fail
        have hy := heap_setCell_same (heap_setCell_same (heap_setCell_same (heap_setCell_same (heap_setCell_same (heap_setCell_same (heap_setCell_same (heap_setCell_same (HZ.out) (i := 0) (.int .i64 0)) (i := 1) (.int .i64 0)) (i := 2) (.int .i64 0)) (i := 3) (.int .i64 0)) (i := 4) (.bool false)) (i := 5) (.slice none 0 0)) (i := 6) (.slice none 0 0)) (i := 7) (.string ⟨#[]⟩)
        simp only [Array.setIfInBounds, rqZ, List.size_toArray] at hy
        refine bodyPost_ret (results_cu rfl _ _ w.heap.size _ _ _ _ rfl hy Tryd.underlying27 rfl (by kernel_rfl)) rfl ?_
        exact ⟨((((((((HBW.out.setCell (Nat.le_refl _) _).setCell (Nat.le_refl _) _).setCell (Nat.le_refl _) _).setCell (Nat.le_refl _) _).setCell (Nat.le_refl _) _).setCell (Nat.le_refl _) _).setCell (Nat.le_refl _) _).setCell (Nat.le_refl _) _), .inl ⟨rd_none (by omega), rfl⟩⟩
    · obtain rfl : k = 5 := by omega
      have a0 := cell_of_heap HA.out 0
      have a1 := cell_of_heap HA.out 1
      have a2 := cell_of_heap HA.out 2
      have a3 := cell_of_heap HA.out 3
      have a4 := cell_of_heap HA.out 4
      simp [arrK, List.range_succ] at a0 a1 a2 a3 a4
      by_cases k1 : nmAt b 0 = 1
      · have z1 : (nmAt b 0 == 1) = true := by simp [k1]
        have hcand : candP b = some ⟨1, nmAt b 8, nmAt b 16, nmAt b 24, nmAt b 32 == 1, (rdCommit b 40).1⟩ := by rw [candP, if_pos (by omega), if_pos k1, k1]; rfl
        have hfew := rdCommit_few b 40
        have hb1 := HBW.out.alloc HBW.out.size (Obj.cells #[.int .i64 1, .int .i64 (nmAt b 8), .int .i64 (nmAt b 16), .int .i64 (nmAt b 24), .bool (nmAt b 32 == 1), .slice none 0 0, .slice none 0 0, .string ⟨#[]⟩] 27)
        have hc1 := heap_alloc_new wr (Obj.cells #[.int .i64 1, .int .i64 (nmAt b 8), .int .i64 (nmAt b 16), .int .i64 (nmAt b 24), .bool (nmAt b 32 == 1), .slice none 0 0, .slice none 0 0, .string ⟨#[]⟩] 27)
        have hcal := readCommit_ok (wr.alloc (Obj.cells #[.int .i64 1, .int .i64 (nmAt b 8), .int .i64 (nmAt b 16), .int .i64 (nmAt b 24), .bool (nmAt b 32 == 1), .slice none 0 0, .slice none 0 0, .string ⟨#[]⟩] 27)) _ b 40 (HB.out.chg (Chg.of_below0 (S := fun _ => False) hb1) (fun _ _ _ h => h)) hm
        generalize rdCommit b 40 = R at hcand hfew hcal
        have HCAND := hide hcand
        have HFEW := hide hfew.1
        have HNT := hide (show R.1.note.size ≤ 140737488351232 from Nat.le_trans hfew.2 hm)
        have HCAL := hide hcal
        have HB1 := hide hb1
        have HC1 := hide hc1
        have HZ1 := hide ((Chg.alloc (fun _ => False) wr (Obj.cells #[.int .i64 1, .int .i64 (nmAt b 8), .int .i64 (nmAt b 16), .int .i64 (nmAt b 24), .bool (nmAt b 32 == 1), .slice none 0 0, .slice none 0 0, .string ⟨#[]⟩] 27)).heap HZ.out (fun h => h))
        have HS1 := hide (show w.heap.size + 1 ≤ (wr.alloc (Obj.cells #[.int .i64 1, .int .i64 (nmAt b 8), .int .i64 (nmAt b 16), .int .i64 (nmAt b 24), .bool (nmAt b 32 == 1), .slice none 0 0, .slice none 0 0, .string ⟨#[]⟩] 27)).heap.size from by have h5 := HZ1.out; have h6 := (Array.getElem?_eq_some_iff.1 h5).1; omega)
        clear hcand hfew hcal hb1 hc1
        go_wp2_with fail
        refine HCAL.out.mono ?_
        rintro e w2 ⟨x, hx, rfl, hox, hb2⟩
        have HC2 := hide ((Chg.of_below0 (S := fun _ => False) hb2).heap HC1.out (fun h => h))
        have HZ2 := hide ((Chg.of_below0 (S := fun _ => False) hb2).heap HZ1.out (fun h => h))
        have HB2 := hide (HB1.out.trans (hb2.mono HB1.out.size))
        have HOX := hide hox
        obtain ⟨⟨xps, xts, xn⟩, xp, xt⟩ := x
        obtain ⟨R1, R2, R3⟩ := R
        simp only at hx HFEW HNT HCAND
        subst hx
        have HOX0 := hide HOX.out
        obtain ⟨px, qx, hpx⟩ := ownsRow_shape HOX.out.ps
        obtain ⟨pt, qt, hpt⟩ := ownsRow_shape HOX.out.ts
        simp only at hpx hpt
        subst hpx hpt
        unfold CmV.val
        have f5 := free_of_heap HC2.out 5
        have f6 := free_of_heap HC2.out 6
        have f7 := free_of_heap HC2.out 7
        have g5 := cell_of_heap HC2.out 5
        have g6 := cell_of_heap HC2.out 6
        have g7 := cell_of_heap HC2.out 7
        simp at g5 g6 g7 f5 f6 f7
        clear hb2 hox HC1 HZ1 HB1 HCAL
        have HC : Hid ((((w2.setCell ⟨wr.heap.size, 5, none⟩ (.slice px xps.length qx)).setCell ⟨wr.heap.size, 6, none⟩ (.slice pt xts.length qt)).setCell ⟨wr.heap.size, 7, none⟩ (.string xn)).heap[wr.heap.size]? = some (.cells #[.int .i64 1, .int .i64 (nmAt b 8), .int .i64 (nmAt b 16), .int .i64 (nmAt b 24), .bool (nmAt b 32 == 1), .slice px xps.length qx, .slice pt xts.length qt, .string xn] 27 (0, 0))) := heap_setCell_same (heap_setCell_same (heap_setCell_same HC2.out (i := 5) (.slice px xps.length qx)) (i := 6) (.slice pt xts.length qt)) (i := 7) (.string xn)
        have hch : Chg (fun k => k = wr.heap.size) w2 (((w2.setCell ⟨wr.heap.size, 5, none⟩ (.slice px xps.length qx)).setCell ⟨wr.heap.size, 6, none⟩ (.slice pt xts.length qt)).setCell ⟨wr.heap.size, 7, none⟩ (.string xn)) := ((Chg.setCell w2 ⟨wr.heap.size, 5, none⟩ (.slice px xps.length qx)).trans (Chg.setCell _ ⟨wr.heap.size, 6, none⟩ (.slice pt xts.length qt)) (S'' := fun k => k = wr.heap.size) (fun _ _ h => h) (fun _ _ h => h)).trans (Chg.setCell _ ⟨wr.heap.size, 7, none⟩ (.string xn)) (S'' := fun k => k = wr.heap.size) (fun _ _ h => h) (fun _ _ h => h)
        have hw1 : w.heap.size + 1 < wr.heap.size := (Array.getElem?_eq_some_iff.1 HA.out).1
        have HZ3 := hide (hch.heap HZ2.out (fun h => by have h5 : w.heap.size = wr.heap.size := h; omega))
        have HB3 := hide (HB2.out.trans (hch.below (n := w.heap.size) HB2.out.size (fun k hk h => by have h5 : k = wr.heap.size := h; omega)))
        have hox2 : Own w2 (wr.heap.size + 1) ⟨⟨xps, xts, xn⟩, .slice px xps.length qx, .slice pt xts.length qt⟩ := by
          have h5 := HOX0.out
          rw [World.size_alloc] at h5
          exact h5
        have HOW := hide ((hox2.chg hch (fun k hk _ h => by have h5 : k = wr.heap.size := h; omega)).base (show w.heap.size + 1 ≤ wr.heap.size + 1 by omega))
        obtain ⟨w3, hw3⟩ : ∃ w3, w3 = (((w2.setCell ⟨wr.heap.size, 5, none⟩ (.slice px xps.length qx)).setCell ⟨wr.heap.size, 6, none⟩ (.slice pt xts.length qt)).setCell ⟨wr.heap.size, 7, none⟩ (.string xn)) := ⟨_, rfl⟩
        have HAT := hide HOW.out.at
        have HMX := hide (HM.out.below HB3.out HM.out.pos)
        rw [← hw3] at HC HZ3 HB3 HOW HAT HMX
        clear hch hw1 hox2 HOX HOX0 HC2 HZ2 HB2
        go_upto_region 14 with (fail)
        rw [← hw3]
        clear hw3 f5 f6 f7 g5 g6 g7 HA HZ HBW HS1
        have HCALL := hide (request_Lay w3 ⟨1, nmAt b 8, nmAt b 16, nmAt b 24, nmAt b 32 == 1, ⟨⟨xps, xts, xn⟩, .slice px xps.length qx, .slice pt xts.length qt⟩⟩ HAT.out HFEW.out HNT.out HMX.out)
        have HCB := hide HB3.out.size
        clear HMX HNT HFEW
        unfold RqV.val at HCALL
        simp only at HCALL
        have d0 := cell_of_heap HC.out 0
        have d1 := cell_of_heap HC.out 1
        have d2 := cell_of_heap HC.out 2
        have d3 := cell_of_heap HC.out 3
        have d4 := cell_of_heap HC.out 4
        have d5 := cell_of_heap HC.out 5
        have d6 := cell_of_heap HC.out 6
        have d7 := cell_of_heap HC.out 7
        simp at d0 d1 d2 d3 d4 d5 d6 d7
        go_wp2_with fail
        refine HCALL.out.mono ?_
        rintro e w4 ⟨hb4, hres⟩
        have HB4 := hide (HB3.out.trans (hb4.mono HB3.out.size))
        have HC4 := hide ((Chg.of_below0 (S := fun _ => False) hb4).heap HC.out (fun h => h))
        have HZ4 := hide ((Chg.of_below0 (S := fun _ => False) hb4).heap HZ3.out (fun h => h))
        have HO4 := hide (HOW.out.chg (Chg.of_below0 (S := fun _ => False) hb4) (fun _ _ _ h => h))
        have HRd4 := hide (HB.out.chg (Chg.of_below0 (S := fun _ => False) HB4.out) (fun _ _ _ h => h))
        clear hb4 HCALL d0 d1 d2 d3 d4 d5 d6 d7 HC HZ3 HOW HB3
        have f0 := free_of_heap HZ4.out 0
        have g0 := cell_of_heap HZ4.out 0
        have f1 := free_of_heap HZ4.out 1
        have g1 := cell_of_heap HZ4.out 1
        have f2 := free_of_heap HZ4.out 2
        have g2 := cell_of_heap HZ4.out 2
        have f3 := free_of_heap HZ4.out 3
        have g3 := cell_of_heap HZ4.out 3
        have f4 := free_of_heap HZ4.out 4
        have g4 := cell_of_heap HZ4.out 4
        have f5 := free_of_heap HZ4.out 5
        have g5 := cell_of_heap HZ4.out 5
        have f6 := free_of_heap HZ4.out 6
        have g6 := cell_of_heap HZ4.out 6
        have f7 := free_of_heap HZ4.out 7
        have g7 := cell_of_heap HZ4.out 7
        unfold rqZ at g0 g1 g2 g3 g4 g5 g6 g7
        simp at g0 g1 g2 g3 g4 g5 g6 g7
        rcases hres with ⟨hno, rfl⟩ | ⟨hyes, ao, cap, rfl, hown⟩
        · have hr : rdRq b = none := rd_may HCAND.out hno
          have HR := hide hr
          clear hr hno
          go_wp2_with fail
          have hy := heap_setCell_same (heap_setCell_same (heap_setCell_same (heap_setCell_same (heap_setCell_same (heap_setCell_same (heap_setCell_same (heap_setCell_same (HZ4.out) (i := 0) (.int .i64 0)) (i := 1) (.int .i64 0)) (i := 2) (.int .i64 0)) (i := 3) (.int .i64 0)) (i := 4) (.bool false)) (i := 5) (.slice none 0 0)) (i := 6) (.slice none 0 0)) (i := 7) (.string ⟨#[]⟩)
          simp only [Array.setIfInBounds, rqZ, List.size_toArray] at hy
          refine bodyPost_ret (results_cu rfl _ _ w.heap.size _ _ _ _ rfl hy Tryd.underlying27 rfl (by kernel_rfl)) rfl ?_
          exact ⟨((((((((HB4.out.setCell (Nat.le_refl _) _).setCell (Nat.le_refl _) _).setCell (Nat.le_refl _) _).setCell (Nat.le_refl _) _).setCell (Nat.le_refl _) _).setCell (Nat.le_refl _) _).setCell (Nat.le_refl _) _).setCell (Nat.le_refl _) _), .inl ⟨HR.out, rfl⟩⟩
        · have HOWN := hide hown
          have hq := bytes_Equal w4 _ _ _ _ (Rd.of_owns hown) HRd4.out
          have HQ := hide hq
          obtain ⟨eqb, heqb⟩ : ∃ eqb, eqb = (layRq (RqV.r ⟨1, nmAt b 8, nmAt b 16, nmAt b 24, nmAt b 32 == 1, ⟨⟨xps, xts, xn⟩, .slice px xps.length qx, .slice pt xts.length qt⟩⟩) == b) := ⟨_, rfl⟩
          rw [← heqb] at HQ
          have HE := hide heqb
          clear hown hq heqb
          have HY := hide hyes
          clear hyes
          cases eqb with
          | false =>
            have hr : rdRq b = none := rd_other HCAND.out HE.out.symm
            have HR := hide hr
            clear hr
            go_wp2_with fail
            refine HQ.out.mono ?_
            rintro e w5 ⟨rfl, rfl⟩
            go_wp2_with fail
            have hy := heap_setCell_same (heap_setCell_same (heap_setCell_same (heap_setCell_same (heap_setCell_same (heap_setCell_same (heap_setCell_same (heap_setCell_same (HZ4.out) (i := 0) (.int .i64 0)) (i := 1) (.int .i64 0)) (i := 2) (.int .i64 0)) (i := 3) (.int .i64 0)) (i := 4) (.bool false)) (i := 5) (.slice none 0 0)) (i := 6) (.slice none 0 0)) (i := 7) (.string ⟨#[]⟩)
            simp only [Array.setIfInBounds, rqZ, List.size_toArray] at hy
            refine bodyPost_ret (results_cu rfl _ _ w.heap.size _ _ _ _ rfl hy Tryd.underlying27 rfl (by kernel_rfl)) rfl ?_
            exact ⟨((((((((HB4.out.setCell (Nat.le_refl _) _).setCell (Nat.le_refl _) _).setCell (Nat.le_refl _) _).setCell (Nat.le_refl _) _).setCell (Nat.le_refl _) _).setCell (Nat.le_refl _) _).setCell (Nat.le_refl _) _).setCell (Nat.le_refl _) _), .inl ⟨HR.out, rfl⟩⟩
          | true =>
            have hr : rdRq b = some (RqV.r ⟨1, nmAt b 8, nmAt b 16, nmAt b 24, nmAt b 32 == 1, ⟨⟨xps, xts, xn⟩, .slice px xps.length qx, .slice pt xts.length qt⟩⟩) := rd_yes HY.out HE.out.symm
            have HR := hide hr
            clear hr
            have d0 := cell_of_heap HC4.out 0
            have d1 := cell_of_heap HC4.out 1
            have d2 := cell_of_heap HC4.out 2
            have d3 := cell_of_heap HC4.out 3
            have d4 := cell_of_heap HC4.out 4
            have d5 := cell_of_heap HC4.out 5
            have d6 := cell_of_heap HC4.out 6
            have d7 := cell_of_heap HC4.out 7
            simp at d0 d1 d2 d3 d4 d5 d6 d7
            go_wp2_with fail
            refine HQ.out.mono ?_
            rintro e w5 ⟨rfl, rfl⟩
            go_wp2_with fail
            have hy := heap_setCell_same (heap_setCell_same (heap_setCell_same (heap_setCell_same (heap_setCell_same (heap_setCell_same (heap_setCell_same (heap_setCell_same (HZ4.out) (i := 0) (.int .i64 1)) (i := 1) (.int .i64 (nmAt b 8))) (i := 2) (.int .i64 (nmAt b 16))) (i := 3) (.int .i64 (nmAt b 24))) (i := 4) (.bool (nmAt b 32 == 1))) (i := 5) (.slice px xps.length qx)) (i := 6) (.slice pt xts.length qt)) (i := 7) (.string xn)
            simp only [Array.setIfInBounds, rqZ, List.size_toArray] at hy
            refine bodyPost_ret (results_cu rfl _ _ w.heap.size _ _ _ _ rfl hy Tryd.underlying27 rfl (by kernel_rfl)) rfl ?_
            refine ⟨((((((((HB4.out.setCell (Nat.le_refl _) _).setCell (Nat.le_refl _) _).setCell (Nat.le_refl _) _).setCell (Nat.le_refl _) _).setCell (Nat.le_refl _) _).setCell (Nat.le_refl _) _).setCell (Nat.le_refl _) _).setCell (Nat.le_refl _) _), .inr ⟨⟨1, nmAt b 8, nmAt b 16, nmAt b 24, nmAt b 32 == 1, ⟨⟨xps, xts, xn⟩, .slice px xps.length qx, .slice pt xts.length qt⟩⟩, HR.out, rfl, ?_⟩⟩
            exact Own.base (own_sets HO4.out _ _ _ _ _ _ _ _) (Nat.le_succ _)
      · have z1 : (nmAt b 0 == 1) = false := by simp [k1]
        have hcand : candP b = some ⟨nmAt b 0, nmAt b 8, nmAt b 16, nmAt b 24, nmAt b 32 == 1, cmZ⟩ := by rw [candP, if_pos (by omega), if_neg k1]; rfl
        have hb1 := HBW.out.alloc HBW.out.size (Obj.cells #[.int .i64 (nmAt b 0), .int .i64 (nmAt b 8), .int .i64 (nmAt b 16), .int .i64 (nmAt b 24), .bool (nmAt b 32 == 1), .slice none 0 0, .slice none 0 0, .string ⟨#[]⟩] 27)
        have hc1 := heap_alloc_new wr (Obj.cells #[.int .i64 (nmAt b 0), .int .i64 (nmAt b 8), .int .i64 (nmAt b 16), .int .i64 (nmAt b 24), .bool (nmAt b 32 == 1), .slice none 0 0, .slice none 0 0, .string ⟨#[]⟩] 27)
        have HCAND := hide hcand
        have HB3 := hide hb1
        have HC := hide hc1
        have HZ3 := hide ((Chg.alloc (fun _ => False) wr (Obj.cells #[.int .i64 (nmAt b 0), .int .i64 (nmAt b 8), .int .i64 (nmAt b 16), .int .i64 (nmAt b 24), .bool (nmAt b 32 == 1), .slice none 0 0, .slice none 0 0, .string ⟨#[]⟩] 27)).heap HZ.out (fun h => h))
        obtain ⟨w3, hw3⟩ : ∃ w3, w3 = wr.alloc (Obj.cells #[.int .i64 (nmAt b 0), .int .i64 (nmAt b 8), .int .i64 (nmAt b 16), .int .i64 (nmAt b 24), .bool (nmAt b 32 == 1), .slice none 0 0, .slice none 0 0, .string ⟨#[]⟩] 27) := ⟨_, rfl⟩
        have HOW : Hid (Own w3 (w.heap.size + 1) ⟨cmZ, .slice none 0 0, .slice none 0 0⟩) := hide ⟨World.ownsRow_nil _ _ _ _, World.ownsRow_nil _ _ _ _⟩
        have HAT := hide HOW.out.at
        have HFEW : Hid (Few cmZ) := hide ⟨Nat.zero_le _, Nat.zero_le _⟩
        have HNT : Hid (cmZ.note.size ≤ 140737488351232) := hide (Nat.zero_le _)
        have HMX := hide (HM.out.below (hw3 ▸ HB3.out) HM.out.pos)
        clear hcand hb1 hc1
        go_upto_region 14 with (fail)
        rw [← hw3] at HB3 HC HZ3 ⊢
        clear hw3
        have HCALL := hide (request_Lay w3 ⟨nmAt b 0, nmAt b 8, nmAt b 16, nmAt b 24, nmAt b 32 == 1, ⟨cmZ, .slice none 0 0, .slice none 0 0⟩⟩ HAT.out HFEW.out HNT.out HMX.out)
        have HCB := hide HB3.out.size
        clear HMX HNT HFEW
        unfold RqV.val at HCALL
        simp only at HCALL
        have d0 := cell_of_heap HC.out 0
        have d1 := cell_of_heap HC.out 1
        have d2 := cell_of_heap HC.out 2
        have d3 := cell_of_heap HC.out 3
        have d4 := cell_of_heap HC.out 4
        have d5 := cell_of_heap HC.out 5
        have d6 := cell_of_heap HC.out 6
        have d7 := cell_of_heap HC.out 7
        simp at d0 d1 d2 d3 d4 d5 d6 d7
        go_wp2_with fail
        refine HCALL.out.mono ?_
        rintro e w4 ⟨hb4, hres⟩
        have HB4 := hide (HB3.out.trans (hb4.mono HB3.out.size))
        have HC4 := hide ((Chg.of_below0 (S := fun _ => False) hb4).heap HC.out (fun h => h))
        have HZ4 := hide ((Chg.of_below0 (S := fun _ => False) hb4).heap HZ3.out (fun h => h))
        have HO4 := hide (HOW.out.chg (Chg.of_below0 (S := fun _ => False) hb4) (fun _ _ _ h => h))
        have HRd4 := hide (HB.out.chg (Chg.of_below0 (S := fun _ => False) HB4.out) (fun _ _ _ h => h))
        clear hb4 HCALL d0 d1 d2 d3 d4 d5 d6 d7 HC HZ3 HOW HB3
        have f0 := free_of_heap HZ4.out 0
        have g0 := cell_of_heap HZ4.out 0
        have f1 := free_of_heap HZ4.out 1
        have g1 := cell_of_heap HZ4.out 1
        have f2 := free_of_heap HZ4.out 2
        have g2 := cell_of_heap HZ4.out 2
        have f3 := free_of_heap HZ4.out 3
        have g3 := cell_of_heap HZ4.out 3
        have f4 := free_of_heap HZ4.out 4
        have g4 := cell_of_heap HZ4.out 4
        have f5 := free_of_heap HZ4.out 5
        have g5 := cell_of_heap HZ4.out 5
        have f6 := free_of_heap HZ4.out 6
        have g6 := cell_of_heap HZ4.out 6
        have f7 := free_of_heap HZ4.out 7
        have g7 := cell_of_heap HZ4.out 7
        unfold rqZ at g0 g1 g2 g3 g4 g5 g6 g7
        simp at g0 g1 g2 g3 g4 g5 g6 g7
        rcases hres with ⟨hno, rfl⟩ | ⟨hyes, ao, cap, rfl, hown⟩
        · have hr : rdRq b = none := rd_may HCAND.out hno
          have HR := hide hr
          clear hr hno
          go_wp2_with fail
          have hy := heap_setCell_same (heap_setCell_same (heap_setCell_same (heap_setCell_same (heap_setCell_same (heap_setCell_same (heap_setCell_same (heap_setCell_same (HZ4.out) (i := 0) (.int .i64 0)) (i := 1) (.int .i64 0)) (i := 2) (.int .i64 0)) (i := 3) (.int .i64 0)) (i := 4) (.bool false)) (i := 5) (.slice none 0 0)) (i := 6) (.slice none 0 0)) (i := 7) (.string ⟨#[]⟩)
          simp only [Array.setIfInBounds, rqZ, List.size_toArray] at hy
          refine bodyPost_ret (results_cu rfl _ _ w.heap.size _ _ _ _ rfl hy Tryd.underlying27 rfl (by kernel_rfl)) rfl ?_
          exact ⟨((((((((HB4.out.setCell (Nat.le_refl _) _).setCell (Nat.le_refl _) _).setCell (Nat.le_refl _) _).setCell (Nat.le_refl _) _).setCell (Nat.le_refl _) _).setCell (Nat.le_refl _) _).setCell (Nat.le_refl _) _).setCell (Nat.le_refl _) _), .inl ⟨HR.out, rfl⟩⟩
        · have HOWN := hide hown
          have hq := bytes_Equal w4 _ _ _ _ (Rd.of_owns hown) HRd4.out
          have HQ := hide hq
          obtain ⟨eqb, heqb⟩ : ∃ eqb, eqb = (layRq (RqV.r ⟨nmAt b 0, nmAt b 8, nmAt b 16, nmAt b 24, nmAt b 32 == 1, ⟨cmZ, .slice none 0 0, .slice none 0 0⟩⟩) == b) := ⟨_, rfl⟩
          rw [← heqb] at HQ
          have HE := hide heqb
          clear hown hq heqb
          have HY := hide hyes
          clear hyes
          cases eqb with
          | false =>
            have hr : rdRq b = none := rd_other HCAND.out HE.out.symm
            have HR := hide hr
            clear hr
            go_wp2_with fail
            refine HQ.out.mono ?_
            rintro e w5 ⟨rfl, rfl⟩
            go_wp2_with fail
            have hy := heap_setCell_same (heap_setCell_same (heap_setCell_same (heap_setCell_same (heap_setCell_same (heap_setCell_same (heap_setCell_same (heap_setCell_same (HZ4.out) (i := 0) (.int .i64 0)) (i := 1) (.int .i64 0)) (i := 2) (.int .i64 0)) (i := 3) (.int .i64 0)) (i := 4) (.bool false)) (i := 5) (.slice none 0 0)) (i := 6) (.slice none 0 0)) (i := 7) (.string ⟨#[]⟩)
            simp only [Array.setIfInBounds, rqZ, List.size_toArray] at hy
            refine bodyPost_ret (results_cu rfl _ _ w.heap.size _ _ _ _ rfl hy Tryd.underlying27 rfl (by kernel_rfl)) rfl ?_
            exact ⟨((((((((HB4.out.setCell (Nat.le_refl _) _).setCell (Nat.le_refl _) _).setCell (Nat.le_refl _) _).setCell (Nat.le_refl _) _).setCell (Nat.le_refl _) _).setCell (Nat.le_refl _) _).setCell (Nat.le_refl _) _).setCell (Nat.le_refl _) _), .inl ⟨HR.out, rfl⟩⟩
          | true =>
            have hr : rdRq b = some (RqV.r ⟨nmAt b 0, nmAt b 8, nmAt b 16, nmAt b 24, nmAt b 32 == 1, ⟨cmZ, .slice none 0 0, .slice none 0 0⟩⟩) := rd_yes HY.out HE.out.symm
            have HR := hide hr
            clear hr
            have d0 := cell_of_heap HC4.out 0
            have d1 := cell_of_heap HC4.out 1
            have d2 := cell_of_heap HC4.out 2
            have d3 := cell_of_heap HC4.out 3
            have d4 := cell_of_heap HC4.out 4
            have d5 := cell_of_heap HC4.out 5
            have d6 := cell_of_heap HC4.out 6
            have d7 := cell_of_heap HC4.out 7
            simp at d0 d1 d2 d3 d4 d5 d6 d7
            go_wp2_with fail
            refine HQ.out.mono ?_
            rintro e w5 ⟨rfl, rfl⟩
            go_wp2_with fail
            have hy := heap_setCell_same (heap_setCell_same (heap_setCell_same (heap_setCell_same (heap_setCell_same (heap_setCell_same (heap_setCell_same (heap_setCell_same (HZ4.out) (i := 0) (.int .i64 (nmAt b 0))) (i := 1) (.int .i64 (nmAt b 8))) (i := 2) (.int .i64 (nmAt b 16))) (i := 3) (.int .i64 (nmAt b 24))) (i := 4) (.bool (nmAt b 32 == 1))) (i := 5) (.slice none 0 0)) (i := 6) (.slice none 0 0)) (i := 7) (.string cmZ.note)
            simp only [Array.setIfInBounds, rqZ, List.size_toArray] at hy
            refine bodyPost_ret (results_cu rfl _ _ w.heap.size _ _ _ _ rfl hy Tryd.underlying27 rfl (by kernel_rfl)) rfl ?_
            refine ⟨((((((((HB4.out.setCell (Nat.le_refl _) _).setCell (Nat.le_refl _) _).setCell (Nat.le_refl _) _).setCell (Nat.le_refl _) _).setCell (Nat.le_refl _) _).setCell (Nat.le_refl _) _).setCell (Nat.le_refl _) _).setCell (Nat.le_refl _) _), .inr ⟨⟨nmAt b 0, nmAt b 8, nmAt b 16, nmAt b 24, nmAt b 32 == 1, ⟨cmZ, .slice none 0 0, .slice none 0 0⟩⟩, HR.out, rfl, ?_⟩⟩
            exact Own.base (own_sets HO4.out _ _ _ _ _ _ _ _) (Nat.le_succ _)
end Go.Proofs.YtjmmmpnpkialjaaDoor
