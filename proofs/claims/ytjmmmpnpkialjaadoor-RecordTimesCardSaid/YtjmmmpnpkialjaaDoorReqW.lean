/- Requests: awake. Conditions: none. -/
import Derived.Test.YtjmmmpnpkialjaaDoorReqD
import Derived.Test.YtjmmmpnpkialjaaDoorReqS
import Derived.Test.YtjmmmpnpkialjaaDoorCodeRef
import Derived.Deep.CutRange
namespace Go.Proofs.YtjmmmpnpkialjaaDoor
open Go.RowKit Go.Shelf
attribute [local go_sem] Oper.semAt_some

/-- A request with no commit, as it lies in cells. -/
def qz (k i n l : Int) (p : Bool) : RqV := ⟨k, i, n, l, p, ⟨cmZ, .slice none 0 0, .slice none 0 0⟩⟩
def rz (k i n l : Int) (p : Bool) : Rq := ⟨k, i, n, l, p, cmZ⟩
theorem cmZ_at (w : World) : CmAt w ⟨cmZ, .slice none 0 0, .slice none 0 0⟩ := ⟨Rd.nil _, Rd.nil _, fun _ h _ => (by cases h), fun _ h _ => (by cases h)⟩
theorem cmZ_few : Few cmZ := ⟨Nat.zero_le _, Nat.zero_le _⟩
theorem aw_may : mayRq (rz 6 1 2 0 false) = true := by rfl
theorem aw_may0 : mayRq (rz 0 0 0 0 false) = false := by rfl
theorem aw_len : (layRq (rz 6 1 2 0 false)).length = 40 := by rfl
theorem aw_7 : (u8s (layRq (rz 6 1 2 0 false)))[7]? = some (.int .u8 6) := by rfl
theorem aw_23 : (u8s (layRq (rz 6 1 2 0 false)))[23]? = some (.int .u8 2) := by rfl
theorem aw_read : rdRq (layRq (rz 6 1 2 0 false)) = some (rz 6 1 2 0 false) := rdRq_some.2 ⟨aw_may, rfl⟩
theorem own_few {r : Rq} (h : mayRq r = true) : Few r.c ∧ r.c.note.size ≤ 140737488351232 := by
  have hs := mayRq_small h
  by_cases hk : r.kind = 1
  · have h1 := hs.push hk
    exact ⟨⟨Nat.le_trans h1.ps (by decide), Nat.le_trans h1.ts (by decide)⟩, Nat.le_trans h1.nt (by decide)⟩
  · rw [hs.other hk]
    exact ⟨cmZ_few, Nat.zero_le _⟩
theorem rd_few {b : List UInt8} {r : Rq} (h : rdRq b = some r) : Few r.c ∧ r.c.note.size ≤ 140737488351232 := own_few (rdRq_some.1 h).1
set_option maxHeartbeats 4000000 in
set_option maxRecDepth 100000 in
theorem awake17 (w : World) (hM : Mx w) : Calls Tryd.prog 11 #[] w fun e w' => e = .returned (.bool true) ∧ Below w.heap.size w w' := by
  have HM := hide hM
  clear hM
  have hcall := request_Lay w (qz 6 1 2 0 false) (cmZ_at w) cmZ_few (Nat.zero_le _) HM.out
  have hqr : RqV.r (qz 6 1 2 0 false) = rz 6 1 2 0 false := rfl
  have hqv : RqV.val (qz 6 1 2 0 false) = .agg #[.int .i64 6, .int .i64 1, .int .i64 2, .int .i64 0, .bool false, .slice none 0 0, .slice none 0 0, .string cmZ.note] := rfl
  rw [hqr, hqv] at hcall
  have HCALL := hide hcall
  clear hcall hqr hqv
  go_enter Tryd.func11, Tryd.ntmps11
  go_wp2_with fail
  refine HCALL.out.mono ?_
  rintro e w1 ⟨hb1, ⟨h, -⟩ | ⟨-, ao, cap, rfl, ho⟩⟩
  · rw [aw_may] at h; cases h
  have HB1 := hide hb1
  have HO1 := hide ho
  rw [aw_len]
  obtain ⟨blk, off, rfl, hcs⟩ := rd_at (Rd.of_owns ho) (by rw [aw_len]; decide)
  have t7 := hcs 7 _ aw_7
  have t23 := hcs 23 _ aw_23
  have hrd := hide (request_Read w1 _ (layRq (rz 6 1 2 0 false)) (Rd.of_owns ho) (by rw [aw_len]; decide) (HM.out.below hb1 HM.out.pos))
  have hcap := ownsRow_cap ho
  rw [aw_len] at hrd hcap
  clear hb1 ho hcs HCALL
  go_wp2_with fail
  refine hrd.out.mono ?_
  rintro e w2 ⟨hb2, ⟨h, -⟩ | ⟨q, h, rfl, hown⟩⟩
  · rw [aw_read] at h; cases h
  have hq : q.r = rz 6 1 2 0 false := Option.some.inj (h.symm.trans aw_read)
  obtain ⟨k, i, n, l, ps, ⟨c, vp, vt⟩⟩ := q
  simp only [RqV.r, rz, Rq.mk.injEq] at hq
  obtain ⟨rfl, rfl, rfl, rfl, rfl, rfl⟩ := hq
  obtain ⟨px, qx, hpx⟩ := ownsRow_shape hown.ps
  obtain ⟨pt, qt, hpt⟩ := ownsRow_shape hown.ts
  simp only at hpx hpt
  subst hpx hpt
  have HB2 := hide (HB1.out.trans (hb2.mono HB1.out.size))
  have hb3 := HB2.out.alloc HB2.out.size (Obj.cells #[.int .i64 6, .int .i64 1, .int .i64 2, .int .i64 0, .bool false, .slice px cmZ.parents.length qx, .slice pt cmZ.tree.length qt, .string cmZ.note] 27)
  have hh := heap_alloc_new w2 (Obj.cells #[.int .i64 6, .int .i64 1, .int .i64 2, .int .i64 0, .bool false, .slice px cmZ.parents.length qx, .slice pt cmZ.tree.length qt, .string cmZ.note] 27)
  have hat := hown.at.same (Chg.alloc (fun _ => False) w2 (Obj.cells #[.int .i64 6, .int .i64 1, .int .i64 2, .int .i64 0, .bool false, .slice px cmZ.parents.length qx, .slice pt cmZ.tree.length qt, .string cmZ.note] 27))
  obtain ⟨p2, hp2⟩ : ∃ p2, p2 = w2.heap.size := ⟨_, rfl⟩
  obtain ⟨w3, hw3⟩ : ∃ w3, w3 = w2.alloc (Obj.cells #[.int .i64 6, .int .i64 1, .int .i64 2, .int .i64 0, .bool false, .slice px cmZ.parents.length qx, .slice pt cmZ.tree.length qt, .string cmZ.note] 27) := ⟨_, rfl⟩
  rw [← hw3] at hb3 hh hat
  rw [← hp2] at hh
  have HB3 := hide hb3
  have HAT := hide hat
  have HP2 := hide hp2
  have HW3 := hide hw3
  unfold RqV.val
  clear hb2 h hown hb3 hat hp2 hw3 HO1 hrd t7 t23 hcap
  go_upto_region 5 with (fail)
  rw [← HW3.out, ← HP2.out]
  clear HW3 HP2
  have c0 := cell_of_heap hh 0
  have c1 := cell_of_heap hh 1
  have c2 := cell_of_heap hh 2
  have c3 := cell_of_heap hh 3
  have c4 := cell_of_heap hh 4
  have c5 := cell_of_heap hh 5
  have c6 := cell_of_heap hh 6
  have c7 := cell_of_heap hh 7
  have HH := hide hh
  simp at c0 c1 c2 c3 c4 c5 c6 c7
  clear hh
  go_wp2_with fail
  refine (law_SameRequest w3 ⟨6, 1, 2, 0, false, ⟨cmZ, .slice px cmZ.parents.length qx, .slice pt cmZ.tree.length qt⟩⟩ (qz 6 1 2 0 false) HAT.out (cmZ_at _) cmZ_few cmZ_few).mono ?_
  rintro e w4 ⟨rfl, hb4⟩
  rw [show rqEq (RqV.r ⟨6, 1, 2, 0, false, ⟨cmZ, .slice px cmZ.parents.length qx, .slice pt cmZ.tree.length qt⟩⟩) (RqV.r (qz 6 1 2 0 false)) = true from rqEq_refl _]
  have HB4 := hide (HB3.out.trans (hb4.mono HB3.out.size))
  replace HH := hide ((Chg.of_below0 (S := fun _ => False) hb4).heap HH.out (fun h => h))
  replace HAT := hide (HAT.out.same (Chg.of_below0 hb4))
  clear hb4 c0 c1 c2 c3 c4 c5 c6 c7
  go_wp2_with fail
  refine (request_May w4 (qz 0 0 0 0 false) (cmZ_at _) cmZ_few (Nat.zero_le _) (HM.out.below HB4.out HM.out.pos)).mono ?_
  rintro e w5 ⟨rfl, hb5⟩
  rw [show mayRq (RqV.r (qz 0 0 0 0 false)) = false from aw_may0]
  have HB5 := hide (HB4.out.trans (hb5.mono HB4.out.size))
  replace HH := hide ((Chg.of_below0 (S := fun _ => False) hb5).heap HH.out (fun h => h))
  replace HAT := hide (HAT.out.same (Chg.of_below0 hb5))
  clear hb5
  have c0 := cell_of_heap HH.out 0
  have c1 := cell_of_heap HH.out 1
  have c2 := cell_of_heap HH.out 2
  have c3 := cell_of_heap HH.out 3
  have c4 := cell_of_heap HH.out 4
  have c5 := cell_of_heap HH.out 5
  have c6 := cell_of_heap HH.out 6
  have c7 := cell_of_heap HH.out 7
  simp at c0 c1 c2 c3 c4 c5 c6 c7
  go_wp2_with fail
  refine (request_Same w5 ⟨6, 1, 2, 0, false, ⟨cmZ, .slice px cmZ.parents.length qx, .slice pt cmZ.tree.length qt⟩⟩ ⟨6, 1, 2, 0, false, ⟨cmZ, .slice px cmZ.parents.length qx, .slice pt cmZ.tree.length qt⟩⟩ HAT.out HAT.out cmZ_few cmZ_few).mono ?_
  rintro e w6 ⟨rfl, hb6⟩
  rw [show rqEq (RqV.r ⟨6, 1, 2, 0, false, ⟨cmZ, .slice px cmZ.parents.length qx, .slice pt cmZ.tree.length qt⟩⟩) (RqV.r ⟨6, 1, 2, 0, false, ⟨cmZ, .slice px cmZ.parents.length qx, .slice pt cmZ.tree.length qt⟩⟩) = true from rqEq_refl _]
  have HB6 := hide (HB5.out.trans (hb6.mono HB5.out.size))
  clear hb6
  go_wp2_with fail
  go_ret
  exact ⟨rfl, HB6.out⟩
end Go.Proofs.YtjmmmpnpkialjaaDoor
