/- Repos: awake. Conditions: none. -/
import Derived.Test.YtnnkbicaokckbaaDoorRpA
namespace Go.Proofs.YtnnkbicaokckbaaDoor
open Go.RowKit Go.Shelf

def cm1 : Cm := ⟨[1], [], ByteArray.empty⟩
theorem cm_ee : cmEq cm0 cm0 = true := (cmEq_iff _ _).2 rfl
theorem cm_may0 : mayC cm0 = true := by rfl
theorem cm_has : hasC [cm0] cm0 = true := by simp [hasC, cm_ee]
theorem cm_idx (l : List Cm) : idxF (fun x => cmEq x cm0) (cm0 :: l) = 0 := by simp [idxF, cm_ee, List.findIdx_cons]
theorem aw_1 : addR (cms []) 3 cm0 = (1, 0) := by rfl
theorem aw_2 : addL (cms []) 3 cm0 = [cm0] := by rfl
theorem aw_3 : addR [cm0] 3 cm0 = (1, 0) := by
  have h : cm0.parents.any (badP [cm0].length) = false := rfl
  rw [addR, cm_may0, h, cm_has, cm_idx]; rfl
theorem aw_4 : addL [cm0] 3 cm0 = [cm0] := by
  have h : cm0.parents.any (badP [cm0].length) = false := rfl
  rw [addL, cm_may0, h, cm_has]; rfl
theorem aw_5 : addR [cm0] 3 cm1 = (2, 0) := by rfl
theorem aw_6 : addL [cm0] 3 cm1 = [cm0, cm1] := by rfl
theorem aw_7 : idxF (fun x => cmEq x cm0) [cm0, cm1] + 1 = 1 := by rw [cm_idx]; rfl
theorem cm0_few : Few cm0 := ⟨by decide, by decide⟩
theorem cm1_few : Few cm1 := ⟨by decide, by decide⟩
set_option maxHeartbeats 1000000 in
set_option maxRecDepth 100000 in
theorem awake10 (w : World) (hM : Mx w) : Calls Tryd.prog 16 #[] w fun e w' => e = .returned (.bool true) ∧ Below w.heap.size w w' := by
  have HM := hide hM
  clear hM
  go_enter Tryd.func16, Tryd.ntmps16
  go_wp2_with fail
  refine (RepoIs.new w 3 (by omega)).mono ?_
  rintro e w1 ⟨rfl, h1, hb1⟩
  have h3 : min (max (3 : Int) 0) 120 = 3 := by decide
  rw [h3] at h1
  have H1 := hide h1
  have HB1 := hide hb1
  clear h1 hb1 h3
  go_wp2_with fail
  refine (H1.out.add (HM.out.below HB1.out HM.out.pos) cv0 (cv0_at _) cm0_few (by decide)).mono ?_
  rintro e w2 ⟨rfl, h2, hb2⟩
  have e1 : addR [] 3 cv0.c = (1, 0) := aw_1
  have e2 : addL [] 3 cv0.c = [cm0] := aw_2
  rw [e2] at h2
  rw [e1]
  have H2 := hide h2
  have HB2 := hide (HB1.out.trans hb2)
  clear h2 hb2 e1 e2
  go_wp2_with fail
  refine (H2.out.add (HM.out.below HB2.out HM.out.pos) cv0 (cv0_at _) cm0_few (by decide)).mono ?_
  rintro e w3 ⟨rfl, h3, hb3⟩
  have e1 : addR [cm0] 3 cv0.c = (1, 0) := aw_3
  have e2 : addL [cm0] 3 cv0.c = [cm0] := aw_4
  rw [e2] at h3
  rw [e1]
  have HB3 := hide (HB2.out.trans hb3)
  have hal := Chg.alloc (fun _ => False) w3 (.cells #[.int .i64 1] 3)
  have H4 := hide (h3.same hal)
  have hrl := Rd_lit w3 #[.int .i64 1] 3 1
  have HB4 := hide (HB3.out.alloc HB3.out.size (.cells #[.int .i64 1] 3))
  have HY := hide (show CmAt (w3.alloc (.cells #[.int .i64 1] 3)) ⟨cm1, .slice (some ⟨w3.heap.size, 0, none⟩) 1 1, .slice none 0 0⟩ from ⟨hrl, Rd.nil _, fun b hb _ => (by cases hb; simp), fun _ h _ => (by cases h)⟩)
  clear h3 hb3 e1 e2 hal hrl
  go_wp2_with fail
  refine (H4.out.add (HM.out.below HB4.out HM.out.pos) ⟨cm1, .slice (some ⟨w3.heap.size, 0, none⟩) 1 1, .slice none 0 0⟩ HY.out cm1_few (by decide)).mono ?_
  rintro e w5 ⟨rfl, h5, hb5⟩
  rw [show addL [cm0] 3 (CmV.c ⟨cm1, .slice (some ⟨w3.heap.size, 0, none⟩) 1 1, .slice none 0 0⟩) = [cm0, cm1] from aw_6] at h5
  rw [show addR [cm0] 3 (CmV.c ⟨cm1, .slice (some ⟨w3.heap.size, 0, none⟩) 1 1, .slice none 0 0⟩) = (2, 0) from aw_5]
  have H5 := hide h5
  have HB5 := hide (HB4.out.trans hb5)
  clear h5 hb5
  go_wp2_with fail
  refine (H5.out.lenC).mono ?_
  rintro e w6 ⟨rfl, rfl⟩
  go_wp2_with fail
  refine (H5.out.find cv0 (cv0_at _) cm0_few).mono ?_
  rintro e w6 ⟨rfl, hb6⟩
  rw [show idxF (fun x : Cm => cmEq x cv0.c) [cm0, cm1] + 1 = 1 from aw_7]
  have HB6 := hide (HB5.out.trans (hb6.mono HB5.out.size))
  clear hb6
  go_wp2_with fail
  go_ret
  exact ⟨rfl, HB6.out⟩
end Go.Proofs.YtnnkbicaokckbaaDoor
