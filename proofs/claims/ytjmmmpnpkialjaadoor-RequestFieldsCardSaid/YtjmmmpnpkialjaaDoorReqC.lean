/- request.readCommit. Conditions: the bytes read as said. -/
import Derived.Test.YtjmmmpnpkialjaaDoorReqF
import Derived.Test.YtjmmmpnpkialjaaDoorCmO
namespace Go.Proofs.YtjmmmpnpkialjaaDoor
open Go.RowKit Go.Shelf

set_option maxHeartbeats 4000000 in
set_option maxRecDepth 100000 in
theorem readCommit_ok (w : World) (vb : Value) (b : List UInt8) (p : Int) (hb : Rd w vb b.length (u8s b)) (hm : b.length ≤ 140737488351232) :
    Calls Tryd.prog 55 #[vb, .int .i64 p] w fun e w' => ∃ x : CmV, x.c = (rdCommit b p).1 ∧ e = .returned (.tuple #[x.val, .int .i64 (rdCommit b p).2.1, .bool (rdCommit b p).2.2]) ∧ Own w' w.heap.size x ∧ Below w.heap.size w w' := by
  have HB := hide hb
  obtain ⟨ab, cb, rfl, -, -⟩ := hb.shape
  clear hb
  obtain ⟨R, hR⟩ : ∃ R, R = rdCommit b p := ⟨_, rfl⟩
  rw [← hR]
  obtain ⟨l1, q1, o1, h1⟩ : ∃ l q o, rdListG rdNum b p 2 = (l, q, o) := ⟨_, _, _, rfl⟩
  obtain ⟨l2, q2, o2, h2⟩ : ∃ l q o, rdListG rdFile b q1 12 = (l, q, o) := ⟨_, _, _, rfl⟩
  obtain ⟨s, q3, o3, h3⟩ : ∃ s q o, rdText b q2 = (s, q, o) := ⟨_, _, _, rfl⟩
  have HC1 := fun W (c : Below w.heap.size w W) => hide (code_ReadList_I W _ b p 2 (HB.out.chg (Chg.of_below0 (S := fun _ => False) c) (fun _ _ _ h => h)) hm (by omega))
  have HC2 := fun W (c : Below w.heap.size w W) => hide (code_ReadList_F W _ b q1 12 (HB.out.chg (Chg.of_below0 (S := fun _ => False) c) (fun _ _ _ h => h)) hm (by omega))
  have HC3 := fun W (c : Below w.heap.size w W) => hide (code_ReadText W _ b q2 (HB.out.chg (Chg.of_below0 (S := fun _ => False) c) (fun _ _ _ h => h)) hm)
  rw [h1] at HC1
  rw [h2] at HC2
  rw [h3] at HC3
  have hR' : R = if o1 = true then (if o2 = true then (⟨l1, l2, s⟩, q3, o3) else (cmZ, 0, false)) else (cmZ, 0, false) := by
    rw [hR]
    simp only [rdCommit, h1, h2, h3]
  have HR := hide hR'
  have hb0 := (Below.refl w.heap.size w).alloc (Nat.le_refl _) (Obj.cells #[.slice none 0 0, .slice none 0 0, .string ⟨#[]⟩] 25)
  have hh := heap_alloc_new w (.cells #[.slice none 0 0, .slice none 0 0, .string ⟨#[]⟩] 25)
  have hz := World.size_alloc w (.cells #[.slice none 0 0, .slice none 0 0, .string ⟨#[]⟩] 25)
  have HB0 := hide hb0
  have HH := hide hh
  have HZ := hide hz
  clear hR hR' h1 h2 h3 hb0 hh hz
  go_enter Tryd.func55, Tryd.ntmps55
  go_wp2_with fail
  refine (HC1 _ HB0.out).out.mono ?_
  rintro e w1 ⟨a1, k1, rfl, ho1, hb1⟩
  have HH := hide ((Chg.of_below0 (S := fun _ => False) hb1).heap HH.out (fun h => h))
  have HO1 := hide ho1
  have HB1 := hide (HB0.out.trans (hb1.mono HB0.out.size))
  have HW1 := hide (show w.heap.size < w1.heap.size from by have h5 := hb1.size; have h6 := HZ.out; omega)
  clear ho1 hb1
  cases o1 with
  | false =>
    have f0 := free_of_heap HH.out 0
    have f1 := free_of_heap HH.out 1
    have f2 := free_of_heap HH.out 2
    have g0 := cell_of_heap HH.out 0
    have g1 := cell_of_heap HH.out 1
    have g2 := cell_of_heap HH.out 2
    simp at f0 f1 f2 g0 g1 g2
    go_wp2_with fail
    have hy := heap_setCell_same (heap_setCell_same (heap_setCell_same HH.out (i := 0) (.slice none 0 0)) (i := 1) (.slice none 0 0)) (i := 2) (.string ⟨#[]⟩)
    simp only [Array.setIfInBounds, List.size_toArray] at hy
    refine bodyPost_ret (results_ctt rfl _ _ w.heap.size _ _ _ _ rfl hy Tryd.underlying25 rfl (by kernel_rfl)) rfl ?_
    refine ⟨⟨cmZ, .slice none 0 0, .slice none 0 0⟩, by rw [HR.out]; rfl, by rw [HR.out]; rfl, ⟨World.ownsRow_nil _ _ _ _, World.ownsRow_nil _ _ _ _⟩, ((HB1.out.setCell (Nat.le_refl _) _).setCell (Nat.le_refl _) _).setCell (Nat.le_refl _) _⟩
  | true =>
  go_wp2_with fail
  refine (HC2 _ HB1.out).out.mono ?_
  rintro e w2 ⟨a2, k2, rfl, ho2, hb2⟩
  have HH := hide ((Chg.of_below0 (S := fun _ => False) hb2).heap HH.out (fun h => h))
  have HO1 := hide ((Chg.of_below0 (S := fun _ => False) hb2).owns HO1.out (fun _ _ h => h))
  have HO2 := hide ho2
  have HB2 := hide (HB1.out.trans (hb2.mono HB1.out.size))
  clear ho2 hb2
  cases o2 with
  | false =>
    have f0 := free_of_heap HH.out 0
    have f1 := free_of_heap HH.out 1
    have f2 := free_of_heap HH.out 2
    have g0 := cell_of_heap HH.out 0
    have g1 := cell_of_heap HH.out 1
    have g2 := cell_of_heap HH.out 2
    simp at f0 f1 f2 g0 g1 g2
    go_wp2_with fail
    have hy := heap_setCell_same (heap_setCell_same (heap_setCell_same HH.out (i := 0) (.slice none 0 0)) (i := 1) (.slice none 0 0)) (i := 2) (.string ⟨#[]⟩)
    simp only [Array.setIfInBounds, List.size_toArray] at hy
    refine bodyPost_ret (results_ctt rfl _ _ w.heap.size _ _ _ _ rfl hy Tryd.underlying25 rfl (by kernel_rfl)) rfl ?_
    refine ⟨⟨cmZ, .slice none 0 0, .slice none 0 0⟩, by rw [HR.out]; rfl, by rw [HR.out]; rfl, ⟨World.ownsRow_nil _ _ _ _, World.ownsRow_nil _ _ _ _⟩, ((HB2.out.setCell (Nat.le_refl _) _).setCell (Nat.le_refl _) _).setCell (Nat.le_refl _) _⟩
  | true =>
  go_wp2_with fail
  refine (HC3 _ HB2.out).out.mono ?_
  rintro e w3 ⟨rfl, rfl⟩
  have f0 := free_of_heap HH.out 0
  have f1 := free_of_heap HH.out 1
  have f2 := free_of_heap HH.out 2
  have g0 := cell_of_heap HH.out 0
  have g1 := cell_of_heap HH.out 1
  have g2 := cell_of_heap HH.out 2
  simp at f0 f1 f2 g0 g1 g2
  go_wp2_with fail
  have hy := heap_setCell_same (heap_setCell_same (heap_setCell_same HH.out (i := 0) (.slice a1 l1.length k1)) (i := 1) (.slice a2 l2.length k2)) (i := 2) (.string s)
  simp only [Array.setIfInBounds, List.size_toArray] at hy
  refine bodyPost_ret (results_ctt rfl _ _ w.heap.size _ _ _ _ rfl hy Tryd.underlying25 rfl (by kernel_rfl)) rfl ?_
  have hch := ((Chg.setCell w3 ⟨w.heap.size, 0, none⟩ (.slice a1 l1.length k1)).trans (Chg.setCell _ ⟨w.heap.size, 1, none⟩ (.slice a2 l2.length k2)) (S'' := fun k => k = w.heap.size) (fun _ _ h => h) (fun _ _ h => h)).trans (Chg.setCell _ ⟨w.heap.size, 2, none⟩ (.string s)) (S'' := fun k => k = w.heap.size) (fun _ _ h => h) (fun _ _ h => h)
  have hz := HZ.out
  refine ⟨⟨⟨l1, l2, s⟩, .slice a1 l1.length k1, .slice a2 l2.length k2⟩, by rw [HR.out]; rfl, by rw [HR.out]; rfl, ⟨?_, ?_⟩, ((HB2.out.setCell (Nat.le_refl _) _).setCell (Nat.le_refl _) _).setCell (Nat.le_refl _) _⟩
  · refine hch.owns (ownsRow_base (base := (w.alloc (.cells #[.slice none 0 0, .slice none 0 0, .string ⟨#[]⟩] 25)).heap.size) ?_ (fun j hj => ?_)) (fun j hj e => ?_)
    · rw [show flat int_enc l1 = l1.map (Value.int .i64) from flat_int l1]; exact HO1.out
    · have := (ownsRow_lt HO1.out j hj).1
      omega
    · have := (ownsRow_lt HO1.out j hj).1
      omega
  · have hb1 := HB1.out.size
    refine hch.owns (ownsRow_base HO2.out (fun j hj => ?_)) (fun j hj e => ?_)
    · have := (ownsRow_lt HO2.out j hj).1
      omega
    · have h5 := (ownsRow_lt HO2.out j hj).1
      have h6 := HW1.out
      omega
end Go.Proofs.YtjmmmpnpkialjaaDoor
