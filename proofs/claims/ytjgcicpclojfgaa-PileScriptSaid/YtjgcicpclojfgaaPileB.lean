/- Statements on piles: what they all use: the order of numbers, what a pile tells, awake. Conditions: none. -/
import Derived.Test.YtjgcicpclojfgaaPileAI
import Derived.Test.YtjgcicpclojfgaaIntsOk
import Derived.Test.YtjgcicpclojfgaaLow
namespace Go.Proofs.Ytjgcicpclojfgaa
open Go.RowKit Go.Shelf

theorem pi_told {base : Nat} (w : World) (p g : Nat) (ao : Option Addr) (cap : Nat) (l : List Int) (h : pi_At base w p g ao cap l) (most : Int) (hm : most ≤ 1000000) :
    Calls Try.prog 16 #[.func (.func 57) #[] #[.pointer (some ⟨w.heap.size, 0, none⟩)], .int .i64 most] (w.alloc (.cells #[.pointer (some ⟨p, 0, none⟩)] 24)) fun e w' =>
      ∃ ao' cap', e = .returned (.slice ao' (l.take most.toNat).length cap') ∧ w'.ownsRow w.heap.size 3 1 (.slice ao' (l.take most.toNat).length cap') (l.take most.toNat).length ((l.take most.toNat).map (Value.int .i64)) ∧ Below w.heap.size w w' := by
  have h' := h.chg (Chg.alloc (fun _ => False) w (.cells #[.pointer (some ⟨p, 0, none⟩)] 24)) (fun _ _ h => h)
  have hs := pi_all_seqd _ w.heap.size p g ao cap l h' (by rw [cell_of_heap (heap_alloc_new w _)]; rfl)
  refine (Ints_ok _ _ _ _ l (enters_of Try.func57 (by kernel_rfl) rfl) hs (fun k hk => ?_) (by have := h.2.2.2; omega) most hm).mono ?_
  · rcases hk with rfl | hk
    · simp
    · exact (h'.lt k hk).2
  · rintro e w' ⟨ao', cap', rfl, ho, hb⟩
    refine ⟨ao', cap', rfl, ownsRow_base ho (fun k hk => ?_), ((Below.refl _ w).alloc (Nat.le_refl _) _).trans (hb.mono (by simp))⟩
    have := (ownsRow_lt ho k hk).1
    simp at this
    omega

/-- The order of numbers. -/
def ltI (a b : Int) : Bool := decide (a < b)
theorem lower_less : pi_Less 14 ltI := by
  refine ⟨enters_of Try.func14 (by kernel_rfl) rfl, fun W x y => ?_⟩
  go_enter Try.func14, Try.ntmps14
  go_wp2
  go_ret
  exact ⟨rfl, rfl⟩

set_option maxRecDepth 100000 in
theorem awake2 (w : World) : Calls Try.prog 12 #[] w fun e w' => e = .returned (.bool true) ∧ Below w.heap.size w w' := by
  go_enter Try.func12, Try.ntmps12
  go_wp2_with fail
  refine (pi_New w _).mono ?_
  rintro e w1 ⟨rfl, h1, hb1⟩
  have H1 := hide h1
  have HB1 := hide hb1
  have hl1 := (h1.lt _ (.inl rfl)).2
  have HL1 := hide hl1
  clear h1 hb1 hl1
  go_wp2_with fail
  refine (pi_Put (base := w.heap.size) _ _ _ _ _ [] ltI lower_less (H1.out.chg (Chg.alloc (fun _ => False) w1 _) (fun _ _ h => h)) _ [3, 1, 2] (Rd_lit w1 #[.int .i64 3, .int .i64 1, .int .i64 2] 3 3) (fun b hb _ => ?_) (by simp)).mono ?_
  · cases hb
    refine ⟨fun h => ?_, by simp⟩
    have h2 := (H1.out.lt _ h).2
    dsimp only at h2
    omega
  rintro e w2 ⟨rfl, ao2, cap2, h2, hc2, hs2⟩
  have H2 : Hid (pi_At w.heap.size w2 w.heap.size 14 ao2 cap2 [1, 2, 3]) := h2
  have HB2 := hide ((HB1.out.trans (Below.alloc (Below.refl _ w1) HB1.out.size _)).trans (hc2.below (by have := HB1.out.size; simp; omega) (fun k hk e => by have := H1.out.lt k e; omega)))
  clear h2 hc2 hs2
  go_wp2_with fail
  refine (pi_Pop w2 _ _ _ _ 1 [2, 3] H2.out).mono ?_
  rintro e w3 ⟨rfl, ao3, cap3, h3, hc3, hs3⟩
  have H3 : Hid (pi_At w.heap.size w3 w.heap.size 14 ao3 cap3 [2, 3]) := h3
  have HB3 := hide (HB2.out.trans (hc3.below HB2.out.size (fun k hk e => by have := H2.out.lt k e; omega)))
  clear h3 hc3 hs3
  go_wp2_with fail
  refine (pi_Len w3 _ _ _ _ [2, 3] H3.out).mono ?_
  rintro e w4 ⟨rfl, rfl⟩
  go_wp2_with fail
  refine (pi_All w4 _).mono ?_
  rintro e w5 ⟨rfl, rfl⟩
  go_wp2_with fail
  refine (pi_told w4 _ _ _ _ _ H3.out 9 (by omega)).mono ?_
  rintro e w6 ⟨ao6, cap6, rfl, ho6, hb6⟩
  have HO6 : Hid (w6.ownsRow w4.heap.size 3 1 (.slice ao6 2 cap6) 2 ([2, 3].map (Value.int .i64))) := ho6
  have HB6 := hide hb6
  clear ho6 hb6
  go_wp2_with fail
  refine (SameInts_ok _ _ _ [2, 3] [2, 3] ((Rd.of_owns HO6.out).chg (Chg.alloc (fun _ => False) w6 _) (fun _ _ _ h => h)) (Rd_lit w6 #[.int .i64 2, .int .i64 3] 3 2) (by simp) (by simp)).mono ?_
  rintro e w7 ⟨rfl, n7, rfl⟩
  go_wp2_with fail
  refine (pi_New_nil _).mono ?_
  rintro e w8 ⟨rfl, rfl⟩
  go_wp2_with fail
  go_ret
  refine ⟨rfl, ?_⟩
  exact bdrewN ((HB3.out.trans (HB6.out.mono HB3.out.size)).trans (Below.alloc (Below.refl _ w6) (by have := HB6.out.size; have := HB3.out.size; omega) _)) _
end Go.Proofs.Ytjgcicpclojfgaa
