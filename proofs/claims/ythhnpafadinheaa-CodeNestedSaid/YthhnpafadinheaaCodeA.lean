/- What every program answers that is one (chapter 15). Conditions: none. -/
import Derived.Test.YthhnpafadinheaaCode
import Derived.Test.YthhnpafadinheaaCodeR
import Derived.Test.YthhnpafadinheaaTail
namespace Go.Proofs.Ythhnpafadinheaa
open Go.RowKit

theorem made_one (z : Value) (n : Nat) : (madeCells #[z] n).toList = List.replicate n z := by
  apply List.ext_getElem
  · simp [madeCells]
  · intro i h1 h2
    simp [madeCells, Nat.mod_one]

set_option maxHeartbeats 4000000 in
set_option maxRecDepth 100000 in
theorem awake15 (w : World) : Calls Try.prog 28 #[] w fun e w' => e = .returned (.bool true) ∧ Below w.heap.size w w' := by
  obtain ⟨i0, hi, hz0, hz1, hz2⟩ := info_parts slU8.info
  go_enter Try.func28, Try.ntmps28
  go_wp2_with (first
    | (at_make; (refine wpList_make_full _ rfl _ _ 28 rfl w.heap.size 5 i0 (.int .u8 0) 1 slU8.under hi hz0 hz1 _ _ _ _ 8 rfl rfl rfl rfl (by rw [hz2]; omega) (by unfold maxLen; omega) (Nat.le_refl _) ?_); intro w1 hown hgr; have HO1 : Hid (w1.ownsRow w.heap.size 5 1 (.slice (some ⟨w.heap.size, 0, none⟩) 8 8) 8 (u8s [0, 0, 0, 0, 0, 0, 0, 0])) := (by rw [show u8s [0, 0, 0, 0, 0, 0, 0, 0] = _ from (made_one (.int .u8 0) 8).symm]; exact hown); have HG1 := hide ((Chg.grown hgr).below (Nat.le_refl _) (fun k hk e => by cases e)); clear hown hgr)
    | (go_at_call 29; (refine (code_ReadNum_no _ _ [0, 0, 0, 0, 0, 0, 0, 0] 1 (Rd.of_owns HO1.out) (by simp) (by simp)).mono ?_); rintro e w2 ⟨rfl, rfl⟩)
    | (go_at_call 34; (refine (code_Num _ _ _ [] [258] [0, 0, 0, 0, 0, 0, 1, 2] (by decide +kernel) (Rd.nil _) (Rd_lit _ #[.int .i64 258] _ 1) (by simp)).mono ?_); rintro e w3 ⟨ao3, cap3, rfl, ho3, hb3⟩; have HO3 := hide ho3; have HB3 := hide hb3; clear ho3 hb3)
    | (go_at_call 25; (refine (SameBytes_refl _ _ _ [0, 0, 0, 0, 0, 0, 1, 2] ((Rd.of_owns HO3.out).chg (Chg.alloc (fun _ => False) w3 _) (fun _ _ _ h => h)) (Rd_lit w3 #[.int .u8 0, .int .u8 0, .int .u8 0, .int .u8 0, .int .u8 0, .int .u8 0, .int .u8 1, .int .u8 2] 5 8) (by simp)).mono ?_); rintro e w4 ⟨rfl, n4, hw4⟩; have HB4 : Hid (Below w.heap.size w w4) := (by rw [hw4]; have h1 := HG1.out.size; have h3 := HB3.out.size; simp only [World.size_alloc] at h3; have b3 : Below w.heap.size w w3 := (HG1.out.alloc h1 _).trans (HB3.out.mono (by simp; omega)); exact bdrewN (b3.alloc b3.size _) n4); clear hw4 HO3)
    | (go_at_call 33; have h1 := (Rd_lit w4 #[.int .u8 7] 5 1).chg (Chg.alloc (fun _ => False) _ (Obj.cells #[Value.string { data := #[97] }] 9)) (fun _ _ _ h => h); have h2 := (Rd_lit (w4.alloc (Obj.cells #[Value.int IntKind.u8 7] 5)) #[.string ⟨#[97]⟩] 9 1); rw [World.size_alloc] at h2; have h3 := code_Text _ _ _ [7] [⟨#[97]⟩] [7, 0, 0, 0, 0, 0, 0, 0, 1, 97] (by decide +kernel) h1 h2 1 (fun s hs => by cases List.mem_singleton.1 hs; exact Nat.le_refl 1) (by simp) (by simp); (refine h3.mono ?_); clear h1 h2 h3; rintro e w5 ⟨ao5, cap5, rfl, ho5, hb5⟩; have HO5 := hide ho5; have HB5 := hide hb5; clear ho5 hb5)
    | (go_at_call 25; (refine (SameBytes_refl _ _ _ [7, 0, 0, 0, 0, 0, 0, 0, 1, 97] ((Rd.of_owns HO5.out).chg (Chg.alloc (fun _ => False) w5 _) (fun _ _ _ h => h)) (Rd_lit w5 #[.int .u8 7, .int .u8 0, .int .u8 0, .int .u8 0, .int .u8 0, .int .u8 0, .int .u8 0, .int .u8 0, .int .u8 1, .int .u8 97] 5 10) (by simp)).mono ?_); rintro e w6 ⟨rfl, n6, rfl⟩))
  go_ret
  refine ⟨rfl, ?_⟩
  have h4 := HB4.out.size
  have b5 : Below w.heap.size w w5 := ((HB4.out.alloc h4 _).alloc (by simp; omega) _).trans (HB5.out.mono (by simp; omega))
  exact bdrewN (b5.alloc b5.size _) n6
end Go.Proofs.Ythhnpafadinheaa
