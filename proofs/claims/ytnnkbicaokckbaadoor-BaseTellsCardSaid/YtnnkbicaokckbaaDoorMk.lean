/- Marks in a row of bools; what is ahead, by marks. Conditions: none. -/
import Derived.Test.YtnnkbicaokckbaaDoorDgR
import Derived.Test.YtnnkbicaokckbaaDoorBase
import Derived.Laws.OwnMore
namespace Go.Proofs.YtnnkbicaokckbaaDoor
open Go.RowKit Go.Shelf

theorem bool_slT : SlT Tryd.prog 68 4 (.bool false) 1 1 := ⟨Tryd.underlying68, by kernel_rfl, rfl, by decide⟩
/-- The marks of all in a list are set. -/
def markAll (ms : List Bool) (l : List Int) : List Bool := l.foldl (fun m x => m.set x.toNat true) ms
theorem markAll_length : ∀ (l : List Int) (ms : List Bool), (markAll ms l).length = ms.length
  | [], _ => rfl
  | x :: l, ms => by
    show (markAll (ms.set x.toNat true) l).length = _
    rw [markAll_length l]; simp
theorem markAll_snoc (ms : List Bool) (l : List Int) (x : Int) : markAll ms (l ++ [x]) = (markAll ms l).set x.toNat true := by simp [markAll]
theorem markAll_get : ∀ (l : List Int) (ms : List Bool) (j : Nat), j < ms.length → ((markAll ms l).getD j false = true ↔ ms.getD j false = true ∨ ∃ x ∈ l, x.toNat = j)
  | [], ms, j, _ => by simp [markAll]
  | x :: l, ms, j, hj => by
    have h := markAll_get l (ms.set x.toNat true) j (by simpa using hj)
    show (markAll (ms.set x.toNat true) l).getD j false = true ↔ _
    rw [h]
    have e : (ms.set x.toNat true).getD j false = true ↔ ms.getD j false = true ∨ x.toNat = j := by
      rw [List.getD_eq_getElem?_getD, List.getElem?_set]
      by_cases hx : x.toNat = j
      · subst hx
        simp [hj]
      · rw [if_neg hx, ← List.getD_eq_getElem?_getD]
        simp [hx]
    rw [e]
    constructor
    · rintro ((h | h) | ⟨y, hy, h⟩)
      · exact .inl h
      · exact .inr ⟨x, by simp, h⟩
      · exact .inr ⟨y, by simp [hy], h⟩
    · rintro (h2 | ⟨y, hy, h2⟩)
      · exact .inl (.inl h2)
      · rcases List.mem_cons.1 hy with e | e
        · rw [e] at h2; exact .inl (.inr h2)
        · exact .inr ⟨y, e, h2⟩
/-- The row of marks in memory, since w5. -/
structure MkR (B0 g L : Nat) (w5 : World) (ms : List Bool) (W : World) : Prop where
  row : W.ownsRow B0 4 1 (.slice (some ⟨g, 0, none⟩) (L + 1) (L + 1)) (L + 1) (ms.map Value.bool)
  chg : Chg (fun k => k = g) w5 W
theorem MkR.same {B0 g L : Nat} {w5 W W' : World} {ms : List Bool} (h : MkR B0 g L w5 ms W) (c : Chg (fun _ => False) W W') : MkR B0 g L w5 ms W' := ⟨c.owns h.row (fun _ _ h => h), h.chg.trans c (fun _ _ h => h) (fun _ _ h => h.elim)⟩
theorem MkR.len {B0 g L : Nat} {w5 W : World} {ms : List Bool} (h : MkR B0 g L w5 ms W) : ms.length = L + 1 := by have := h.row.1; simpa using this
/-- What a mark tells. -/
def mkF (ms : List Bool) (j : Int) : Bool := ms.getD j.toNat false
theorem scan_marks (cs : List Cm) (k : Nat) (ms : List Bool) (hk : k < ms.length) (hm : mkF ms ((k : Int) + 1) = true) (hpos : ∀ x ∈ parN cs ((k : Int) + 1), 0 ≤ x) :
    scan cs (k + 1) (mkF ms) = ((k : Int) + 1) :: scan cs k (mkF (markAll ms (parN cs ((k : Int) + 1)))) := by
  rw [scan, if_pos hm]
  refine congrArg _ (scan_congr _ _ _ _ (fun j h1 h2 => ?_))
  have h := markAll_get (parN cs ((k : Int) + 1)) ms j.toNat (by omega)
  rw [Bool.eq_iff_iff]
  show (ms.getD j.toNat false || (parN cs ((k : Int) + 1)).contains j) = true ↔ (markAll ms (parN cs ((k : Int) + 1))).getD j.toNat false = true
  rw [h, Bool.or_eq_true, List.contains_iff_mem]
  constructor
  · rintro (h | h)
    · exact .inl h
    · exact .inr ⟨j, h, rfl⟩
  · rintro (h | ⟨x, hx, h⟩)
    · exact .inl h
    · have := hpos x hx
      have e : x = j := by omega
      subst e
      exact .inr hx
theorem scan_nomark (cs : List Cm) (k : Nat) (ms : List Bool) (hm : mkF ms ((k : Int) + 1) = false) : scan cs (k + 1) (mkF ms) = scan cs k (mkF ms) := by
  rw [scan, hm, if_neg (by decide)]
theorem scan_start {cs : List Cm} {N : Nat} (h : 1 ≤ N ∧ N ≤ cs.length) : scan cs N (mkF ((List.replicate (cs.length + 1) false).set N true)) = aheadN cs N := by
  rw [aheadN, if_pos (by omega), Int.toNat_natCast]
  refine scan_congr _ _ _ _ (fun j h1 h2 => ?_)
  show ((List.replicate (cs.length + 1) false).set N true).getD j.toNat false = (j == (N : Int))
  rw [List.getD_eq_getElem?_getD, List.getElem?_set]
  by_cases e : N = j.toNat
  · rw [if_pos e, if_pos (by simp; omega)]
    have : j = (N : Int) := by omega
    simp [this]
  · rw [if_neg e, List.getElem?_replicate, if_pos (by omega)]
    have : ¬ j = (N : Int) := by omega
    simp [this]
end Go.Proofs.YtnnkbicaokckbaaDoor
