/- What a pile keeps, in plain words: it holds what was put, in order. Conditions: the order is one. -/
import Derived.Test.YtnnkbicaokckbaaDoorPileW
namespace Go.Proofs.YtnnkbicaokckbaaDoor

theorem foldl_ins_length {α : Type} (lt : α → α → Bool) (ys l0 : List α) : (ys.foldl (ins lt) l0).length = l0.length + ys.length := by
  induction ys generalizing l0 with
  | nil => simp
  | cons y ys ih => rw [List.foldl_cons, ih, ins_length, List.length_cons]; omega
theorem ins_perm {α : Type} (lt : α → α → Bool) (l : List α) (x : α) : (ins lt l x).Perm (x :: l) := by
  unfold ins
  refine List.perm_middle.trans ?_
  rw [List.take_append_drop]
theorem foldl_ins_perm {α : Type} (lt : α → α → Bool) (xs l : List α) : (xs.foldl (ins lt) l).Perm (xs ++ l) := by
  induction xs generalizing l with
  | nil => exact .refl _
  | cons x xs ih =>
    rw [List.foldl_cons]
    refine (ih _).trans (((ins_perm lt l x).append_left xs).trans ?_)
    exact List.perm_middle

/-- In order: none stands ahead of one that it comes behind of. -/
def Sorted {α : Type} (lt : α → α → Bool) (l : List α) : Prop := l.Pairwise (fun a b => lt b a = false)
structure IsOrd {α : Type} (lt : α → α → Bool) : Prop where
  asym : ∀ a b, lt a b = true → lt b a = false
  trans : ∀ a b c, lt b a = false → lt c b = false → lt c a = false

theorem placeOf_le {α : Type} (lt : α → α → Bool) (x : α) (l : List α) : placeOf lt x l ≤ l.length := by unfold placeOf; omega
theorem mem_takeWhile {α : Type} (p : α → Bool) : ∀ (l : List α) (y : α), y ∈ l.takeWhile p → p y = true
  | [], y, h => by simp at h
  | x :: l, y, h => by
    by_cases hx : p x = true
    · rw [List.takeWhile_cons_of_pos hx] at h
      rcases List.mem_cons.1 h with rfl | h
      · exact hx
      · exact mem_takeWhile p l y h
    · rw [List.takeWhile_cons_of_neg hx] at h
      cases h
theorem head_dropWhile {α : Type} (p : α → Bool) : ∀ (l : List α) (y : α), (l.dropWhile p).head? = some y → p y = false
  | [], y, h => by simp at h
  | x :: l, y, h => by
    by_cases hx : p x = true
    · rw [List.dropWhile_cons_of_pos hx] at h
      exact head_dropWhile p l y h
    · rw [List.dropWhile_cons_of_neg hx] at h
      simp at h
      subst h
      simpa using hx
/-- x's place parts the list: behind it x stands ahead of all; not of the one ahead of it. -/
theorem ins_split {α : Type} (lt : α → α → Bool) (x : α) (l : List α) : ∃ A B, l = A ++ B ∧ placeOf lt x l = A.length ∧ ins lt l x = A ++ x :: B ∧ (∀ y ∈ B, lt x y = true) ∧ (∀ y, A.getLast? = some y → lt x y = false) := by
  have hl : l = (l.reverse.dropWhile (lt x)).reverse ++ (l.reverse.takeWhile (lt x)).reverse := by
    rw [← List.reverse_append, List.takeWhile_append_dropWhile, List.reverse_reverse]
  obtain ⟨A, hA⟩ : ∃ A, A = (l.reverse.dropWhile (lt x)).reverse := ⟨_, rfl⟩
  obtain ⟨B, hB⟩ : ∃ B, B = (l.reverse.takeWhile (lt x)).reverse := ⟨_, rfl⟩
  have hlen : placeOf lt x l = A.length := by
    have := congrArg List.length hl
    simp only [List.length_append, List.length_reverse] at this
    unfold placeOf
    rw [hA, List.length_reverse]; omega
  have hAB : l = A ++ B := by rw [hA, hB]; exact hl
  refine ⟨A, B, hAB, hlen, ?_, fun y hy => ?_, fun y hy => ?_⟩
  · unfold ins
    rw [hlen]
    have e1 : l.take A.length = A := by rw [hAB]; exact List.take_left
    have e2 : l.drop A.length = B := by rw [hAB]; exact List.drop_left
    rw [e1, e2]
  · rw [hB, List.mem_reverse] at hy
    exact mem_takeWhile _ _ _ hy
  · rw [hA, List.getLast?_reverse] at hy
    exact head_dropWhile _ _ _ hy

theorem ins_sorted {α : Type} {lt : α → α → Bool} (ho : IsOrd lt) {l : List α} (x : α) (h : Sorted lt l) : Sorted lt (ins lt l x) := by
  obtain ⟨A, B, rfl, -, hi, h1, h2⟩ := ins_split lt x l
  rw [hi]
  obtain ⟨p1, p2, p3⟩ := List.pairwise_append.1 h
  have hb : ∀ y ∈ A, lt x y = false := by
    intro y hy
    rcases List.eq_nil_or_concat A with rfl | ⟨A', z, rfl⟩ <;> (try rw [List.concat_eq_append] at *)
    · cases hy
    · have hz := h2 z (by simp)
      rcases List.mem_append.1 hy with hy | hy
      · exact ho.trans _ _ _ ((List.pairwise_append.1 p1).2.2 y hy z (by simp)) hz
      · rw [List.mem_singleton.1 hy]; exact hz
  refine List.pairwise_append.2 ⟨p1, List.pairwise_cons.2 ⟨fun y hy => ho.asym _ _ (h1 y hy), p2⟩, fun y hy z hz => ?_⟩
  rcases List.mem_cons.1 hz with rfl | hz
  · exact hb y hy
  · exact p3 y hy z hz
theorem foldl_ins_sorted {α : Type} {lt : α → α → Bool} (ho : IsOrd lt) (xs : List α) {l : List α} (h : Sorted lt l) : Sorted lt (xs.foldl (ins lt) l) := by
  induction xs generalizing l with
  | nil => exact h
  | cons x xs ih => exact ih (ins_sorted ho x h)
end Go.Proofs.YtnnkbicaokckbaaDoor
