/- What is best of what two have in common, on lists. No program is named. Conditions: parents are lesser numbers. -/
import Derived.Test.YtnnkbicaokckbaaDoorBsL
namespace Go.Proofs.YtnnkbicaokckbaaDoor
open Go.RowKit Go.Shelf

theorem rises_eq {l1 l2 : List Int} (h1 : Rises l1) (h2 : Rises l2) (h : ∀ x, x ∈ l1 ↔ x ∈ l2) : l1 = l2 := by
  have e : l1.reverse = l2.reverse := falls_eq (by unfold Falls; rw [List.pairwise_reverse]; exact h1) (by unfold Falls; rw [List.pairwise_reverse]; exact h2) (fun x => by rw [List.mem_reverse, List.mem_reverse]; exact h x)
  have := congrArg List.reverse e
  rwa [List.reverse_reverse, List.reverse_reverse] at this
theorem common_symm (cs : List Cm) (a b : Int) : commonN cs a b = commonN cs b a :=
  rises_eq (common_rises cs a b) (common_rises cs b a) (fun x => by rw [common_mem, common_mem]; exact And.comm)
theorem best_symm (cs : List Cm) (a b : Int) : bestN cs a b = bestN cs b a := by unfold bestN; rw [common_symm]
theorem best_mem {cs : List Cm} {a b x : Int} (h : x ∈ bestN cs a b) : x ∈ commonN cs a b := by
  have h1 := (bestF_sub cs (commonN cs a b).reverse (fun _ => false)).subset (List.mem_reverse.1 h)
  exact List.mem_reverse.1 h1
theorem best_rises (cs : List Cm) (a b : Int) : Rises (bestN cs a b) := by
  have h := (bestF_sub cs (commonN cs a b).reverse (fun _ => false)).reverse
  rw [List.reverse_reverse] at h
  exact List.Pairwise.sublist h (common_rises cs a b)
theorem bestF_cover {cs : List Cm} : ∀ (l : List Int) (f : Int → Bool), (∀ x ∈ l, isN cs x x = true) → ∀ x ∈ l, f x = true ∨ ∃ y ∈ bestF cs l f, isN cs x y = true
  | [], _, _, x, hx => by cases hx
  | z :: l, f, hl, x, hx => by
    unfold bestF
    by_cases hz : f z = true
    · rw [if_pos hz]
      rcases List.mem_cons.1 hx with e | e
      · subst e; exact .inl hz
      · exact bestF_cover l f (fun y hy => hl y (by simp [hy])) x e
    · rw [if_neg hz]
      rcases List.mem_cons.1 hx with e | e
      · subst e; exact .inr ⟨x, by simp, hl x (by simp)⟩
      · rcases bestF_cover l (fun y => f y || (aheadN cs z).contains y) (fun y hy => hl y (by simp [hy])) x e with h | ⟨y, hy, h⟩
        · rcases (Bool.or_eq_true _ _).mp h with h | h
          · exact .inl h
          · exact .inr ⟨z, by simp, h⟩
        · exact .inr ⟨y, List.mem_cons_of_mem _ hy, h⟩
theorem bestF_clean {cs : List Cm} : ∀ (l : List Int) (f : Int → Bool), ∀ x ∈ bestF cs l f, f x = false
  | [], _, x, hx => by cases hx
  | z :: l, f, x, hx => by
    unfold bestF at hx
    by_cases hz : f z = true
    · rw [if_pos hz] at hx
      exact bestF_clean l f x hx
    · rw [if_neg hz] at hx
      rcases List.mem_cons.1 hx with e | e
      · subst e; simpa using hz
      · have := bestF_clean l (fun y => f y || (aheadN cs z).contains y) x e
        exact ((Bool.or_eq_false_iff).1 this).1
theorem bestF_pair {cs : List Cm} : ∀ (l : List Int) (f : Int → Bool), (bestF cs l f).Pairwise (fun a b => isN cs b a = false)
  | [], _ => List.Pairwise.nil
  | z :: l, f => by
    unfold bestF
    split
    · exact bestF_pair l f
    · refine List.pairwise_cons.2 ⟨fun x hx => ?_, bestF_pair l _⟩
      have := bestF_clean l (fun y => f y || (aheadN cs z).contains y) x hx
      exact ((Bool.or_eq_false_iff).1 this).2
theorem isN_self {cs : List Cm} (hd : DagOk cs) {x : Int} (h : 1 ≤ x ∧ x ≤ (cs.length : Int)) : isN cs x x = true := (isN_iff hd).2 ⟨h, .refl _⟩
theorem isN_le {cs : List Cm} (hd : DagOk cs) {x y : Int} (h : isN cs x y = true) : x ≤ y := ((isN_iff hd).1 h).2.le hd
theorem common_range {cs : List Cm} {a b x : Int} (h : x ∈ commonN cs a b) : 1 ≤ x ∧ x ≤ (cs.length : Int) := by
  have := ahead_range (common_mem.1 h).1; omega
/-- Each common one is a best one, or ahead of one. -/
theorem best_cover {cs : List Cm} (hd : DagOk cs) {a b x : Int} (h : x ∈ commonN cs a b) : ∃ y ∈ bestN cs a b, isN cs x y = true := by
  rcases bestF_cover (commonN cs a b).reverse (fun _ => false) (fun y hy => isN_self hd (common_range (List.mem_reverse.1 hy))) x (List.mem_reverse.2 h) with h1 | ⟨y, hy, h1⟩
  · cases h1
  · exact ⟨y, List.mem_reverse.2 hy, h1⟩
/-- None of the best ones came of another. -/
theorem best_anti {cs : List Cm} (hd : DagOk cs) {a b : Int} {i k : Nat} (hi : i < (bestN cs a b).length) (hki : k < i) :
    (bestN cs a b)[k] < (bestN cs a b)[i] ∧ isN cs (bestN cs a b)[k] (bestN cs a b)[i] = false ∧ isN cs (bestN cs a b)[i] (bestN cs a b)[k] = false := by
  have hr := List.pairwise_iff_getElem.1 (best_rises cs a b) k i (by omega) hi hki
  have hp : (bestN cs a b).Pairwise (fun x y => isN cs x y = false) := by
    unfold bestN; rw [List.pairwise_reverse]; exact bestF_pair _ _
  refine ⟨hr, List.pairwise_iff_getElem.1 hp k i (by omega) hi hki, ?_⟩
  rw [← Bool.not_eq_true]
  intro h
  have := isN_le hd h
  omega
theorem best_nil {cs : List Cm} (hd : DagOk cs) (a b : Int) : (commonN cs a b).length = 0 ↔ (bestN cs a b).length = 0 := by
  constructor
  · intro h
    rw [List.eq_nil_of_length_eq_zero h |> fun e => show bestN cs a b = [] by unfold bestN; rw [e]; rfl]; rfl
  · intro h
    cases hc : commonN cs a b with
    | nil => rfl
    | cons x l =>
      obtain ⟨y, hy, -⟩ := best_cover hd (a := a) (b := b) (x := x) (by rw [hc]; simp)
      rw [List.eq_nil_of_length_eq_zero h] at hy
      cases hy
/-- Of one that came of the other the other is the only best one. -/
theorem best_one {cs : List Cm} (hd : DagOk cs) {a b : Int} (h : isN cs a b = true) : bestN cs a b = [a] := by
  obtain ⟨hb, hab⟩ := (isN_iff hd).1 h
  have ha1 := hab.pos hd hb.1
  have ha2 := hab.le hd
  have haa : a ∈ aheadN cs a := (ahead_mem hd).2 ⟨by omega, .refl _⟩
  have hac : a ∈ commonN cs a b := common_mem.2 ⟨haa, (ahead_mem hd).2 ⟨hb, hab⟩⟩
  have hle : ∀ x ∈ commonN cs a b, x ≤ a ∧ isN cs x a = true := fun x hx => by
    have h1 := (common_mem.1 hx).1
    exact ⟨(ahead_range h1).2.1, by rw [isN, List.contains_iff_mem]; exact h1⟩
  obtain ⟨y, hy, hay⟩ := best_cover hd hac
  have h1 := (hle y (best_mem hy)).1
  have h2 := isN_le hd hay
  have e : y = a := by omega
  rw [e] at hy
  have hall : ∀ z ∈ bestN cs a b, z = a := fun z hz => by
    obtain ⟨i, hi, ei⟩ := List.getElem_of_mem hz
    obtain ⟨j, hj, ej⟩ := List.getElem_of_mem hy
    rcases Nat.lt_trichotomy i j with hlt | heq | hgt
    · have h3 := (best_anti hd hj hlt).2.1
      rw [ei, ej, (hle z (best_mem hz)).2] at h3
      cases h3
    · subst heq; rw [← ei, ej]
    · have h3 := (best_anti hd hi hgt).1
      have h4 := (hle z (best_mem hz)).1
      rw [ei, ej] at h3
      omega
  have hrs := best_rises cs a b
  match hl : bestN cs a b with
  | [] => rw [hl] at hy; cases hy
  | [x] => rw [hall x (by rw [hl]; simp)]
  | x :: x' :: l =>
    rw [hl] at hrs
    have h3 := (List.pairwise_cons.1 hrs).1 x' (by simp)
    have h4 := hall x (by rw [hl]; simp)
    have h5 := hall x' (by rw [hl]; simp)
    omega
theorem isN_best {cs : List Cm} {a b x : Int} (h : x ∈ bestN cs a b) : isN cs x a = true ∧ isN cs x b = true := by
  have h1 := common_mem.1 (best_mem h)
  exact ⟨by rw [isN, List.contains_iff_mem]; exact h1.1, by rw [isN, List.contains_iff_mem]; exact h1.2⟩
end Go.Proofs.YtnnkbicaokckbaaDoor
