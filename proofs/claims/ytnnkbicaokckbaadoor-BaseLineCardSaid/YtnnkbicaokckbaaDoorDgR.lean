/- Who came of whom: what is ahead as a relation; depths along it. No program is named. Conditions: parents are lesser numbers. -/
import Derived.Test.YtnnkbicaokckbaaDoorDgL
namespace Go.Proofs.YtnnkbicaokckbaaDoor
open Go.RowKit Go.Shelf

inductive Reach (cs : List Cm) : Int → Int → Prop
  | refl (n : Int) : Reach cs n n
  | step {a p b : Int} : p ∈ parN cs b → Reach cs a p → Reach cs a b
theorem Reach.trans {cs : List Cm} {a b c : Int} (h : Reach cs a b) (k : Reach cs b c) : Reach cs a c := by
  induction k with
  | refl => exact h
  | step hp _ ih => exact .step hp ih
theorem Reach.le {cs : List Cm} (hd : DagOk cs) {a b : Int} (h : Reach cs a b) : a ≤ b := by
  induction h with
  | refl => exact Int.le_refl _
  | step hp _ ih => have := hd.par _ _ hp; omega
theorem Reach.pos {cs : List Cm} (hd : DagOk cs) {a b : Int} (h : Reach cs a b) (hb : 1 ≤ b) : 1 ≤ a := by
  induction h with
  | refl => exact hb
  | step hp _ ih => exact ih (hd.par _ _ hp).1
theorem scan_mem {cs : List Cm} (hd : DagOk cs) : ∀ (k : Nat) (m : Int → Bool) (x : Int), x ∈ scan cs k m ↔ 1 ≤ x ∧ x ≤ (k : Int) ∧ ∃ y, 1 ≤ y ∧ y ≤ (k : Int) ∧ m y = true ∧ Reach cs x y
  | 0, m, x => by
    constructor
    · intro h; cases h
    · rintro ⟨h1, h2, -⟩; omega
  | k + 1, m, x => by
    rw [scan]
    by_cases hm : m ((k : Int) + 1) = true
    · rw [if_pos hm, List.mem_cons, scan_mem hd k]
      constructor
      · rintro (rfl | ⟨h1, h2, y, h3, h4, h5, h6⟩)
        · exact ⟨by omega, by omega, _, by omega, by omega, hm, .refl _⟩
        · refine ⟨h1, by omega, ?_⟩
          rw [Bool.or_eq_true] at h5
          rcases h5 with h5 | h5
          · exact ⟨y, h3, by omega, h5, h6⟩
          · have h7 : y ∈ parN cs ((k : Int) + 1) := by simpa using h5
            exact ⟨(k : Int) + 1, by omega, by omega, hm, h6.trans (.step h7 (.refl _))⟩
      · rintro ⟨h1, h2, y, h3, h4, h5, h6⟩
        by_cases hx : x = (k : Int) + 1
        · exact .inl hx
        · refine .inr ⟨h1, by omega, ?_⟩
          by_cases hy : y = (k : Int) + 1
          · subst hy
            cases h6 with
            | refl => exact absurd rfl hx
            | step hp hr =>
              have := hd.par _ _ hp
              exact ⟨_, this.1, by omega, by rw [Bool.or_eq_true]; exact .inr (by simpa using hp), hr⟩
          · exact ⟨y, h3, by omega, by rw [h5]; rfl, h6⟩
    · rw [if_neg hm, scan_mem hd k]
      constructor
      · rintro ⟨h1, h2, y, h3, h4, h5, h6⟩
        exact ⟨h1, by omega, y, h3, by omega, h5, h6⟩
      · rintro ⟨h1, h2, y, h3, h4, h5, h6⟩
        have hy : y ≠ (k : Int) + 1 := fun e => hm (by rw [← e]; exact h5)
        have := h6.le hd
        exact ⟨h1, by omega, y, h3, by omega, h5, h6⟩
theorem ahead_mem {cs : List Cm} (hd : DagOk cs) {a b : Int} : a ∈ aheadN cs b ↔ (1 ≤ b ∧ b ≤ (cs.length : Int)) ∧ Reach cs a b := by
  unfold aheadN
  split
  · rename_i hr
    rw [scan_mem hd]
    constructor
    · rintro ⟨h1, h2, y, h3, h4, h5, h6⟩
      have : y = b := by simpa using h5
      exact ⟨hr, this ▸ h6⟩
    · rintro ⟨-, h⟩
      have h1 := h.pos hd hr.1
      have h2 := h.le hd
      exact ⟨h1, by omega, b, hr.1, by omega, by simp, h⟩
  · rename_i hr
    exact ⟨(fun h => by cases h), fun h => absurd h.1 hr⟩
/-- Falling, each once. -/
def Falls (l : List Int) : Prop := l.Pairwise (fun a b => a > b)
theorem scan_le (cs : List Cm) : ∀ (k : Nat) (m : Int → Bool) (x : Int), x ∈ scan cs k m → x ≤ (k : Int) ∧ 1 ≤ x
  | 0, _, _, h => by cases h
  | k + 1, m, x, h => by
    rw [scan] at h
    split at h
    · rcases List.mem_cons.1 h with h | h
      · omega
      · have := scan_le cs k _ x h; omega
    · have := scan_le cs k _ x h; omega
theorem scan_falls (cs : List Cm) : ∀ (k : Nat) (m : Int → Bool), Falls (scan cs k m)
  | 0, _ => List.Pairwise.nil
  | k + 1, m => by
    rw [scan]
    split
    · exact List.pairwise_cons.2 ⟨fun x hx => by have := scan_le cs k _ x hx; omega, scan_falls cs k _⟩
    · exact scan_falls cs k _
theorem ahead_falls (cs : List Cm) (n : Int) : Falls (aheadN cs n) := by
  unfold aheadN
  split
  · exact scan_falls _ _ _
  · exact List.Pairwise.nil
theorem ahead_range {cs : List Cm} {n x : Int} (h : x ∈ aheadN cs n) : 1 ≤ x ∧ x ≤ n ∧ n ≤ (cs.length : Int) := by
  unfold aheadN at h
  split at h
  · have := scan_le _ _ _ _ h; omega
  · cases h
/-- Two falling lists of the same things are one. -/
theorem falls_eq : ∀ {l1 l2 : List Int}, Falls l1 → Falls l2 → (∀ x, x ∈ l1 ↔ x ∈ l2) → l1 = l2
  | [], [], _, _, _ => rfl
  | [], y :: l2, _, _, h => by have := (h y).2 (by simp); cases this
  | x :: l1, [], _, _, h => by have := (h x).1 (by simp); cases this
  | x :: l1, y :: l2, h1, h2, h => by
    have a1 := List.pairwise_cons.1 h1
    have a2 := List.pairwise_cons.1 h2
    have e : x = y := by
      rcases List.mem_cons.1 ((h x).1 (by simp)) with e | e
      · exact e
      · rcases List.mem_cons.1 ((h y).2 (by simp)) with e' | e'
        · exact e'.symm
        · have := a2.1 x e; have := a1.1 y e'; omega
    subst e
    rw [falls_eq a1.2 a2.2 (fun z => ?_)]
    have := h z
    simp only [List.mem_cons] at this
    constructor
    · intro hz
      rcases this.1 (.inr hz) with e | e
      · have := a1.1 z hz; omega
      · exact e
    · intro hz
      rcases this.2 (.inr hz) with e | e
      · have := a2.1 z hz; omega
      · exact e
/-- What is ahead of one: itself, and all that is ahead of its parents. -/
theorem ahead_step {cs : List Cm} (hd : DagOk cs) {n x : Int} (hn : 1 ≤ n ∧ n ≤ (cs.length : Int)) : x ∈ aheadN cs n ↔ x = n ∨ ∃ p ∈ parN cs n, x ∈ aheadN cs p := by
  rw [ahead_mem hd]
  constructor
  · rintro ⟨-, h⟩
    cases h with
    | refl => exact .inl rfl
    | step hp hr =>
      have := hd.par _ _ hp
      exact .inr ⟨_, hp, (ahead_mem hd).2 ⟨by omega, hr⟩⟩
  · rintro (rfl | ⟨p, hp, h⟩)
    · exact ⟨hn, .refl _⟩
    · exact ⟨hn, .step hp ((ahead_mem hd).1 h).2⟩
/-- A commit is one deeper than its deepest parent. -/
theorem depth_eq {cs : List Cm} (hd : DagOk cs) {n : Int} (hn : 1 ≤ n ∧ n ≤ (cs.length : Int)) : depthN cs n = 1 + (parN cs n).foldl (fun d p => max d (depthN cs p)) 0 := by
  obtain ⟨k, hk⟩ : ∃ k : Nat, n = (k : Int) + 1 := ⟨(n - 1).toNat, by omega⟩
  have e : n.toNat = k + 1 := by omega
  rw [depthN, if_pos hn, e, depL, List.getD_eq_getElem?_getD, List.getElem?_append_right (by rw [depL_length]; omega), depL_length, Nat.sub_self, ← hk]
  show 1 + (parN cs n).foldl (fun d p => max d ((depL cs k).getD p.toNat 0)) 0 = _
  have key : ∀ (l : List Int) (a : Int), (∀ p ∈ l, (depL cs k).getD p.toNat 0 = depthN cs p) → l.foldl (fun d p => max d ((depL cs k).getD p.toNat 0)) a = l.foldl (fun d p => max d (depthN cs p)) a := by
    intro l
    induction l with
    | nil => intro a _; rfl
    | cons p l ih => intro a h; rw [List.foldl_cons, List.foldl_cons, h p (by simp), ih _ (fun q hq => h q (by simp [hq]))]
  rw [key _ _ (fun p hp => ?_)]
  have := hd.par _ _ hp
  rw [depthN, if_pos (by omega), depL_get cs (show p.toNat ≤ k by omega)]
theorem foldl_max_mem {f : Int → Int} : ∀ (l : List Int) (a : Int) (x : Int), x ∈ l → f x ≤ l.foldl (fun d p => max d (f p)) a
  | y :: l, a, x, h => by
    rw [List.foldl_cons]
    have hg : ∀ (l : List Int) (a : Int), a ≤ l.foldl (fun d p => max d (f p)) a := by
      intro l
      induction l with
      | nil => intro a; exact Int.le_refl _
      | cons z l ih => intro a; rw [List.foldl_cons]; exact Int.le_trans (Int.le_max_left _ _) (ih _)
    rcases List.mem_cons.1 h with e | e
    · subst e; exact Int.le_trans (Int.le_max_right _ _) (hg _ _)
    · exact foldl_max_mem l _ x e
theorem depth_lt {cs : List Cm} (hd : DagOk cs) {p n : Int} (hp : p ∈ parN cs n) : depthN cs p < depthN cs n := by
  rw [depth_eq hd (parN_range hp)]
  have := foldl_max_mem (f := depthN cs) (parN cs n) 0 p hp
  omega
theorem Reach.depth {cs : List Cm} (hd : DagOk cs) {a b : Int} (h : Reach cs a b) : a = b ∨ depthN cs a < depthN cs b := by
  induction h with
  | refl => exact .inl rfl
  | step hp _ ih =>
    have := depth_lt hd hp
    rcases ih with e | e
    · subst e; exact .inr this
    · exact .inr (by omega)
def isN (cs : List Cm) (a b : Int) : Bool := (aheadN cs b).contains a
theorem isN_iff {cs : List Cm} (hd : DagOk cs) {a b : Int} : isN cs a b = true ↔ (1 ≤ b ∧ b ≤ (cs.length : Int)) ∧ Reach cs a b := by
  rw [isN, List.contains_iff_mem, ahead_mem hd]
end Go.Proofs.YtnnkbicaokckbaaDoor
