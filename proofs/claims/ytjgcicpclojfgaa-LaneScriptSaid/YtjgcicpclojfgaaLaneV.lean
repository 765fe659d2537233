/- LaneScript's plain law: who waits, by the program's order and by the document's. Conditions: none. -/
import Derived.Test.YtjgcicpclojfgaaLaneO
namespace Go.Proofs.Ytjgcicpclojfgaa
open Go.RowKit Go.Shelf

/-- Of lane l, and waiting. -/
def wSel (l : Nat) (e : En) : Bool := e.lane == (l : Int) && e.code == 7
def waitK (all : List En) (k : Nat) : List En := (List.range k).flatMap (fun l => all.filter (wSel l))
def waitR (all : List En) : List En := waitK all 4
theorem waitK_succ (all : List En) (k : Nat) : waitK all (k + 1) = waitK all k ++ all.filter (wSel k) := by
  unfold waitK
  rw [List.range_succ, List.flatMap_append]
  simp
theorem waitK_length (all : List En) (k : Nat) : (waitK all k).length ≤ k * all.length := by
  induction k with
  | zero => simp [waitK]
  | succ k ih =>
    rw [waitK_succ, List.length_append]
    have := List.length_filter_le (wSel k) all
    rw [Nat.succ_mul]; omega
theorem waitR_length (all : List En) : (waitR all).length ≤ 4 * all.length := waitK_length all 4
theorem waitK_count (all : List En) (k : Nat) : (waitK all k).length = (all.filter (fun e : En => e.code == 7 && decide (0 ≤ e.lane ∧ e.lane < (k : Int)))).length := by
  induction k with
  | zero =>
    have : all.filter (fun e : En => e.code == 7 && decide (0 ≤ e.lane ∧ e.lane < ((0 : Nat) : Int))) = [] := by
      rw [List.filter_eq_nil_iff]
      intro e _
      have : ¬ (0 ≤ e.lane ∧ e.lane < ((0 : Nat) : Int)) := by omega
      rw [decide_eq_false this]; simp
    rw [this]; rfl
  | succ k ih =>
    rw [waitK_succ, List.length_append, ih]
    clear ih
    induction all with
    | nil => rfl
    | cons e l ih2 =>
      by_cases h7 : e.code = 7
      · by_cases hk : e.lane = k
        · have h1 : ¬ (0 ≤ e.lane ∧ e.lane < (k : Int)) := by omega
          have h2 : 0 ≤ e.lane ∧ e.lane < ((k + 1 : Nat) : Int) := by omega
          have h3 : wSel k e = true := by simp [wSel, h7, hk]
          rw [List.filter_cons_of_neg (by rw [decide_eq_false h1]; simp), List.filter_cons_of_pos h3, List.filter_cons_of_pos (by rw [decide_eq_true h2]; simp [h7]), List.length_cons, List.length_cons]
          omega
        · have h3 : wSel k e = false := by simp [wSel, hk]
          by_cases h1 : 0 ≤ e.lane ∧ e.lane < (k : Int)
          · have h2 : 0 ≤ e.lane ∧ e.lane < ((k + 1 : Nat) : Int) := by omega
            rw [List.filter_cons_of_pos (by rw [decide_eq_true h1]; simp [h7]), List.filter_cons_of_neg (by simp [h3]), List.filter_cons_of_pos (by rw [decide_eq_true h2]; simp [h7]), List.length_cons, List.length_cons]
            omega
          · have h2 : ¬ (0 ≤ e.lane ∧ e.lane < ((k + 1 : Nat) : Int)) := by omega
            rw [List.filter_cons_of_neg (by rw [decide_eq_false h1]; simp), List.filter_cons_of_neg (by simp [h3]), List.filter_cons_of_neg (by rw [decide_eq_false h2]; simp)]
            exact ih2
      · have h3 : wSel k e = false := by simp [wSel, h7]
        rw [List.filter_cons_of_neg (by simp [h7]), List.filter_cons_of_neg (by simp [h3]), List.filter_cons_of_neg (by simp [h7])]
        exact ih2
theorem waitR_le (all : List En) : (waitR all).length ≤ all.length := by
  unfold waitR
  rw [waitK_count]
  exact List.length_filter_le _ _
theorem waitK_mem (all : List En) (k : Nat) (e : En) : e ∈ waitK all k ↔ e ∈ all ∧ e.code = 7 ∧ 0 ≤ e.lane ∧ e.lane < k := by
  unfold waitK
  simp only [List.mem_flatMap, List.mem_range, List.mem_filter, wSel, Bool.and_eq_true, beq_iff_eq]
  constructor
  · rintro ⟨l, hl, he, h1, h2⟩
    exact ⟨he, h2, by omega, by omega⟩
  · rintro ⟨he, h2, h3, h4⟩
    exact ⟨e.lane.toNat, by omega, he, by omega, h2⟩
theorem waitR_mem (all : List En) (e : En) : e ∈ waitR all ↔ e ∈ all ∧ e.code = 7 ∧ 0 ≤ e.lane ∧ e.lane < 4 := waitK_mem all 4 e

/-- The entries have their numbers, and lanes that may be. -/
def GoodAll (all : List En) : Prop := ∀ (i : Nat) (h : i < all.length), all[i].number = i + 1 ∧ 0 ≤ all[i].lane ∧ all[i].lane < 4
theorem GoodAll.nil : GoodAll [] := fun i h => absurd h (by simp)
theorem GoodAll.snoc {all : List En} (h : GoodAll all) (c y : Int) (h1 : 0 ≤ y) (h2 : y < 4) : GoodAll (all ++ [⟨all.length + 1, c, y, 7⟩]) := by
  intro i hi
  by_cases hlt : i < all.length
  · rw [List.getElem_append_left hlt]; exact h i hlt
  · have : i = all.length := by simp at hi; omega
    subst this
    simp [h1, h2]
theorem setCode_get (code : Int) : ∀ (all : List En) (m i : Nat) (h : i < all.length), (setCode all m code)[i]'(by rw [setCode_length]; exact h) = if i = m then { all[i] with code := code } else all[i]
  | e :: l, 0, 0, _ => by simp [setCode]
  | e :: l, 0, i + 1, _ => by simp [setCode]
  | e :: l, m + 1, 0, _ => by simp [setCode]
  | e :: l, m + 1, i + 1, h => by
    simp only [setCode, List.getElem_cons_succ]
    rw [setCode_get code l m i (by simpa using h)]
    simp
theorem GoodAll.code {all : List En} (h : GoodAll all) (m : Nat) (code : Int) : GoodAll (setCode all m code) := by
  intro i hi
  rw [setCode_length] at hi
  rw [setCode_get code all m i hi]
  split
  · exact h i hi
  · exact h i hi
theorem GoodAll.mem {all : List En} (h : GoodAll all) {e : En} (he : e ∈ all) : 1 ≤ e.number ∧ e.number ≤ all.length ∧ 0 ≤ e.lane ∧ e.lane < 4 := by
  obtain ⟨i, hi, rfl⟩ := List.mem_iff_getElem.1 he
  have := h i hi
  omega
theorem GoodAll.at {all : List En} (h : GoodAll all) {e : En} (he : e ∈ all) (m : Nat) (hm : m < all.length) (hn : e.number = m + 1) : e = all[m] := by
  obtain ⟨i, hi, rfl⟩ := List.mem_iff_getElem.1 he
  have := h i hi
  obtain rfl : i = m := by omega
  rfl

/-- One that is new is put in behind those of its lane. -/
theorem ins_wait {all : List En} (h : GoodAll all) (c y : Int) (h1 : 0 ≤ y) (h2 : y < 4) : ins ltE (waitR all) ⟨all.length + 1, c, y, 7⟩ = waitR (all ++ [⟨all.length + 1, c, y, 7⟩]) := by
  obtain ⟨x, hx⟩ : ∃ x : En, x = ⟨all.length + 1, c, y, 7⟩ := ⟨_, rfl⟩
  have hxn : x.number = all.length + 1 := by rw [hx]
  have hxl : x.lane = y := by rw [hx]
  have hxc : x.code = 7 := by rw [hx]
  rw [← hx]
  obtain ⟨q, hq⟩ : ∃ q : Nat, (q : Int) = y := ⟨y.toNat, by omega⟩
  have hsel : ∀ l : Nat, wSel l x = decide (l = q) := fun l => by
    unfold wSel
    rw [hxl, hxc, ← hq]
    by_cases e : l = q
    · subst e; simp
    · have : ¬ ((q : Int) = l) := by omega
      simp [e, this]
  have hf : ∀ l : Nat, (all ++ [x]).filter (wSel l) = all.filter (wSel l) ++ if l = q then [x] else [] := fun l => by
    rw [List.filter_append]
    congr 1
    by_cases e : l = q
    · simp [hsel, e]
    · simp [hsel, e]
  have hlow : ∀ k, k ≤ q → waitK (all ++ [x]) k = waitK all k := fun k => by
    induction k with
    | zero => intro _; rfl
    | succ k ih =>
      intro hk
      rw [waitK_succ, waitK_succ, ih (by omega), hf, if_neg (by omega), List.append_nil]
  have hhigh : ∀ k, q < k → ∃ B, waitK all k = waitK all (q + 1) ++ B ∧ waitK (all ++ [x]) k = waitK all (q + 1) ++ x :: B ∧ ∀ e ∈ B, (q : Int) < e.lane := fun k => by
    induction k with
    | zero => intro h; omega
    | succ k ih =>
      intro hk
      by_cases e : k = q
      · subst e
        refine ⟨[], by simp, ?_, by simp⟩
        rw [waitK_succ (all ++ [x]), hlow k (Nat.le_refl _), hf, if_pos rfl, waitK_succ]
        simp
      · obtain ⟨B, b1, b2, b3⟩ := ih (by omega)
        refine ⟨B ++ all.filter (wSel k), ?_, ?_, ?_⟩
        · rw [waitK_succ, b1, List.append_assoc]
        · rw [waitK_succ, b2, hf, if_neg e]; simp
        · intro z hz
          rcases List.mem_append.1 hz with hz | hz
          · exact b3 z hz
          · have := (List.mem_filter.1 hz).2
            simp [wSel] at this
            omega
  obtain ⟨B, b1, b2, b3⟩ := hhigh 4 (by omega)
  have hp : placeOf ltE x (waitR all) = (waitK all (q + 1)).length := by
    have e1 : waitR all = waitK all (q + 1) ++ B := b1
    refine placeOf_eq _ _ _ _ (by rw [e1, List.length_append]; omega) (fun j hj hk => ?_) (fun h0 => ?_)
    · have hm : (waitR all)[j] ∈ B := by
        simp only [e1]
        rw [List.getElem_append_right hk]
        exact List.getElem_mem _
      rw [ltE_iff]
      have := b3 _ hm
      left; omega
    · have hm : (waitR all)[(waitK all (q + 1)).length - 1]'(by rw [e1, List.length_append]; omega) ∈ waitK all (q + 1) := by
        simp only [e1]
        rw [List.getElem_append_left (by omega)]
        exact List.getElem_mem _
      obtain ⟨g1, g2, g3, g4⟩ := (waitK_mem _ _ _).1 hm
      have g5 := h.mem g1
      cases hh : ltE x ((waitR all)[(waitK all (q + 1)).length - 1]'(by rw [e1, List.length_append]; omega)) with
      | false => rfl
      | true =>
        rw [ltE_iff, hxl, hxn] at hh
        omega
  unfold ins
  rw [hp]
  show _ = waitK (all ++ [x]) 4
  rw [b2, show waitR all = waitK all (q + 1) ++ B from b1, List.take_left, List.drop_left]

/-- One that is closed waits no more. -/
theorem wait_close {all : List En} (h : GoodAll all) (m : Nat) (code : Int) (hc : code ≠ 7) : (waitR all).filter (fun x => !byN (m + 1) x) = waitR (setCode all m code) := by
  have key : ∀ l : Nat, (all.filter (wSel l)).filter (fun x => !byN (m + 1) x) = (setCode all m code).filter (wSel l) := fun l => by
    have gen : ∀ (L : List En) (k : Nat), (∀ (i : Nat) (hi : i < L.length), (L[i].number = m + 1) ↔ (i = k)) → (L.filter (wSel l)).filter (fun x => !byN (m + 1) x) = (setCode L k code).filter (wSel l) := by
      intro L
      induction L with
      | nil => intro k _; rfl
      | cons e L ih =>
        intro k hk
        cases k with
        | zero =>
          have h0 := (hk 0 (by simp)).2 rfl
          have hn : ∀ z ∈ L, byN (m + 1) z = false := fun z hz => by
            obtain ⟨i, hi, rfl⟩ := List.mem_iff_getElem.1 hz
            have := hk (i + 1) (by simp; omega)
            simp only [List.getElem_cons_succ] at this
            have h9 : ¬ (L[i].number = m + 1) := fun e => by have := this.1 e; omega
            simpa [byN] using h9
          have hs : wSel l { e with code := code } = false := by simp [wSel, hc]
          simp only [setCode]
          rw [List.filter_cons (p := wSel l) (x := { e with code := code }), hs]
          simp only [Bool.false_eq_true, if_false]
          have hb : byN (m + 1) e = true := by simpa [byN] using h0
          have h3 : (L.filter (wSel l)).filter (fun x => !byN (m + 1) x) = L.filter (wSel l) := by
            rw [List.filter_eq_self]
            intro z hz
            rw [hn z (List.mem_filter.1 hz).1]; rfl
          rw [List.filter_cons]
          split
          · rw [List.filter_cons, hb]
            simpa using h3
          · exact h3
        | succ k =>
          have h0 : byN (m + 1) e = false := by
            have := hk 0 (by simp)
            have h9 : ¬ (e.number = m + 1) := fun e' => by have := this.1 e'; omega
            simpa [byN] using h9
          have ih' := ih k (fun i hi => by have := hk (i + 1) (by simp; omega); simp only [List.getElem_cons_succ] at this; omega)
          simp only [setCode]
          rw [List.filter_cons, List.filter_cons (p := wSel l)]
          split
          · rw [List.filter_cons, h0, ih']
            rfl
          · exact ih'
    exact gen all m (fun i hi => by have := h i hi; omega)
  unfold waitR waitK
  rw [List.filter_flatMap]
  congr 1
  funext l
  exact key l
theorem wait_any {all : List En} (h : GoodAll all) (m : Nat) (hm : m < all.length) : (waitR all).any (byN (m + 1)) = (all[m].code == 7) := by
  rw [Bool.eq_iff_iff, List.any_eq_true]
  constructor
  · rintro ⟨e, he, hn⟩
    have hh := (waitR_mem _ _).1 he
    have := h.at hh.1 m hm (by simpa [byN] using hn)
    subst this
    simpa using hh.2.1
  · intro hc
    have := h m hm
    exact ⟨all[m], (waitR_mem _ _).2 ⟨List.getElem_mem _, by simpa using hc, this.2⟩, by simp [byN]; omega⟩
theorem wait_none {all : List En} (h : GoodAll all) (n : Int) (hn : n < 1 ∨ (all.length : Int) < n) : (waitR all).any (byN n) = false := by
  rw [List.any_eq_false]
  intro e he
  have hh := h.mem ((waitR_mem _ _).1 he).1
  simp [byN]
  omega

/-- What an Add answers, and leaves; what a Close does. -/
def badArg (lanes c y : Int) : Prop := c < 1 ∨ y < 0 ∨ y ≥ lanes
instance (lanes c y : Int) : Decidable (badArg lanes c y) := inferInstanceAs (Decidable (_ ∨ _ ∨ _))
def isFull (pend : Int) (all : List En) : Prop := ((waitR all).length : Int) ≥ pend ∨ 60 ≤ all.length
instance (pend : Int) (all : List En) : Decidable (isFull pend all) := inferInstanceAs (Decidable (_ ∨ _))
def addR (pend lanes : Int) (all : List En) (c y : Int) : Int × Int × List En :=
  if badArg lanes c y then (0, 2, all) else if isFull pend all then (0, 3, all) else (all.length + 1, 0, all ++ [⟨all.length + 1, c, y, 7⟩])
def canClose (all : List En) (n code : Int) : Prop := code ≠ 7 ∧ (waitR all).any (byN n) = true
instance (all : List En) (n code : Int) : Decidable (canClose all n code) := inferInstanceAs (Decidable (_ ∧ _))
def closeR (all : List En) (n code : Int) : Bool × List En := if canClose all n code then (true, setCode all (n - 1).toNat code) else (false, all)
theorem addR_good {pend lanes : Int} {all : List En} {c y : Int} (h : GoodAll all) (hl : lanes ≤ 4) : GoodAll (addR pend lanes all c y).2.2 := by
  unfold addR
  split
  · exact h
  · rename_i hb
    split
    · exact h
    · unfold badArg at hb
      exact h.snoc c y (by omega) (by omega)
theorem closeR_good {all : List En} {n code : Int} (h : GoodAll all) : GoodAll (closeR all n code).2 := by
  unfold closeR
  split
  · exact h.code _ _
  · exact h
theorem canClose_at {all : List En} {n code : Int} (hg : GoodAll all) (h : canClose all n code) : ∃ m : Nat, n = m + 1 ∧ ∃ hm : m < all.length, all[m].code = 7 := by
  by_cases hr : n < 1 ∨ (all.length : Int) < n
  · rw [canClose, wait_none hg n hr] at h; cases h.2
  · obtain ⟨m, rfl⟩ : ∃ m : Nat, n = (m : Int) + 1 := ⟨(n - 1).toNat, by omega⟩
    have hm : m < all.length := by omega
    have := h.2
    rw [wait_any hg m hm] at this
    exact ⟨m, rfl, hm, by simpa using this⟩
end Go.Proofs.Ytjgcicpclojfgaa
