/- What two commits have in common, and the best of it, on lists. No program is named. Conditions: parents are lesser numbers. -/
import Derived.Test.YtnnkbicaokckbaaDoorDgR
namespace Go.Proofs.YtnnkbicaokckbaaDoor
open Go.RowKit Go.Shelf

/-- Of two falling lists what stands in both, rising. -/
def restL (X Y : List Int) : List Int := (X.filter (fun v => Y.contains v)).reverse
def commonN (cs : List Cm) (a b : Int) : List Int := restL (aheadN cs a) (aheadN cs b)
theorem restL_nil (Y : List Int) : restL [] Y = [] := rfl
theorem restL_nil' (X : List Int) : restL X [] = [] := by simp [restL]
theorem falls_take {X : List Int} (h : Falls X) {i : Nat} (hi : i < X.length) : X.take (i + 1) = X.take i ++ [X[i]] ∧ ∀ v ∈ X.take i, v > X[i] := by
  have e : X.take (i + 1) = X.take i ++ [X[i]] := (List.take_append_getElem hi).symm
  refine ⟨e, fun v hv => ?_⟩
  have hf : Falls (X.take i ++ [X[i]]) := by rw [← e]; exact List.Pairwise.sublist (List.take_sublist _ _) h
  exact (List.pairwise_append.1 hf).2.2 v hv _ (by simp)
theorem filter_congr' {α : Type} {p q : α → Bool} {l : List α} (h : ∀ x ∈ l, p x = q x) : l.filter p = l.filter q := List.filter_congr h
theorem restL_eq {X Y : List Int} (hX : Falls X) (hY : Falls Y) {i k : Nat} (hi : i < X.length) (hk : k < Y.length) (e : X[i] = Y[k]) : restL (X.take (i + 1)) (Y.take (k + 1)) = X[i] :: restL (X.take i) (Y.take k) := by
  obtain ⟨e1, h1⟩ := falls_take hX hi
  obtain ⟨e2, h2⟩ := falls_take hY hk
  have hc : (Y.take (k + 1)).contains X[i] = true := by rw [List.contains_iff_mem, e2, e]; exact List.mem_append.2 (.inr (List.mem_singleton.2 rfl))
  have hf : (X.take i).filter (fun v => (Y.take (k + 1)).contains v) = (X.take i).filter (fun v => (Y.take k).contains v) := filter_congr' (fun v hv => by
    have := h1 v hv
    have hne : v ≠ Y[k] := by omega
    rw [Bool.eq_iff_iff, List.contains_iff_mem, List.contains_iff_mem, e2, List.mem_append, List.mem_singleton]
    exact ⟨fun h => h.resolve_right hne, .inl⟩)
  rw [restL, restL, e1, List.filter_append, List.reverse_append, hf]
  simp only [List.filter_cons, hc, if_true, List.filter_nil, List.reverse_cons, List.reverse_nil, List.nil_append, List.singleton_append]
theorem restL_lt {X Y : List Int} (hX : Falls X) (hY : Falls Y) {i k : Nat} (hi : i < X.length) (hk : k < Y.length) (e : X[i] < Y[k]) : restL (X.take (i + 1)) (Y.take (k + 1)) = restL (X.take i) (Y.take (k + 1)) := by
  obtain ⟨e1, -⟩ := falls_take hX hi
  obtain ⟨e2, h2⟩ := falls_take hY hk
  have hc : (Y.take (k + 1)).contains X[i] = false := by
    rw [← Bool.not_eq_true, List.contains_iff_mem, e2, List.mem_append, List.mem_singleton]
    rintro (h | h)
    · have := h2 _ h; omega
    · omega
  rw [restL, restL, e1, List.filter_append]
  simp only [List.filter_cons, hc, List.filter_nil, List.append_nil, Bool.false_eq_true, if_false]
theorem restL_gt {X Y : List Int} (hX : Falls X) (hY : Falls Y) {i k : Nat} (hi : i < X.length) (hk : k < Y.length) (e : Y[k] < X[i]) : restL (X.take (i + 1)) (Y.take (k + 1)) = restL (X.take (i + 1)) (Y.take k) := by
  obtain ⟨e1, h1⟩ := falls_take hX hi
  obtain ⟨e2, -⟩ := falls_take hY hk
  unfold restL
  refine congrArg _ (filter_congr' (fun v hv => ?_))
  have hv2 : v ≥ X[i] := by
    rw [e1, List.mem_append, List.mem_singleton] at hv
    rcases hv with h | h
    · have := h1 v h; omega
    · omega
  have hne : v ≠ Y[k] := by omega
  rw [Bool.eq_iff_iff, List.contains_iff_mem, List.contains_iff_mem, e2, List.mem_append, List.mem_singleton]
  exact ⟨fun h => h.resolve_right hne, .inl⟩
/-- Rising, each once. -/
def Rises (l : List Int) : Prop := l.Pairwise (fun a b => a < b)
theorem restL_rises {X Y : List Int} (hX : Falls X) : Rises (restL X Y) := by
  unfold restL Rises
  rw [List.pairwise_reverse]
  exact List.Pairwise.sublist List.filter_sublist hX
theorem common_mem {cs : List Cm} {a b x : Int} : x ∈ commonN cs a b ↔ x ∈ aheadN cs a ∧ x ∈ aheadN cs b := by
  unfold commonN restL
  rw [List.mem_reverse, List.mem_filter, List.contains_iff_mem]
theorem common_rises (cs : List Cm) (a b : Int) : Rises (commonN cs a b) := restL_rises (ahead_falls cs a)
theorem common_len (cs : List Cm) (a b : Int) : (commonN cs a b).length ≤ cs.length := by
  unfold commonN restL
  rw [List.length_reverse]
  exact Nat.le_trans (List.length_filter_le _ _) (aheadN_length cs a)
/-- The best ones out of a falling list: those that no other one covers. -/
def bestF (cs : List Cm) : List Int → (Int → Bool) → List Int
  | [], _ => []
  | x :: l, cov => if cov x = true then bestF cs l cov else x :: bestF cs l (fun y => cov y || (aheadN cs x).contains y)
theorem bestF_congr (cs : List Cm) : ∀ (l : List Int) (f g : Int → Bool), (∀ x ∈ l, f x = g x) → bestF cs l f = bestF cs l g
  | [], _, _, _ => rfl
  | x :: l, f, g, h => by
    have h1 := h x (by simp)
    unfold bestF
    rw [h1, bestF_congr cs l f g (fun y hy => h y (by simp [hy])), bestF_congr cs l (fun y => f y || (aheadN cs x).contains y) (fun y => g y || (aheadN cs x).contains y) (fun y hy => by rw [h y (by simp [hy])])]
def bestN (cs : List Cm) (a b : Int) : List Int := (bestF cs (commonN cs a b).reverse (fun _ => false)).reverse
theorem bestF_sub (cs : List Cm) : ∀ (l : List Int) (f : Int → Bool), (bestF cs l f).Sublist l
  | [], _ => List.Sublist.refl _
  | x :: l, f => by
    unfold bestF
    split
    · exact (bestF_sub cs l f).cons x
    · exact (bestF_sub cs l _).cons_cons x
theorem bestF_len (cs : List Cm) (l : List Int) (f : Int → Bool) : (bestF cs l f).length ≤ l.length := (bestF_sub cs l f).length_le
theorem best_len (cs : List Cm) (a b : Int) : (bestN cs a b).length ≤ cs.length := by
  unfold bestN
  rw [List.length_reverse]
  have h1 := bestF_len cs (commonN cs a b).reverse (fun _ => false)
  have h2 := common_len cs a b
  rw [List.length_reverse] at h1
  omega
end Go.Proofs.YtnnkbicaokckbaaDoor
