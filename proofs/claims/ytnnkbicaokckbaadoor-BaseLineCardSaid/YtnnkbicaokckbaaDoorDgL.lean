/- The graph of commits: parents, what is ahead as a scan tells it, and as a pile does; depths; the line of first parents. No program is named. Conditions: parents are lesser numbers. -/
import Derived.Test.YtnnkbicaokckbaaDoorPileP
import Derived.Test.YtnnkbicaokckbaaDoorRpA
namespace Go.Proofs.YtnnkbicaokckbaaDoor
open Go.RowKit Go.Shelf

def parN (cs : List Cm) (n : Int) : List Int := if 1 ≤ n ∧ n ≤ (cs.length : Int) then (cs.getD (n.toNat - 1) cm0).parents else []
structure DagOk (cs : List Cm) : Prop where
  par : ∀ n x, x ∈ parN cs n → 1 ≤ x ∧ x < n
  few : ∀ n, (parN cs n).length ≤ 2
  len : cs.length ≤ 60
theorem parN_in {cs : List Cm} {k : Nat} (h : k < cs.length) {n : Int} (hn : n = (k : Int) + 1) : parN cs n = cs[k].parents := by
  subst hn
  have e : ((k : Int) + 1).toNat - 1 = k := by omega
  rw [parN, if_pos (by omega), e]
  simp [List.getD_eq_getElem?_getD, h]
theorem parN_out {cs : List Cm} {n : Int} (h : n < 1 ∨ n > (cs.length : Int)) : parN cs n = [] := by rw [parN, if_neg (by omega)]
theorem parN_range {cs : List Cm} {n x : Int} (h : x ∈ parN cs n) : 1 ≤ n ∧ n ≤ (cs.length : Int) := by
  unfold parN at h
  split at h
  · assumption
  · cases h

def scan (cs : List Cm) : Nat → (Int → Bool) → List Int
  | 0, _ => []
  | k + 1, m => if m ((k : Int) + 1) = true then ((k : Int) + 1) :: scan cs k (fun j => m j || (parN cs ((k : Int) + 1)).contains j) else scan cs k m
def aheadN (cs : List Cm) (n : Int) : List Int := if 1 ≤ n ∧ n ≤ (cs.length : Int) then scan cs n.toNat (fun j => j == n) else []
theorem scan_congr (cs : List Cm) : ∀ (k : Nat) (m m' : Int → Bool), (∀ j : Int, 1 ≤ j → j ≤ (k : Int) → m j = m' j) → scan cs k m = scan cs k m'
  | 0, _, _, _ => rfl
  | k + 1, m, m', h => by
    have h1 := h ((k : Int) + 1) (by omega) (by omega)
    unfold scan
    rw [h1, scan_congr cs k _ (fun j => m' j || (parN cs ((k : Int) + 1)).contains j) (fun j h2 h3 => by rw [h j h2 (by omega)]), scan_congr cs k m m' (fun j h2 h3 => h j h2 (by omega))]
theorem scan_skip (cs : List Cm) (k : Nat) : ∀ (d : Nat) (m : Int → Bool), (∀ j : Int, (k : Int) < j → j ≤ (k : Int) + d → m j = false) → scan cs (k + d) m = scan cs k m
  | 0, _, _ => rfl
  | d + 1, m, h => by
    have e : ((k + d : Nat) : Int) + 1 = (k : Int) + (d + 1 : Nat) := by omega
    have h1 := h (((k + d : Nat) : Int) + 1) (by omega) (by omega)
    rw [← Nat.add_assoc]
    rw [scan, h1, if_neg (by decide)]
    exact scan_skip cs k d m (fun j h2 h3 => h j h2 (by omega))

/-- A greater number comes first. -/
def gtB (a b : Int) : Bool := decide (a > b)
theorem gt_ord : IsOrd gtB := by
  refine ⟨?_, ?_⟩ <;> intros <;> simp_all [gtB] <;> omega
/-- What is still to be told, by a pile. -/
def restN (cs : List Cm) (L : Int) (P : List Int) : List Int := scan cs (L - 1).toNat (fun j => P.contains j)
structure PInv (cs : List Cm) (L : Int) (P : List Int) : Prop where
  srt : Sorted gtB P
  rng : ∀ x ∈ P, 1 ≤ x ∧ x ≤ L
  top : 0 ≤ L ∧ L ≤ (cs.length : Int) + 1
theorem rest_nil (cs : List Cm) (L : Int) : restN cs L [] = [] := by
  unfold restN
  have : ∀ k, scan cs k (fun j => ([] : List Int).contains j) = [] := by
    intro k
    induction k with
    | zero => rfl
    | succ k ih => rw [scan]; simp at ih ⊢; exact ih
  exact this _
theorem rest_start {cs : List Cm} {n : Int} (h : 1 ≤ n ∧ n ≤ (cs.length : Int)) : restN cs (n + 1) [n] = aheadN cs n := by
  unfold restN aheadN
  rw [if_pos h, show (n + 1 - 1).toNat = n.toNat by omega]
  refine scan_congr _ _ _ _ (fun j _ _ => ?_)
  simp
  by_cases e : j = n <;> simp [e]
theorem PInv.old {cs : List Cm} {L : Int} {P : List Int} (h : PInv cs L (L :: P)) : restN cs L (L :: P) = restN cs L P ∧ PInv cs L P := by
  refine ⟨?_, (List.pairwise_cons.1 h.srt).2, fun x hx => h.rng x (List.mem_cons_of_mem _ hx), h.top⟩
  unfold restN
  refine scan_congr _ _ _ _ (fun j h1 h2 => ?_)
  have hj : j ≠ L := by omega
  simp [hj]
theorem PInv.new {cs : List Cm} (hd : DagOk cs) {L c : Int} {P : List Int} (h : PInv cs L (c :: P)) (hc : c < L) :
    restN cs L (c :: P) = c :: restN cs c ((parN cs c).foldl (ins gtB) P) ∧ PInv cs c ((parN cs c).foldl (ins gtB) P) := by
  have hr := h.rng c (by simp)
  have hs := List.pairwise_cons.1 h.srt
  have hle : ∀ x ∈ P, x ≤ c := fun x hx => by
    have := hs.1 x hx
    simp [gtB] at this
    exact this
  have hp := foldl_ins_perm gtB (parN cs c) P
  have hmem : ∀ x, x ∈ (parN cs c).foldl (ins gtB) P ↔ x ∈ parN cs c ∨ x ∈ P := fun x => by rw [hp.mem_iff, List.mem_append]
  refine ⟨?_, foldl_ins_sorted gt_ord _ hs.2, fun x hx => ?_, by have := h.top; omega⟩
  · obtain ⟨k, hk⟩ : ∃ k : Nat, c = (k : Int) + 1 := ⟨(c - 1).toNat, by omega⟩
    obtain ⟨d, hdd⟩ : ∃ d : Nat, L - 1 = ((k + 1 : Nat) : Int) + d := ⟨(L - 1 - c).toNat, by omega⟩
    have e1 : (L - 1).toNat = (k + 1) + d := by omega
    have e2 : (c - 1).toNat = k := by omega
    unfold restN
    rw [e1, scan_skip cs (k + 1) d _ (fun j h1 h2 => by
      have : j ∉ c :: P := fun hj => by
        rcases List.mem_cons.1 hj with e | e
        · omega
        · have := hle j e; omega
      simpa using this)]
    rw [scan, if_pos (by rw [← hk]; simp), ← hk, e2]
    refine congrArg _ (scan_congr _ _ _ _ (fun j h1 h2 => ?_))
    have hj : j ≠ c := by omega
    have : (j ∈ (parN cs c).foldl (ins gtB) P) ↔ (j ∈ P ∨ j ∈ parN cs c) := by rw [hmem, or_comm]
    rw [Bool.eq_iff_iff]
    simp [this, hj]
  · rcases (hmem x).1 hx with hx | hx
    · have := hd.par c x hx; omega
    · have := hle x hx; have := h.rng x (List.mem_cons_of_mem _ hx); omega
theorem PInv.len {cs : List Cm} (hd : DagOk cs) (c : Int) (P : List Int) : ((parN cs c).foldl (ins gtB) P).length ≤ P.length + 2 := by
  rw [foldl_ins_length]
  have := hd.few c
  omega

/-- The depths of the first k commits, behind a zero. -/
def depL (cs : List Cm) : Nat → List Int
  | 0 => [0]
  | k + 1 => depL cs k ++ [1 + (parN cs ((k : Int) + 1)).foldl (fun d p => max d ((depL cs k).getD p.toNat 0)) 0]
def depthN (cs : List Cm) (n : Int) : Int := if 1 ≤ n ∧ n ≤ (cs.length : Int) then (depL cs n.toNat).getD n.toNat 0 else 0
theorem depL_length (cs : List Cm) : ∀ k, (depL cs k).length = k + 1
  | 0 => rfl
  | k + 1 => by rw [depL, List.length_append, depL_length cs k]; rfl
theorem depL_get (cs : List Cm) {j k : Nat} (h : j ≤ k) : (depL cs k).getD j 0 = (depL cs j).getD j 0 := by
  induction k with
  | zero => (obtain rfl : j = 0 := by omega); rfl
  | succ k ih =>
    by_cases e : j = k + 1
    · rw [e]
    · rw [← ih (by omega), depL, List.getD_eq_getElem?_getD, List.getElem?_append_left (by rw [depL_length]; omega), ← List.getD_eq_getElem?_getD]
/-- The line of first parents, f steps at most. -/
def firstF (cs : List Cm) : Nat → Int → List Int
  | 0, _ => []
  | f + 1, n => if 1 ≤ n ∧ n ≤ (cs.length : Int) then n :: (match parN cs n with | [] => [] | p :: _ => firstF cs f p) else []
def firstN (cs : List Cm) (n : Int) : List Int := firstF cs n.toNat n
theorem firstF_enough {cs : List Cm} (hd : DagOk cs) : ∀ (f : Nat) (n : Int), n.toNat ≤ f → firstF cs f n = firstF cs n.toNat n
  | 0, n, h => by rw [show n.toNat = 0 by omega]
  | f + 1, n, h => by
    by_cases hr : 1 ≤ n ∧ n ≤ (cs.length : Int)
    · obtain ⟨k, hk⟩ : ∃ k, n.toNat = k + 1 := ⟨n.toNat - 1, by omega⟩
      rw [hk, firstF, firstF, if_pos hr, if_pos hr]
      cases hp : parN cs n with
      | nil => rfl
      | cons p ps =>
        have hpn := hd.par n p (by rw [hp]; simp)
        have e1 := firstF_enough hd f p (by omega)
        have e2 := firstF_enough hd k p (by omega)
        simp only [e1, e2]
    · have e0 : ∀ g, firstF cs g n = [] := fun g => by
        cases g with
        | zero => rfl
        | succ g => rw [firstF, if_neg hr]
      rw [e0, e0]
theorem firstN_out {cs : List Cm} {n : Int} (hr : ¬ (1 ≤ n ∧ n ≤ (cs.length : Int))) : firstN cs n = [] := by
  unfold firstN
  cases n.toNat with
  | zero => rfl
  | succ g => rw [firstF, if_neg hr]
theorem firstN_in {cs : List Cm} (hd : DagOk cs) {n : Int} (hr : 1 ≤ n ∧ n ≤ (cs.length : Int)) : firstN cs n = n :: (match parN cs n with | [] => [] | p :: _ => firstN cs p) := by
  obtain ⟨k, hk⟩ : ∃ k, n.toNat = k + 1 := ⟨n.toNat - 1, by omega⟩
  unfold firstN
  rw [hk, firstF, if_pos hr]
  cases hp : parN cs n with
  | nil => rfl
  | cons p ps =>
    have hpn := hd.par n p (by rw [hp]; simp)
    simp only [firstF_enough hd k p (by omega)]
theorem scan_length (cs : List Cm) : ∀ (k : Nat) (m : Int → Bool), (scan cs k m).length ≤ k
  | 0, _ => Nat.le_refl _
  | k + 1, m => by
    rw [scan]
    split
    · have := scan_length cs k (fun j => m j || (parN cs ((k : Int) + 1)).contains j)
      simp only [List.length_cons]; omega
    · have := scan_length cs k m; omega
theorem aheadN_length (cs : List Cm) (n : Int) : (aheadN cs n).length ≤ cs.length := by
  unfold aheadN
  split
  · have := scan_length cs n.toNat (fun j => j == n); omega
  · simp
theorem firstF_length (cs : List Cm) : ∀ (f : Nat) (n : Int), (firstF cs f n).length ≤ f
  | 0, _ => Nat.le_refl _
  | f + 1, n => by
    rw [firstF]
    split
    · split
      · simp
      · rename_i p ps _
        have := firstF_length cs f p
        simp only [List.length_cons]; omega
    · simp
theorem firstN_length (cs : List Cm) (n : Int) : (firstN cs n).length ≤ cs.length := by
  by_cases hr : 1 ≤ n ∧ n ≤ (cs.length : Int)
  · have := firstF_length cs n.toNat n
    unfold firstN; omega
  · rw [firstN_out hr]; simp
end Go.Proofs.YtnnkbicaokckbaaDoor
