/- LaneOrder's plain law: who waits, in order. Conditions: none. -/
import Derived.Test.YtjgcicpclojfgaaLaneCl
import Derived.Test.YtjgcicpclojfgaaPileP
namespace Go.Proofs.Ytjgcicpclojfgaa
open Go.RowKit Go.Shelf

def eN (f : Nat → Nat) (i : Nat) : En := ⟨i + 1, 10 + i, f i, 7⟩
def wtN (f : Nat → Nat) (k : Nat) : List En := ((List.range k).map (eN f)).foldl (ins ltE) []
theorem wtN_succ (f : Nat → Nat) (k : Nat) : wtN f (k + 1) = ins ltE (wtN f k) (eN f k) := by
  unfold wtN
  rw [List.range_succ, List.map_append, List.foldl_append]
  rfl
theorem wtN_length (f : Nat → Nat) (k : Nat) : (wtN f k).length = k := by simp [wtN, foldl_ins_length]
theorem wtN_perm (f : Nat → Nat) (k : Nat) : (wtN f k).Perm ((List.range k).map (eN f)) := by
  have := foldl_ins_perm ltE ((List.range k).map (eN f)) []
  rwa [List.append_nil] at this
theorem wtN_mem (f : Nat → Nat) (k : Nat) (e : En) : e ∈ wtN f k ↔ ∃ i < k, eN f i = e := by
  rw [(wtN_perm f k).mem_iff]; simp
theorem ltE_iff (a b : En) : ltE a b = true ↔ a.lane < b.lane ∨ (a.lane = b.lane ∧ a.number < b.number) := by
  unfold ltE or2 cmpI
  by_cases h1 : a.lane < b.lane
  · simp [h1]
  · by_cases h2 : b.lane < a.lane
    · simp [h1, h2]; omega
    · have h3 : a.lane = b.lane := by omega
      by_cases h4 : a.number < b.number
      · simp [h3, h4]
      · by_cases h5 : b.number < a.number
        · simp [h3, h4, h5]
        · simp [h3, h4, h5]
theorem ltE_ord : IsOrd ltE := by
  have hf : ∀ a b, ltE a b = false ↔ ¬ (a.lane < b.lane ∨ (a.lane = b.lane ∧ a.number < b.number)) := fun a b => by rw [← ltE_iff]; simp
  refine ⟨fun a b h => ?_, fun a b c h1 h2 => ?_⟩
  · rw [ltE_iff] at h; rw [hf]; omega
  · rw [hf] at *; omega
theorem wtN_sorted (f : Nat → Nat) (k : Nat) : Sorted ltE (wtN f k) := foldl_ins_sorted ltE_ord _ List.Pairwise.nil
theorem wtN_nodup (f : Nat → Nat) (k : Nat) : (wtN f k).Pairwise (fun a b => a.number ≠ b.number) := by
  refine ((wtN_perm f k).pairwise_iff (fun h => Ne.symm h)).2 ?_
  rw [List.pairwise_map]
  refine List.nodup_range.imp (fun h => ?_)
  simp only [eN]
  omega

/-- Who is left when the first k are closed, as bits say. -/
def isOpen (b : Nat → Bool) (k : Nat) (e : En) : Bool := !(decide (e.number ≤ k) && b (e.number - 1).toNat)
def leftN (f : Nat → Nat) (n : Nat) (b : Nat → Bool) (k : Nat) : List En := (wtN f n).filter (isOpen b k)
def openN (b : Nat → Bool) (k : Nat) : Nat := ((List.range k).filter fun i => !b i).length
theorem isOpen_eN (f : Nat → Nat) (b : Nat → Bool) (k i : Nat) : isOpen b k (eN f i) = !(decide (i < k) && b i) := by
  have e1 : ((i : Int) + 1 - 1).toNat = i := by omega
  show (!(decide ((i : Int) + 1 ≤ k) && b ((i : Int) + 1 - 1).toNat)) = _
  rw [e1, show decide ((i : Int) + 1 ≤ k) = decide (i < k) from decide_eq_decide.2 (by omega)]
theorem leftN_zero (f : Nat → Nat) (n : Nat) (b : Nat → Bool) : leftN f n b 0 = wtN f n := by
  unfold leftN
  rw [List.filter_eq_self]
  intro e he
  obtain ⟨i, _, rfl⟩ := (wtN_mem f n e).1 he
  rw [isOpen_eN]; simp
theorem leftN_no (f : Nat → Nat) (n : Nat) (b : Nat → Bool) (k : Nat) (h : b k = false) : leftN f n b (k + 1) = leftN f n b k := by
  unfold leftN
  refine List.filter_congr (fun e he => ?_)
  obtain ⟨i, _, rfl⟩ := (wtN_mem f n e).1 he
  rw [isOpen_eN, isOpen_eN]
  by_cases hik : i = k
  · subst hik; simp [h]
  · rw [show decide (i < k + 1) = decide (i < k) from decide_eq_decide.2 (by omega)]
theorem leftN_yes (f : Nat → Nat) (n : Nat) (b : Nat → Bool) (k : Nat) (h : b k = true) : (leftN f n b k).filter (fun x => !byN (k + 1) x) = leftN f n b (k + 1) := by
  unfold leftN
  rw [List.filter_filter]
  refine List.filter_congr (fun e he => ?_)
  obtain ⟨i, _, rfl⟩ := (wtN_mem f n e).1 he
  rw [isOpen_eN, isOpen_eN]
  by_cases hik : i = k
  · subst hik; simp [h, byN, eN]
  · have h1 : byN ((k : Int) + 1) (eN f i) = false := by simp [byN, eN]; omega
    rw [h1, Bool.not_false, Bool.true_and, show decide (i < k + 1) = decide (i < k) from decide_eq_decide.2 (by omega)]
theorem leftN_mem (f : Nat → Nat) (n : Nat) (b : Nat → Bool) (k : Nat) (e : En) : e ∈ leftN f n b k ↔ ∃ i < n, eN f i = e ∧ (k ≤ i ∨ b i = false) := by
  unfold leftN
  rw [List.mem_filter, wtN_mem]
  constructor
  · rintro ⟨⟨i, hi, rfl⟩, h⟩
    rw [isOpen_eN] at h
    refine ⟨i, hi, rfl, ?_⟩
    by_cases hk : k ≤ i
    · exact .inl hk
    · refine .inr ?_
      rw [decide_eq_true (show i < k by omega)] at h
      simpa using h
  · rintro ⟨i, hi, rfl, h⟩
    refine ⟨⟨i, hi, rfl⟩, ?_⟩
    rw [isOpen_eN]
    rcases h with h | h
    · rw [decide_eq_false (show ¬ i < k by omega)]; rfl
    · rw [h]; simp
theorem leftN_any (f : Nat → Nat) (n : Nat) (b : Nat → Bool) (k : Nat) (hk : k < n) : (leftN f n b k).any (byN (k + 1)) = true := by
  rw [List.any_eq_true]
  exact ⟨eN f k, (leftN_mem f n b k _).2 ⟨k, hk, rfl, .inl (Nat.le_refl _)⟩, by simp [byN, eN]⟩
theorem leftN_none (f : Nat → Nat) (n : Nat) (b : Nat → Bool) (k : Nat) (h : b k = true) : (leftN f n b (k + 1)).any (byN (k + 1)) = false ∧ (leftN f n b (k + 1)).any (fun e => e.commit == (10 + (k : Int))) = false := by
  have : ∀ e ∈ leftN f n b (k + 1), e.number ≠ k + 1 ∧ e.commit ≠ 10 + k := by
    intro e he
    obtain ⟨i, _, rfl, h2⟩ := (leftN_mem f n b (k + 1) e).1 he
    have : i ≠ k := by
      rintro rfl
      rcases h2 with h2 | h2
      · omega
      · rw [h] at h2; cases h2
    show (i : Int) + 1 ≠ k + 1 ∧ 10 + (i : Int) ≠ 10 + k
    omega
  rw [List.any_eq_false, List.any_eq_false]
  exact ⟨fun e he => by simpa [byN] using (this e he).1, fun e he => by simpa using (this e he).2⟩
theorem leftN_length (f : Nat → Nat) (n : Nat) (b : Nat → Bool) : (leftN f n b n).length = openN b n := by
  unfold leftN openN
  rw [((wtN_perm f n).filter _).length_eq, List.filter_map, List.length_map]
  congr 1
  refine List.filter_congr (fun i hi => ?_)
  have hi := List.mem_range.1 hi
  show isOpen b n (eN f i) = _
  rw [isOpen_eN, decide_eq_true hi, Bool.true_and]
theorem openN_succ (b : Nat → Bool) (k : Nat) : openN b (k + 1) = openN b k + (if b k then 0 else 1) := by
  unfold openN
  rw [List.range_succ, List.filter_append, List.length_append]
  by_cases h : b k = true
  · simp [h]
  · simp [h]
/-- Two that follow one another. -/
theorem leftN_pair (f : Nat → Nat) (n : Nat) (b : Nat → Bool) (k i : Nat) (hi : i + 1 < (leftN f n b k).length) :
    (leftN f n b k)[i].lane < (leftN f n b k)[i + 1].lane ∨ ((leftN f n b k)[i].lane = (leftN f n b k)[i + 1].lane ∧ (leftN f n b k)[i].number < (leftN f n b k)[i + 1].number) := by
  have h1 : (leftN f n b k).Pairwise (fun a c => ltE c a = false) := (wtN_sorted f n).filter _
  have h2 : (leftN f n b k).Pairwise (fun a c => a.number ≠ c.number) := (wtN_nodup f n).filter _
  have g1 := List.pairwise_iff_getElem.1 h1 i (i + 1) (by omega) hi (by omega)
  have g2 := List.pairwise_iff_getElem.1 h2 i (i + 1) (by omega) hi (by omega)
  have g3 : ¬ _ := fun h => by rw [(ltE_iff _ _).2 h] at g1; cases g1
  omega
end Go.Proofs.Ytjgcicpclojfgaa
