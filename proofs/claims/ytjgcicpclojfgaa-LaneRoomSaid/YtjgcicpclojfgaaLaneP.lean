/- Lanes: entries by numbers, a plain law. Conditions: none. -/
import Derived.Test.YtjgcicpclojfgaaLaneCl
namespace Go.Proofs.Ytjgcicpclojfgaa
open Go.RowKit Go.Shelf

def eR (k : Nat) : En := ⟨k + 1, k + 1, 0, 7⟩
def run : Nat → Nat → List En
  | _, 0 => []
  | a, n + 1 => eR a :: run (a + 1) n
theorem run_length : ∀ (a n : Nat), (run a n).length = n
  | _, 0 => rfl
  | a, n + 1 => congrArg (· + 1) (run_length (a + 1) n)
theorem run_snoc : ∀ (a n : Nat), run a (n + 1) = run a n ++ [eR (a + n)]
  | a, 0 => rfl
  | a, n + 1 => by rw [run, run_snoc (a + 1) n, run, show a + 1 + n = a + (n + 1) by omega]; rfl
theorem run_any (k : Nat) : ∀ (a n : Nat), (run a n).any (byN (k + 1)) = decide (a ≤ k ∧ k < a + n)
  | a, 0 => by simp [run]
  | a, n + 1 => by
    rw [run, List.any_cons, run_any k (a + 1) n]
    by_cases h : a = k
    · subst h; simp [byN, eR]
    · have : byN (k + 1) (eR a) = false := by simp [byN, eR]; omega
      rw [this, Bool.false_or]
      exact decide_eq_decide.2 (by omega)
theorem run_far (k : Nat) : ∀ (a n : Nat), k < a → (run a n).filter (fun x => !byN (k + 1) x) = run a n
  | a, 0, _ => rfl
  | a, n + 1, h => by
    have : byN (k + 1) (eR a) = false := by simp [byN, eR]; omega
    rw [run, List.filter_cons_of_pos (by simp [this]), run_far k (a + 1) n (by omega)]
theorem run_first (a n : Nat) : (run a (n + 1)).filter (fun x => !byN (a + 1) x) = run (a + 1) n := by
  rw [run, List.filter_cons_of_neg (by simp [byN, eR]), run_far a (a + 1) n (by omega)]
theorem run_ins (a n : Nat) : ins ltE (run a n) (eR (a + n)) = run a (n + 1) := by
  have hp : placeOf ltE (eR (a + n)) (run a n) = (run a n).length := by
    refine placeOf_eq _ _ _ _ (Nat.le_refl _) (fun j hj h => absurd hj (by omega)) (fun h => ?_)
    rw [run_length] at h
    obtain ⟨m, rfl⟩ : ∃ m, n = m + 1 := ⟨n - 1, by omega⟩
    have : (run a (m + 1))[(run a (m + 1)).length - 1]'(by rw [run_length]; omega) = eR (a + m) := by
      simp [run_snoc]
    rw [this]
    simp [ltE, eR, cmpI, or2]
    omega
  unfold ins
  rw [hp, List.take_length, List.drop_length, ← run_snoc]
end Go.Proofs.Ytjgcicpclojfgaa
