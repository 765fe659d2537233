/- How long what is read can be. No program is named. Conditions: none. -/
import Derived.Test.YtjmmmpnpkialjaaDoorRqL
namespace Go.Proofs.YtjmmmpnpkialjaaDoor
open Go.RowKit Go.Shelf

theorem rdAllG_len {τ : Type} {rd : List UInt8 → Int → τ × Int × Bool} {b : List UInt8} : ∀ (n : Nat) (p : Int) (l : List τ) (q : Int), rdAllG rd b n p = some (l, q) → l.length = n
  | 0, p, l, q, h => by cases h; rfl
  | n + 1, p, l, q, h => by
    rw [rdAllG] at h
    split at h
    · obtain ⟨r, h1, h2⟩ := Option.map_eq_some_iff.1 h
      have h3 := rdAllG_len n _ r.1 r.2 h1
      cases h2
      simp [h3]
    · cases h
theorem rdListG_len {τ : Type} (rd : List UInt8 → Int → τ × Int × Bool) (b : List UInt8) (p most : Int) : ((rdListG rd b p most).1.length : Int) ≤ most ∨ (rdListG rd b p most).1 = [] := by
  unfold rdListG
  split
  · rename_i h
    split
    · rename_i l q e
      have := rdAllG_len _ _ _ _ e
      left
      simp only
      omega
    · exact .inr rfl
  · exact .inr rfl
theorem rdText_len (b : List UInt8) (p : Int) : (rdText b p).1.size ≤ b.length := by
  unfold rdText
  split
  · show ((b.drop (rdNum b p).2.1.toNat).take (rdNum b p).1.toNat).toArray.size ≤ b.length
    simp only [List.size_toArray, List.length_take, List.length_drop]
    omega
  · exact Nat.zero_le _
theorem rdCommit_few (b : List UInt8) (p : Int) : Few (rdCommit b p).1 ∧ (rdCommit b p).1.note.size ≤ b.length := by
  unfold rdCommit
  split
  · split
    · refine ⟨⟨?_, ?_⟩, rdText_len _ _⟩
      · rcases rdListG_len rdNum b p 2 with h | h
        · show (rdListG rdNum b p 2).1.length ≤ 1000000
          omega
        · show (rdListG rdNum b p 2).1.length ≤ 1000000
          rw [h]; exact Nat.zero_le _
      · rcases rdListG_len rdFile b (rdListG rdNum b p 2).2.1 12 with h | h
        · show (rdListG rdFile b (rdListG rdNum b p 2).2.1 12).1.length ≤ 1000000
          omega
        · show (rdListG rdFile b (rdListG rdNum b p 2).2.1 12).1.length ≤ 1000000
          rw [h]; exact Nat.zero_le _
    · exact ⟨⟨Nat.zero_le _, Nat.zero_le _⟩, Nat.zero_le _⟩
  · exact ⟨⟨Nat.zero_le _, Nat.zero_le _⟩, Nat.zero_le _⟩
end Go.Proofs.YtjmmmpnpkialjaaDoor
