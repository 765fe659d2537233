/- What is laid of a request, in one form. Conditions: none. -/
import Derived.Test.YtjmmmpnpkialjaaDoorReqV
import Derived.Test.YtjmmmpnpkialjaaDoorRqU
namespace Go.Proofs.YtjmmmpnpkialjaaDoor
open Go.RowKit Go.Shelf

/-- The bytes of a request; of one that may not be: none. -/
def layZ (r : Rq) : List UInt8 := if mayRq r = true then layRq r else []
def layE (r : Rq) : Int := if mayRq r = true then 0 else 2
theorem layZ_len (r : Rq) : (layZ r).length ≤ 60000 := by
  unfold layZ
  split
  · rename_i h
    have hs := mayRq_small h
    obtain ⟨k, i, n, l, p, c⟩ := r
    simp only [layRq, List.length_append, nums_length, List.length_cons, List.length_nil]
    split
    · rename_i hk
      have h1 := hs.push hk
      simp only at h1
      have h5 := flatMap_le flB 4000 c.tree (fun x hx => by have := h1.fs x hx; rw [flB_length]; omega)
      have h6 := h1.ts
      have h7 := h1.ps
      have h8 := h1.nt
      have h9 : (txts [c.note]).length = 8 + c.note.size := by simp [txts, num8_length, sb_length]
      simp only [layC, List.length_append, num8_length, nums_length, h9]
      omega
    · simp
  · simp
theorem request_LayZ (w : World) (q : RqV) (hx : CmAt w q.x) (fx : Few q.x.c) (hn : q.x.c.note.size ≤ 140737488351232) (hM : Mx w) :
    Calls Tryd.prog 12 #[q.val] w fun e w' => Below w.heap.size w w' ∧ ∃ ao cap, e = .returned (.tuple #[.slice ao (layZ q.r).length cap, .int .i64 (layE q.r)]) ∧ w'.ownsRow w.heap.size 5 1 (.slice ao (layZ q.r).length cap) (layZ q.r).length (u8s (layZ q.r)) ∧ (mayRq q.r = false → ao = none) := by
  refine (request_Lay w q hx fx hn hM).mono ?_
  rintro e w' ⟨hb, ⟨hm, rfl⟩ | ⟨hm, ao, cap, rfl, ho⟩⟩
  · rw [layZ, layE, if_neg (by simp [hm]), if_neg (by simp [hm])]
    exact ⟨hb, none, 0, rfl, World.ownsRow_nil _ _ _ _, fun _ => rfl⟩
  · rw [layZ, layE, if_pos hm, if_pos hm]
    exact ⟨hb, ao, cap, rfl, ho, fun h => by rw [hm] at h; cases h⟩
theorem ref17_LayZ (w : World) (q : RqV) (hx : CmAt w q.x) (fx : Few q.x.c) (hsz : ∀ f ∈ q.x.c.tree, f.path.size ≤ 100000) :
    Calls Tryd.prog 13 #[q.val] w fun e w' => Below w.heap.size w w' ∧ ∃ ao cap, e = .returned (.tuple #[.slice ao (layZ q.r).length cap, .int .i64 (layE q.r)]) ∧ w'.ownsRow w.heap.size 5 1 (.slice ao (layZ q.r).length cap) (layZ q.r).length (u8s (layZ q.r)) := by
  refine (ref17_Lay w q hx fx hsz).mono ?_
  rintro e w' ⟨hb, ⟨hm, rfl⟩ | ⟨hm, ao, cap, rfl, ho⟩⟩
  · rw [layZ, layE, if_neg (by simp [hm]), if_neg (by simp [hm])]
    exact ⟨hb, none, 0, rfl, World.ownsRow_nil _ _ _ _⟩
  · rw [layZ, layE, if_pos hm, if_pos hm]
    exact ⟨hb, ao, cap, rfl, ho⟩
theorem great_small {c : Cm} (h : greatC c = false) : Few c ∧ c.note.size ≤ 140737488351232 ∧ ∀ f ∈ c.tree, f.path.size ≤ 100000 := by
  refine ⟨Few.of_great h, ?_, ?_⟩
  · simp only [greatC, Bool.or_eq_false_iff, decide_eq_false_iff_not] at h
    omega
  · simp only [greatC, greatT, Bool.or_eq_false_iff, List.any_eq_false] at h
    intro f hf
    have h5 := h.1.2.2 f hf
    simp only [bigF, Bool.or_eq_true, decide_eq_true_eq, not_or] at h5
    omega
end Go.Proofs.YtjmmmpnpkialjaaDoor
