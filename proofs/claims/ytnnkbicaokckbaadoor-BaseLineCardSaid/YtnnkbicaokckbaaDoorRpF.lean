/- A repo beside other rows: what an adding leaves alone. Conditions: none. -/
import Derived.Test.YtnnkbicaokckbaaDoorRpL
namespace Go.Proofs.YtnnkbicaokckbaaDoor
open Go.RowKit Go.Shelf

variable {base : Nat} {w : World} {p : Nat} {room : Int}
/-- A repo of which only the commits are told, that lies off the blocks N. -/
def RepoOff (base : Nat) (w : World) (p : Nat) (cs : List Cm) (room : Int) (N : Nat → Prop) : Prop := ∃ ao cap l, RepoAt base w p ao cap l room ∧ cms l = cs ∧ ∀ k, RB p ao l k → ¬ N k
theorem RepoOff.is {cs : List Cm} {N : Nat → Prop} (h : RepoOff base w p cs room N) : RepoIs base w p cs room := by
  obtain ⟨ao, cap, l, h, e, -⟩ := h
  exact ⟨ao, cap, l, h, e⟩
theorem RepoOff.of_is {cs : List Cm} {N : Nat → Prop} (h : RepoIs base w p cs room) (hN : ∀ k, base ≤ k → k < w.heap.size → ¬ N k) : RepoOff base w p cs room N := by
  obtain ⟨ao, cap, l, h, e⟩ := h
  exact ⟨ao, cap, l, h, e, fun k hk => hN k (h.rbl hk).1 (h.rbl hk).2⟩
theorem RepoOff.chg {S : Nat → Prop} {w' : World} {cs : List Cm} {N : Nat → Prop} (h : RepoOff base w p cs room N) (c : Chg S w w') (hS : ∀ k, base ≤ k → k < w.heap.size → S k → N k) : RepoOff base w' p cs room N := by
  obtain ⟨ao, cap, l, h, e, hn⟩ := h
  exact ⟨ao, cap, l, h.turn c (fun k hk hs => hn k hk (hS k (h.rbl hk).1 (h.rbl hk).2 hs)), e, hn⟩
theorem RepoOff.off {cs : List Cm} {N N' : Nat → Prop} (h : RepoOff base w p cs room N) (hN : ∀ k, base ≤ k → k < w.heap.size → N' k → N k) : RepoOff base w p cs room N' := by
  obtain ⟨ao, cap, l, h, e, hn⟩ := h
  exact ⟨ao, cap, l, h, e, fun k hk hs => hn k hk (hN k (h.rbl hk).1 (h.rbl hk).2 hs)⟩
theorem RepoOff.add {cs : List Cm} {N : Nat → Prop} (h : RepoOff base w p cs room N) (hN : ∀ k, N k → k < w.heap.size) (hM : Mx w) (y : CmV) (hy : CmAt w y) (fy : Few y.c) (hl : cs.length < 1000) :
    Calls Tryd.prog 18 #[.pointer (some ⟨p, 0, none⟩), y.val] w fun e w' => e = .returned (.tuple #[.int .i64 (addR cs room y.c).1, .int .i64 (addR cs room y.c).2]) ∧ RepoOff base w' p (addL cs room y.c) room N ∧ Chg (fun k => base ≤ k ∧ ¬ N k) w w' := by
  obtain ⟨ao, cap, l, h, rfl, hn⟩ := h
  rw [cms_length] at hl
  refine (repo_Add h hM y hy fy hl).mono ?_
  rintro e w' ⟨rfl, ⟨ao', cap', l', h', hl', hrb⟩, hc⟩
  refine ⟨rfl, ⟨ao', cap', l', h', hl', fun k hk hs => ?_⟩, hc.mono (fun k _ hS => ⟨(h.rbl (.inl hS)).1, hn k (.inl hS)⟩)⟩
  rcases hrb k hk with hk | hk
  · exact hn k hk hs
  · have := hN k hs; omega
end Go.Proofs.YtnnkbicaokckbaaDoor
