/- A request as a statement is handed it. Conditions: none. -/
import Derived.Test.YtjmmmpnpkialjaaDoorReqB
import Derived.Test.YtjmmmpnpkialjaaDoorCmD
namespace Go.Proofs.YtjmmmpnpkialjaaDoor
open Go.RowKit Go.Shelf

section
variable {H : Type} {enc : TypeId × Value → H} {W : World}
theorem request_of_readable {cs : List Value} (h : Readable enc Tryd.prog W 27 cs) : ∃ q : RqV, cs = [.int .i64 q.kind, .int .i64 q.id, .int .i64 q.number, .int .i64 q.lane, .bool q.pass, q.x.vp, q.x.vt, .string q.x.c.note] ∧ CmAt W q.x ∧ Wf q.x.c ∧ (-9223372036854775808 ≤ q.kind ∧ q.kind ≤ 9223372036854775807) ∧ (-9223372036854775808 ≤ q.id ∧ q.id ≤ 9223372036854775807) ∧ (-9223372036854775808 ≤ q.number ∧ q.number ≤ 9223372036854775807) ∧ (-9223372036854775808 ≤ q.lane ∧ q.lane ≤ 9223372036854775807) := by
  obtain ⟨hl, hf⟩ := h.struct Tryd.underlying27
  have hl8 : cs.length = 8 := by rw [hl]; kernel_rfl
  obtain ⟨k, hk, wk⟩ := (hf 0 3 0 1 (by kernel_rfl) (by kernel_rfl)).int Tryd.underlying3
  obtain ⟨i, hi, wi⟩ := (hf 1 3 1 1 (by kernel_rfl) (by kernel_rfl)).int Tryd.underlying3
  obtain ⟨n, hn, wn⟩ := (hf 2 3 2 1 (by kernel_rfl) (by kernel_rfl)).int Tryd.underlying3
  obtain ⟨l, hl', wl⟩ := (hf 3 3 3 1 (by kernel_rfl) (by kernel_rfl)).int Tryd.underlying3
  obtain ⟨p, hp⟩ := (hf 4 4 4 1 (by kernel_rfl) (by kernel_rfl)).bool Tryd.underlying4
  obtain ⟨x, hx, xat, xwf⟩ := commit_of_readable (hf 5 25 5 3 (by kernel_rfl) (by kernel_rfl))
  match cs, hl8 with
  | [c0, c1, c2, c3, c4, c5, c6, c7], _ =>
    simp [cv_enc] at hk hi hn hl' hp hx
    obtain ⟨h5, h6, h7⟩ := hx
    subst hk hi hn hl' hp h5 h6 h7
    exact ⟨⟨k, i, n, l, p, x⟩, rfl, xat, xwf, wf_range wk, wf_range wi, wf_range wn, wf_range wl⟩
end
end Go.Proofs.YtjmmmpnpkialjaaDoor
