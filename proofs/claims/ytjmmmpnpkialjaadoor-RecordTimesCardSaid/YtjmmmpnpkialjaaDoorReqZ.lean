/- A request as a statement is handed it. What is read of bytes, in one form. What is laid of a request, in one form. Conditions: the bytes read as said. -/
import Derived.Test.YtjmmmpnpkialjaaDoorReqB
import Derived.Test.YtjmmmpnpkialjaaDoorCmD
import Derived.Test.YtjmmmpnpkialjaaDoorReqW
import Derived.Test.YtjmmmpnpkialjaaDoorRfR
import Derived.Test.YtjmmmpnpkialjaaDoorDec
import Derived.Test.YtjmmmpnpkialjaaDoorCardB
import Derived.Test.YtjmmmpnpkialjaaDoorLow
namespace Go.Proofs.YtjmmmpnpkialjaaDoor
open Go.RowKit Go.Shelf

section
variable {H : Type} {enc : TypeId × Value → H} {W : World}
theorem request_of_readable {cs : List Value} (h : Readable enc Tryd.prog W 27 cs) : ∃ q : RqV, cs = [.int .i64 q.kind, .int .i64 q.id, .int .i64 q.number, .int .i64 q.lane, .bool q.pass, q.x.vp, q.x.vt, .string q.x.c.note] ∧ CmAt W q.x ∧ Wf q.x.c ∧ (-9223372036854775808 ≤ q.kind ∧ q.kind ≤ 9223372036854775807) ∧ (-9223372036854775808 ≤ q.id ∧ q.id ≤ 9223372036854775807) ∧ (-9223372036854775808 ≤ q.number ∧ q.number ≤ 9223372036854775807) ∧ (-9223372036854775808 ≤ q.lane ∧ q.lane ≤ 9223372036854775807) := by
  obtain ⟨hl, hf⟩ := h.struct Tryd.underlying27
  have hl8 : cs.length = 8 := by rw [hl]; kernel_rfl
  obtain ⟨k, hk, wk⟩ := (hf 0 3 0 1 (by kernel_rfl) (by kernel_rfl)).int Tryd.underlying3
  obtain ⟨i, hi, wi⟩ := (hf 1 3 1 1 (by kernel_rfl) (by kernel_rfl)).int Tryd.underlying3
  obtain ⟨n, hn, wn⟩ := (hf 2 3 2 1 (by kernel_rfl) (by kernel_rfl)).int Tryd.underlying3
  obtain ⟨l, hl', wl⟩ := (hf 3 3 3 1 (by kernel_rfl) (by kernel_rfl)).int Tryd.underlying3
  obtain ⟨p, hp⟩ := (hf 4 4 4 1 (by kernel_rfl) (by kernel_rfl)).bool Tryd.underlying4
  obtain ⟨x, hx, xat, xwf⟩ := commit_of_readable (hf 5 25 5 3 (by kernel_rfl) (by kernel_rfl))
  match cs, hl8 with
  | [c0, c1, c2, c3, c4, c5, c6, c7], _ =>
    simp [cv_enc] at hk hi hn hl' hp hx
    obtain ⟨h5, h6, h7⟩ := hx
    subst hk hi hn hl' hp h5 h6 h7
    exact ⟨⟨k, i, n, l, p, x⟩, rfl, xat, xwf, wf_range wk, wf_range wi, wf_range wn, wf_range wl⟩
end
end Go.Proofs.YtjmmmpnpkialjaaDoor
namespace Go.Proofs.YtjmmmpnpkialjaaDoor
open Go.RowKit Go.Shelf

/-- The request of bytes; of none: the zero one. -/
def rdZ (b : List UInt8) : Rq := (rdRq b).getD (rz 0 0 0 0 false)
def rdC (b : List UInt8) : Int := if (rdRq b).isSome then 0 else 5
theorem rdZ_few (b : List UInt8) : Few (rdZ b).c ∧ (rdZ b).c.note.size ≤ 140737488351232 := by
  unfold rdZ
  cases h : rdRq b with
  | none => exact ⟨cmZ_few, Nat.zero_le _⟩
  | some r => exact rd_few h
theorem rdZ_some {b : List UInt8} {r : Rq} (h : rdRq b = some r) : rdZ b = r ∧ rdC b = 0 := by rw [rdZ, rdC, h]; exact ⟨rfl, rfl⟩
theorem rdZ_none {b : List UInt8} (h : rdRq b = none) : rdZ b = rz 0 0 0 0 false ∧ rdC b = 5 := by rw [rdZ, rdC, h]; exact ⟨rfl, rfl⟩
/-- Where a commit of a request lies. -/
structure OwnQ (w : World) (base : Nat) (q : RqV) : Prop where
  own : Own w base q.x
  sh : ∃ px qx pt qt, q.x.vp = .slice px q.x.c.parents.length qx ∧ q.x.vt = .slice pt q.x.c.tree.length qt
theorem OwnQ.mk' {w : World} {base : Nat} {q : RqV} (h : Own w base q.x) : OwnQ w base q := by
  obtain ⟨px, qx, hp⟩ := ownsRow_shape h.ps
  obtain ⟨pt, qt, ht⟩ := ownsRow_shape h.ts
  exact ⟨h, px, qx, pt, qt, hp, ht⟩
theorem request_ReadZ (w : World) (vb : Value) (b : List UInt8) (hb : Rd w vb b.length (u8s b)) (hm : b.length ≤ 140737488351232) (hM : Mx w) :
    Calls Tryd.prog 22 #[vb] w fun e w' => Below w.heap.size w w' ∧ ∃ q : RqV, q.r = rdZ b ∧ e = .returned (.tuple #[q.val, .int .i64 (rdC b)]) ∧ Own w' w.heap.size q.x := by
  refine (request_Read w vb b hb hm hM).mono ?_
  rintro e w' ⟨h1, ⟨h2, rfl⟩ | ⟨q, h2, rfl, h3⟩⟩
  · obtain ⟨h4, h5⟩ := rdZ_none h2
    rw [h4, h5]
    exact ⟨h1, qz 0 0 0 0 false, rfl, rfl, ⟨World.ownsRow_nil _ _ _ _, World.ownsRow_nil _ _ _ _⟩⟩
  · obtain ⟨h4, h5⟩ := rdZ_some h2
    rw [h4, h5]
    exact ⟨h1, q, rfl, rfl, h3⟩
theorem ref17_ReadZ (w : World) (vb : Value) (b : List UInt8) (hb : Rd w vb b.length (u8s b)) (hm : b.length ≤ 100000) :
    Calls Tryd.prog 23 #[vb] w fun e w' => Below w.heap.size w w' ∧ ∃ q : RqV, q.r = rdZ b ∧ e = .returned (.tuple #[q.val, .int .i64 (rdC b)]) ∧ Own w' w.heap.size q.x := by
  refine (ref17_Read w vb b hb hm).mono ?_
  rintro e w' ⟨h1, ⟨h2, rfl⟩ | ⟨q, h2, rfl, h3⟩⟩
  · obtain ⟨h4, h5⟩ := rdZ_none h2
    rw [h4, h5]
    exact ⟨h1, qz 0 0 0 0 false, rfl, rfl, ⟨World.ownsRow_nil _ _ _ _, World.ownsRow_nil _ _ _ _⟩⟩
  · obtain ⟨h4, h5⟩ := rdZ_some h2
    rw [h4, h5]
    exact ⟨h1, q, rfl, rfl, h3⟩
theorem Num_ok (w : World) (n : Int) : Calls Tryd.prog 15 #[.int .i64 n] w fun e w' => e = .returned (.int .i64 n) ∧ w' = w := by
  go_enter Tryd.func15, Tryd.ntmps15
  go_wp2_with fail
  go_ret
  exact ⟨rfl, rfl⟩
end Go.Proofs.YtjmmmpnpkialjaaDoor
namespace Go.Proofs.YtjmmmpnpkialjaaDoor
open Go.RowKit Go.Shelf

/-- The bytes of a request; of one that may not be: none. -/
def layZ (r : Rq) : List UInt8 := if mayRq r = true then layRq r else []
def layE (r : Rq) : Int := if mayRq r = true then 0 else 2
theorem layZ_len (r : Rq) : (layZ r).length ≤ 60000 := by
  unfold layZ
  split
  · rename_i h
    have hs := mayRq_small h
    obtain ⟨k, i, n, l, p, c⟩ := r
    simp only [layRq, List.length_append, nums_length, List.length_cons, List.length_nil]
    split
    · rename_i hk
      have h1 := hs.push hk
      simp only at h1
      have h5 := flatMap_le flB 4000 c.tree (fun x hx => by have := h1.fs x hx; rw [flB_length]; omega)
      have h6 := h1.ts
      have h7 := h1.ps
      have h8 := h1.nt
      have h9 : (txts [c.note]).length = 8 + c.note.size := by simp [txts, num8_length, sb_length]
      simp only [layC, List.length_append, num8_length, nums_length, h9]
      omega
    · simp
  · simp
theorem request_LayZ (w : World) (q : RqV) (hx : CmAt w q.x) (fx : Few q.x.c) (hn : q.x.c.note.size ≤ 140737488351232) (hM : Mx w) :
    Calls Tryd.prog 12 #[q.val] w fun e w' => Below w.heap.size w w' ∧ ∃ ao cap, e = .returned (.tuple #[.slice ao (layZ q.r).length cap, .int .i64 (layE q.r)]) ∧ w'.ownsRow w.heap.size 5 1 (.slice ao (layZ q.r).length cap) (layZ q.r).length (u8s (layZ q.r)) ∧ (mayRq q.r = false → ao = none) := by
  refine (request_Lay w q hx fx hn hM).mono ?_
  rintro e w' ⟨hb, ⟨hm, rfl⟩ | ⟨hm, ao, cap, rfl, ho⟩⟩
  · rw [layZ, layE, if_neg (by simp [hm]), if_neg (by simp [hm])]
    exact ⟨hb, none, 0, rfl, World.ownsRow_nil _ _ _ _, fun _ => rfl⟩
  · rw [layZ, layE, if_pos hm, if_pos hm]
    exact ⟨hb, ao, cap, rfl, ho, fun h => by rw [hm] at h; cases h⟩
theorem ref17_LayZ (w : World) (q : RqV) (hx : CmAt w q.x) (fx : Few q.x.c) (hsz : ∀ f ∈ q.x.c.tree, f.path.size ≤ 100000) :
    Calls Tryd.prog 13 #[q.val] w fun e w' => Below w.heap.size w w' ∧ ∃ ao cap, e = .returned (.tuple #[.slice ao (layZ q.r).length cap, .int .i64 (layE q.r)]) ∧ w'.ownsRow w.heap.size 5 1 (.slice ao (layZ q.r).length cap) (layZ q.r).length (u8s (layZ q.r)) := by
  refine (ref17_Lay w q hx fx hsz).mono ?_
  rintro e w' ⟨hb, ⟨hm, rfl⟩ | ⟨hm, ao, cap, rfl, ho⟩⟩
  · rw [layZ, layE, if_neg (by simp [hm]), if_neg (by simp [hm])]
    exact ⟨hb, none, 0, rfl, World.ownsRow_nil _ _ _ _⟩
  · rw [layZ, layE, if_pos hm, if_pos hm]
    exact ⟨hb, ao, cap, rfl, ho⟩
theorem great_small {c : Cm} (h : greatC c = false) : Few c ∧ c.note.size ≤ 140737488351232 ∧ ∀ f ∈ c.tree, f.path.size ≤ 100000 := by
  refine ⟨Few.of_great h, ?_, ?_⟩
  · simp only [greatC, Bool.or_eq_false_iff, decide_eq_false_iff_not] at h
    omega
  · simp only [greatC, greatT, Bool.or_eq_false_iff, List.any_eq_false] at h
    intro f hf
    have h5 := h.1.2.2 f hf
    simp only [bigF, Bool.or_eq_true, decide_eq_true_eq, not_or] at h5
    omega
end Go.Proofs.YtjmmmpnpkialjaaDoor
