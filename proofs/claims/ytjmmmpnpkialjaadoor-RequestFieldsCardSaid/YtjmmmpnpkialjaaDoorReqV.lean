/- What is read of bytes, in one form. Conditions: none. -/
import Derived.Test.YtjmmmpnpkialjaaDoorReqW
import Derived.Test.YtjmmmpnpkialjaaDoorRfR
import Derived.Test.YtjmmmpnpkialjaaDoorDec
import Derived.Test.YtjmmmpnpkialjaaDoorCardB
import Derived.Test.YtjmmmpnpkialjaaDoorCmD
import Derived.Test.YtjmmmpnpkialjaaDoorLow
namespace Go.Proofs.YtjmmmpnpkialjaaDoor
open Go.RowKit Go.Shelf

/-- The request of bytes; of none: the zero one. -/
def rdZ (b : List UInt8) : Rq := (rdRq b).getD (rz 0 0 0 0 false)
def rdC (b : List UInt8) : Int := if (rdRq b).isSome then 0 else 5
theorem rdZ_few (b : List UInt8) : Few (rdZ b).c ∧ (rdZ b).c.note.size ≤ 140737488351232 := by
  unfold rdZ
  cases h : rdRq b with
  | none => exact ⟨cmZ_few, Nat.zero_le _⟩
  | some r => exact rd_few h
theorem rdZ_some {b : List UInt8} {r : Rq} (h : rdRq b = some r) : rdZ b = r ∧ rdC b = 0 := by rw [rdZ, rdC, h]; exact ⟨rfl, rfl⟩
theorem rdZ_none {b : List UInt8} (h : rdRq b = none) : rdZ b = rz 0 0 0 0 false ∧ rdC b = 5 := by rw [rdZ, rdC, h]; exact ⟨rfl, rfl⟩
/-- Where a commit of a request lies. -/
structure OwnQ (w : World) (base : Nat) (q : RqV) : Prop where
  own : Own w base q.x
  sh : ∃ px qx pt qt, q.x.vp = .slice px q.x.c.parents.length qx ∧ q.x.vt = .slice pt q.x.c.tree.length qt
theorem OwnQ.mk' {w : World} {base : Nat} {q : RqV} (h : Own w base q.x) : OwnQ w base q := by
  obtain ⟨px, qx, hp⟩ := ownsRow_shape h.ps
  obtain ⟨pt, qt, ht⟩ := ownsRow_shape h.ts
  exact ⟨h, px, qx, pt, qt, hp, ht⟩
theorem request_ReadZ (w : World) (vb : Value) (b : List UInt8) (hb : Rd w vb b.length (u8s b)) (hm : b.length ≤ 140737488351232) (hM : Mx w) :
    Calls Tryd.prog 22 #[vb] w fun e w' => Below w.heap.size w w' ∧ ∃ q : RqV, q.r = rdZ b ∧ e = .returned (.tuple #[q.val, .int .i64 (rdC b)]) ∧ Own w' w.heap.size q.x := by
  refine (request_Read w vb b hb hm hM).mono ?_
  rintro e w' ⟨h1, ⟨h2, rfl⟩ | ⟨q, h2, rfl, h3⟩⟩
  · obtain ⟨h4, h5⟩ := rdZ_none h2
    rw [h4, h5]
    exact ⟨h1, qz 0 0 0 0 false, rfl, rfl, ⟨World.ownsRow_nil _ _ _ _, World.ownsRow_nil _ _ _ _⟩⟩
  · obtain ⟨h4, h5⟩ := rdZ_some h2
    rw [h4, h5]
    exact ⟨h1, q, rfl, rfl, h3⟩
theorem ref17_ReadZ (w : World) (vb : Value) (b : List UInt8) (hb : Rd w vb b.length (u8s b)) (hm : b.length ≤ 100000) :
    Calls Tryd.prog 23 #[vb] w fun e w' => Below w.heap.size w w' ∧ ∃ q : RqV, q.r = rdZ b ∧ e = .returned (.tuple #[q.val, .int .i64 (rdC b)]) ∧ Own w' w.heap.size q.x := by
  refine (ref17_Read w vb b hb hm).mono ?_
  rintro e w' ⟨h1, ⟨h2, rfl⟩ | ⟨q, h2, rfl, h3⟩⟩
  · obtain ⟨h4, h5⟩ := rdZ_none h2
    rw [h4, h5]
    exact ⟨h1, qz 0 0 0 0 false, rfl, rfl, ⟨World.ownsRow_nil _ _ _ _, World.ownsRow_nil _ _ _ _⟩⟩
  · obtain ⟨h4, h5⟩ := rdZ_some h2
    rw [h4, h5]
    exact ⟨h1, q, rfl, rfl, h3⟩
theorem Num_ok (w : World) (n : Int) : Calls Tryd.prog 15 #[.int .i64 n] w fun e w' => e = .returned (.int .i64 n) ∧ w' = w := by
  go_enter Tryd.func15, Tryd.ntmps15
  go_wp2_with fail
  go_ret
  exact ⟨rfl, rfl⟩
end Go.Proofs.YtjmmmpnpkialjaaDoor
