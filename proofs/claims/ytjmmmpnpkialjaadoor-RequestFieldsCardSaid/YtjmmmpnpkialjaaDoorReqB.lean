/- request.number, field, bare, odd, bit. Conditions: none. -/
import Derived.Test.YtjmmmpnpkialjaaDoorRqL
import Derived.Test.YtjmmmpnpkialjaaDoorCmS
namespace Go.Proofs.YtjmmmpnpkialjaaDoor
open Go.RowKit Go.Shelf
attribute [local go_sem] Oper.semAt_some

/-- A request, as it lies in cells. -/
structure RqV where
  kind : Int
  id : Int
  number : Int
  lane : Int
  pass : Bool
  x : CmV
def RqV.r (q : RqV) : Rq := ⟨q.kind, q.id, q.number, q.lane, q.pass, q.x.c⟩
def RqV.val (q : RqV) : Value := .agg #[.int .i64 q.kind, .int .i64 q.id, .int .i64 q.number, .int .i64 q.lane, .bool q.pass, q.x.vp, q.x.vt, .string q.x.c.note]

theorem number_ok (w : World) (n : Int) : Calls Tryd.prog 42 #[.int .i64 n] w fun e w' => e = .returned (.bool (okId n)) ∧ w' = w := by
  by_cases h1 : 1 ≤ n
  · have d1 : decide (n ≥ 1) = true := decide_eq_true h1
    have hr : okId n = decide (n ≤ 2147483647) := by simp [okId, h1]
    go_enter Tryd.func42, Tryd.ntmps42
    go_wp2_with fail
    go_ret
    exact ⟨ret_bool hr.symm, rfl⟩
  · have d1 : decide (n ≥ 1) = false := decide_eq_false h1
    have hr : okId n = false := by simp [okId, h1]
    have HR := hide hr
    clear hr
    go_enter Tryd.func42, Tryd.ntmps42
    go_wp2_with fail
    go_ret
    exact ⟨ret_bool HR.out.symm, rfl⟩
theorem field_ok (w : World) (p : Bool) (n : Int) : Calls Tryd.prog 43 #[.bool p, .int .i64 n] w fun e w' => e = .returned (.bool (fieldB p n)) ∧ w' = w := by
  cases p with
  | true =>
    cases hq : okId n with
    | true =>
      have hr : fieldB true n = true := by simp [fieldB, hq]
      have hc := number_ok w n
      rw [hq] at hc
      go_enter Tryd.func43, Tryd.ntmps43
      go_wp2_with fail
      refine hc.mono ?_
      rintro e w1 ⟨rfl, rfl⟩
      go_wp2_with fail
      go_ret
      exact ⟨ret_bool hr.symm, rfl⟩
    | false =>
      have hr : fieldB true n = false := by simp [fieldB, hq]
      have hc := number_ok w n
      rw [hq] at hc
      go_enter Tryd.func43, Tryd.ntmps43
      go_wp2_with fail
      refine hc.mono ?_
      rintro e w1 ⟨rfl, rfl⟩
      go_wp2_with fail
      go_ret
      exact ⟨ret_bool hr.symm, rfl⟩
  | false =>
    have hr : fieldB false n = (n == 0) := by simp [fieldB]; rfl
    go_enter Tryd.func43, Tryd.ntmps43
    go_wp2_with fail
    go_ret
    exact ⟨ret_bool hr.symm, rfl⟩
theorem odd_ok (w : World) (n : Int) : Calls Tryd.prog 47 #[.int .i64 n] w fun e w' => e = .returned (.bool (!okId n)) ∧ w' = w := by
  have hc := number_ok w n
  go_enter Tryd.func47, Tryd.ntmps47
  go_wp2_with fail
  refine hc.mono ?_
  rintro e w1 ⟨rfl, rfl⟩
  go_wp2_with fail
  go_ret
  exact ⟨rfl, rfl⟩
theorem bit_ok (w : World) (b : Bool) : Calls Tryd.prog 34 #[.bool b] w fun e w' => e = .returned (.int .i64 (bitN b)) ∧ w' = w := by
  cases b with
  | true =>
    go_enter Tryd.func34, Tryd.ntmps34
    go_wp2_with fail
    go_ret
    exact ⟨rfl, rfl⟩
  | false =>
    go_enter Tryd.func34, Tryd.ntmps34
    go_wp2_with fail
    go_ret
    exact ⟨rfl, rfl⟩
theorem bare_ok (w : World) (x : CmV) (hx : CmAt w x) (fx : Few x.c) (hn : x.c.note.size ≤ 140737488351232) : Calls Tryd.prog 44 #[x.val] w fun e w' => e = .returned (.bool (zeroC x.c)) ∧ Below w.heap.size w w' := by
  obtain ⟨⟨xps, xts, xn⟩, xp, xt⟩ := x
  unfold CmV.val
  have hxp : Rd w xp xps.length (flat int_enc xps) := hx.ps
  have hxt : Rd w xt xts.length (flat fl_enc xts) := hx.ts
  clear hx
  obtain ⟨po, pc, rfl, -, -⟩ := hxp.shape
  obtain ⟨to, tc, rfl, -, -⟩ := hxt.shape
  have h1 : xps.length ≤ 1000000 := fx.1
  have h2 : xts.length ≤ 1000000 := fx.2
  simp only at hn
  have e1 : IntKind.i64.wrap ((xps.length : Int) + xts.length) = (xps.length : Int) + xts.length := IntWalk.i64_in _ (by omega)
  have hr : zeroC ⟨xps, xts, xn⟩ = (((xps.length : Int) + xts.length + xn.size) == 0) := by
    simp only [zeroC]
    by_cases g1 : xps.length = 0
    · by_cases g2 : xts.length = 0
      · by_cases g3 : xn.size = 0
        · simp [g1, g2, g3]
        · simp [g1, g2, g3]
      · have : ¬ ((xps.length : Int) + xts.length + xn.size = 0) := by omega
        simp [g2, this]
    · have : ¬ ((xps.length : Int) + xts.length + xn.size = 0) := by omega
      simp [g1, this]
  have hb : Below w.heap.size w (w.alloc (.cells #[.slice po xps.length pc, .slice to xts.length tc, .string xn] 25)) := (Below.refl _ w).alloc (Nat.le_refl _) _
  show Calls _ _ _ _ fun e w' => e = .returned (.bool (zeroC ⟨xps, xts, xn⟩)) ∧ _
  have HB := hide hb
  clear hxp hxt fx hb
  go_enter Tryd.func44, Tryd.ntmps44
  go_wp2_with fail
  go_ret
  exact ⟨ret_bool hr.symm, HB.out⟩
end Go.Proofs.YtjmmmpnpkialjaaDoor
