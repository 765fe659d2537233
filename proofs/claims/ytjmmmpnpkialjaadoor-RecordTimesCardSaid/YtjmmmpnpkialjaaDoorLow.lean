/- The statements' own helper Low: a number from 0 to below n. Conditions: n from 1 on. -/
import Derived.Test.YtjmmmpnpkialjaaDoorProg
import Derived.Test.YtjmmmpnpkialjaaDoorBase
namespace Go.Proofs.YtjmmmpnpkialjaaDoor
open Go.RowKit

/-- What Low answers. -/
def low (x : Int) (n : Nat) : Nat := (IntKind.u64.wrap x % (n : Int)).toNat
theorem low_lt (x : Int) (n : Nat) (h : 0 < n) : low x n < n := by
  have h1 := Int.emod_nonneg (IntKind.u64.wrap x) (b := (n : Int)) (by omega)
  have h2 := Int.emod_lt_of_pos (IntKind.u64.wrap x) (b := (n : Int)) (by omega)
  simp only [low]
  omega

theorem Low_ok (w : World) (x : Int) (n : Nat) (h : 0 < n) (hn : n ≤ 140737488351232) : Calls Tryd.prog 25 #[.int .i64 x, .int .i64 n] w fun e w' => e = .returned (.int .i64 (low x n)) ∧ w' = w := by
  have a1 : IntKind.u64.wrap (n : Int) = n := IntWalk.u64_in _ (by omega)
  have a2 : (n : Int) ≠ 0 := by omega
  go_enter Tryd.func25, Tryd.ntmps25
  go_wp2_with fail
  go_ret
  refine ⟨?_, rfl⟩
  have h0 : 0 ≤ IntKind.u64.wrap x := by
    have h1 := Int.emod_nonneg x (b := 18446744073709551616) (by decide)
    have e : IntKind.u64.wrap x = x % 18446744073709551616 := by simp [IntKind.wrap, IntKind.signed, IntKind.bits]
    omega
  have h1 := Int.emod_nonneg (IntKind.u64.wrap x) (b := (n : Int)) (by omega)
  have h2 := Int.emod_lt_of_pos (IntKind.u64.wrap x) (b := (n : Int)) (by omega)
  have e : wrap64 ((IntKind.u64.wrap x).tmod n) = ((low x n : Nat) : Int) := by
    rw [Int.tmod_eq_emod_of_nonneg h0, low]
    unfold wrap64
    omega
  simp [e]
end Go.Proofs.YtjmmmpnpkialjaaDoor
