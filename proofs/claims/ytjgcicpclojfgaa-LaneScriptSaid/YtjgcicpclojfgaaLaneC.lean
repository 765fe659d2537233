/- cmp.Compare, cmp.Or, lane.before. Conditions: none. -/
import Derived.Test.YtjgcicpclojfgaaPe
import Derived.Test.YtjgcicpclojfgaaSeq
namespace Go.Proofs.Ytjgcicpclojfgaa
open Go.RowKit Go.Shelf

def cmpI (a b : Int) : Int := if a < b then -1 else if b < a then 1 else 0
theorem isNaN_ok (w : World) (x : Int) : Calls Try.prog 96 #[.int .i64 x] w fun e w' => e = .returned (.bool false) ∧ w' = w := by
  go_enter Try.func96, Try.ntmps96
  go_wp2
  go_ret
  exact ⟨by simp, rfl⟩
theorem compare_ok (w : World) (a b : Int) : Calls Try.prog 84 #[.int .i64 a, .int .i64 b] w fun e w' => e = .returned (.int .i64 (cmpI a b)) ∧ w' = w := by
  by_cases h1 : a < b
  · go_enter Try.func84, Try.ntmps84
    go_wp2_with fail
    refine (isNaN_ok _ _).mono ?_
    rintro e w1 ⟨rfl, rfl⟩
    go_wp2_with fail
    refine (isNaN_ok _ _).mono ?_
    rintro e w1 ⟨rfl, rfl⟩
    go_wp2_with fail
    go_ret
    exact ⟨by simp [cmpI, h1], rfl⟩
  · by_cases h2 : b < a
    · go_enter Try.func84, Try.ntmps84
      go_wp2_with fail
      refine (isNaN_ok _ _).mono ?_
      rintro e w1 ⟨rfl, rfl⟩
      go_wp2_with fail
      refine (isNaN_ok _ _).mono ?_
      rintro e w1 ⟨rfl, rfl⟩
      go_wp2_with fail
      go_ret
      exact ⟨by simp [cmpI, h1, h2], rfl⟩
    · obtain rfl : a = b := by omega
      go_enter Try.func84, Try.ntmps84
      go_wp2_with fail
      refine (isNaN_ok _ _).mono ?_
      rintro e w1 ⟨rfl, rfl⟩
      go_wp2_with fail
      refine (isNaN_ok _ _).mono ?_
      rintro e w1 ⟨rfl, rfl⟩
      go_wp2_with fail
      go_ret
      exact ⟨by simp [cmpI], rfl⟩
def or2 (x y : Int) : Int := if x = 0 then y else x
theorem or_ok (w : World) (b : Nat) (x y : Int) (h : w.heap[b]? = some (.cells #[.int .i64 x, .int .i64 y] 3 (0, 0))) : Calls Try.prog 83 #[.slice (some ⟨b, 0, none⟩) 2 2] w fun e w' => e = .returned (.int .i64 (or2 x y)) ∧ w' = w := by
  have h0 := cell_of_heap h 0
  have h1 := cell_of_heap h 1
  clear h
  by_cases hx : x = 0
  · subst hx
    by_cases hy : y = 0
    · subst hy
      go_enter Try.func83, Try.ntmps83
      go_wp2_with fail
      go_loop [8] (fun i => ∃ k : Nat, k ≤ 2 ∧ i = .int .i64 k) (fun i => 2 - (intOf i).toNat)
      case atStart => exact ⟨0, by omega, rfl⟩
      case round =>
        obtain ⟨k, hk, rfl⟩ := hrel
        rcases (show k = 0 ∨ k = 1 ∨ k = 2 by omega) with rfl | rfl | rfl
        · go_wp2_with fail
          go_round
          case rel => exact ⟨1, by omega, by go_num⟩
          case measure => simp [intOf]
        · go_wp2_with fail
          go_round
          case rel => exact ⟨2, by omega, by go_num⟩
          case measure => simp [intOf]
        · go_wp2_with fail
          go_ret
          exact ⟨rfl, rfl⟩
    · have hb : (y != 0) = true := by simp [hy]
      go_enter Try.func83, Try.ntmps83
      go_wp2_with fail
      go_loop [8] (fun i => ∃ k : Nat, k ≤ 1 ∧ i = .int .i64 k) (fun i => 2 - (intOf i).toNat)
      case atStart => exact ⟨0, by omega, rfl⟩
      case round =>
        obtain ⟨k, hk, rfl⟩ := hrel
        rcases (show k = 0 ∨ k = 1 by omega) with rfl | rfl
        · go_wp2_with fail
          go_round
          case rel => exact ⟨1, by omega, by go_num⟩
          case measure => simp [intOf]
        · go_wp2_with fail
          go_ret
          exact ⟨by simp [or2], rfl⟩
  · have hb : (x != 0) = true := by simp [hx]
    go_enter Try.func83, Try.ntmps83
    go_wp2_with fail
    go_loop [8] (fun i => i = .int .i64 0) (fun _ => 0)
    case atStart => rfl
    case round =>
      obtain rfl := hrel
      go_wp2_with fail
      go_ret
      exact ⟨by simp [or2, hx], rfl⟩

/-- Who stands ahead. -/
def ltE (a b : En) : Bool := decide (or2 (cmpI a.lane b.lane) (cmpI a.number b.number) < 0)
theorem before_less : pe_Less 67 ltE := by
  refine ⟨enters_of Try.func67 (by kernel_rfl) rfl, fun W x y => ?_⟩
  go_enter Try.func67, Try.ntmps67
  go_wp2_with fail
  obtain ⟨W2, hW2⟩ : ∃ W2, W2 = (W.alloc (.cells #[.int .i64 x.number, .int .i64 x.commit, .int .i64 x.lane, .int .i64 x.code] 71)).alloc (.cells #[.int .i64 y.number, .int .i64 y.commit, .int .i64 y.lane, .int .i64 y.code] 71) := ⟨_, rfl⟩
  have hx := (Chg.alloc (fun _ => False) (W.alloc (.cells #[.int .i64 x.number, .int .i64 x.commit, .int .i64 x.lane, .int .i64 x.code] 71)) (.cells #[.int .i64 y.number, .int .i64 y.commit, .int .i64 y.lane, .int .i64 y.code] 71)).heap (heap_alloc_new W _) (fun h => h)
  have hy := heap_alloc_new (W.alloc (.cells #[.int .i64 x.number, .int .i64 x.commit, .int .i64 x.lane, .int .i64 x.code] 71)) (.cells #[.int .i64 y.number, .int .i64 y.commit, .int .i64 y.lane, .int .i64 y.code] 71)
  rw [World.size_alloc] at hy
  rw [← hW2] at hx hy ⊢
  have hls : ∃ q os, W2 = Go.Sort.grow (W.drewN q) os := by rw [hW2]; exact lays_trans (alloc_lays W _) (alloc_lays _ _)
  have hx0 := cell_of_heap hx 0
  have hx2 := cell_of_heap hx 2
  have hy0 := cell_of_heap hy 0
  have hy2 := cell_of_heap hy 2
  have HLS := hide hls
  clear hls hW2 hx hy
  refine wp_region_quiet_tail 10 (by kernel_rfl) (by kernel_rfl) ?_
  simp only [List.take_succ_cons, List.take_zero, List.drop_succ_cons, List.drop_zero]
  repeat (go_big_quiet_step (((go_at_call 84; exact Calls.quiet_of_same (compare_ok _ _ _)))))
  refine wpQuiet_nil ?_
  intro _ hw'
  obtain ⟨nq, hw''⟩ := hw'
  subst hw''
  go_wp2_with fail
  refine (or_ok _ W2.heap.size _ _ (heap_alloc_new (W2.drewN nq) _)).mono ?_
  rintro e w1 ⟨rfl, rfl⟩
  go_wp2_with fail
  go_ret
  exact ⟨rfl, lays_trans HLS.out (lays_trans ⟨nq, #[], by rw [Go.Sort.grow_empty]⟩ (alloc_lays _ _))⟩
end Go.Proofs.Ytjgcicpclojfgaa
