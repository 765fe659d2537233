/- Lanes: Add. Conditions: none. -/
import Derived.Test.YtjgcicpclojfgaaLaneW
namespace Go.Proofs.Ytjgcicpclojfgaa
open Go.RowKit Go.Shelf

section
variable {base : Nat} {lp : Nat} {pend lanes : Int} {aa : Option Addr} {acap : Nat} {all : List En} {p : Nat} {ao : Option Addr} {cap : Nat} {wt : List En}
theorem LaneAt.drewN {w : World} (h : LaneAt base w lp pend lanes aa acap all p ao cap wt) (n : Nat) : LaneAt base (w.drewN n) lp pend lanes aa acap all p ao cap wt := h.chg (Chg.drewN (fun _ => False) w n) (fun _ _ h => h)
theorem lane_LenQ (w : World) (h : LaneAt base w lp pend lanes aa acap all p ao cap wt) (n : Nat) : Calls Try.prog 45 #[.pointer (some ⟨lp, 0, none⟩)] (w.drewN n) fun e w' => e = .returned (.int .i64 wt.length) ∧ w' = w.drewN n := lane_Len _ (h.drewN n)
theorem lane_Add_arg (w : World) (x y : Int) (h : LaneAt base w lp pend lanes aa acap all p ao cap wt) (hb : x < 1 ∨ y < 0 ∨ y ≥ lanes) : Calls Try.prog 40 #[.pointer (some ⟨lp, 0, none⟩), .int .i64 x, .int .i64 y] w fun e w' => e = .returned (.tuple #[.int .i64 0, .int .i64 2]) ∧ w' = w := by
  have h1 := cell_of_heap h.box 1
  clear h
  by_cases c1 : x < 1
  · clear hb
    go_enter Try.func40, Try.ntmps40
    go_wp2
    refine bodyPost_ret (v := .tuple #[.int .i64 0, .int .i64 2]) (by simp [results, Try.results40, go_sem]) rfl ?_
    exact ⟨rfl, rfl⟩
  · by_cases c2 : y < 0
    · clear hb
      go_enter Try.func40, Try.ntmps40
      go_wp2
      refine bodyPost_ret (v := .tuple #[.int .i64 0, .int .i64 2]) (by simp [results, Try.results40, go_sem]) rfl ?_
      exact ⟨rfl, rfl⟩
    · have c3 : y ≥ lanes := by omega
      clear hb
      go_enter Try.func40, Try.ntmps40
      go_wp2
      refine bodyPost_ret (v := .tuple #[.int .i64 0, .int .i64 2]) (by simp [results, Try.results40, go_sem]) rfl ?_
      exact ⟨rfl, rfl⟩
set_option maxRecDepth 100000 in
set_option maxHeartbeats 2000000 in
theorem lane_Add_full (w : World) (x y : Int) (h : LaneAt base w lp pend lanes aa acap all p ao cap wt) (hb : 1 ≤ x ∧ 0 ≤ y ∧ y < lanes) (hf : (wt.length : Int) ≥ pend ∨ 60 ≤ all.length) : Calls Try.prog 40 #[.pointer (some ⟨lp, 0, none⟩), .int .i64 x, .int .i64 y] w fun e w' => e = .returned (.tuple #[.int .i64 0, .int .i64 3]) ∧ ∃ n, w' = w.drewN n := by
  have h0 := cell_of_heap h.box 0
  have h1 := cell_of_heap h.box 1
  have h2 := cell_of_heap h.box 2
  have c1 : decide (x < 1) = false := decide_eq_false (by omega)
  have c2 : decide (y < 0) = false := decide_eq_false (by omega)
  have c3 : decide (y ≥ lanes) = false := decide_eq_false (by omega)
  have H := hide h
  have hpl := (h.lt lp (.inl rfl)).2
  clear h hb
  by_cases c4 : (wt.length : Int) ≥ pend
  · have HF := hide hf
    clear hf
    go_enter Try.func40, Try.ntmps40
    go_wp2_with fail
    refine wp_region_quiet_lit (by kernel_rfl) (by kernel_rfl) ?_
    repeat (go_big_quiet_step (((go_at_call 45; exact Calls.quiet_of_same (lane_LenQ _ H.out _)))))
    refine wpQuiet_nil ?_
    intro _ hw'
    obtain ⟨nq, hw''⟩ := hw'
    subst hw''
    go_wp2_with fail
    refine bodyPost_ret (v := .tuple #[.int .i64 0, .int .i64 3]) (by simp [results, Try.results40, go_sem]) rfl ?_
    exact ⟨rfl, _, rfl⟩
  · have hf' : 60 ≤ all.length := by omega
    have c5 : decide ((all.length : Int) ≥ 60) = true := decide_eq_true (by omega)
    have c4' : decide ((wt.length : Int) ≥ pend) = false := decide_eq_false c4
    clear hf hf' c4
    go_enter Try.func40, Try.ntmps40
    go_wp2_with fail
    refine wp_region_quiet_lit (by kernel_rfl) (by kernel_rfl) ?_
    repeat (go_big_quiet_step (((go_at_call 45; exact Calls.quiet_of_same (lane_LenQ _ H.out _)))))
    refine wpQuiet_nil ?_
    intro _ hw'
    obtain ⟨nq, hw''⟩ := hw'
    subst hw''
    go_wp2_with fail
    refine bodyPost_ret (v := .tuple #[.int .i64 0, .int .i64 3]) (by simp [results, Try.results40, go_sem]) rfl ?_
    exact ⟨rfl, _, rfl⟩
end
end Go.Proofs.Ytjgcicpclojfgaa
