/- SameEntries: of two lists that are the same. Conditions: none. -/
import Derived.Test.YtjgcicpclojfgaaLaneK
import Derived.Laws.StructEq
import Derived.Outline
import Derived.Deep.QuietTactic
import Derived.BigQuiet
namespace Go.Proofs.Ytjgcicpclojfgaa
open Go.RowKit Go.Shelf

set_option maxHeartbeats 1000000 in
theorem SameEntries_same (w : World) (va vb : Value) (xs : List En) (ha : Rd w va xs.length (flat pe_enc xs)) (hb : Rd w vb xs.length (flat pe_enc xs)) (hm : xs.length ≤ 1000000) :
    Calls Try.prog 46 #[va, vb] w fun e w' => e = .returned (.bool true) ∧ ∃ n, w' = w.drewN n := by
  obtain ⟨ao, ca, rfl, -, ha⟩ := ha.shape
  obtain ⟨bo, cb, rfl, -, hb⟩ := hb.shape
  have HA := hide ha
  have HB := hide hb
  clear ha hb
  go_enter Try.func46, Try.ntmps46
  go_wp2
  go_loopw [5] (fun i wr => ∃ k : Nat, k ≤ xs.length ∧ i = .int .i64 k ∧ (∃ n, wr = w.drewN n)) (fun i _ => xs.length - (intOf i).toNat)
  case atStart => exact ⟨0, Nat.zero_le _, rfl, 0, rfl⟩
  case round =>
    obtain ⟨k, hk, rfl, n, rfl⟩ := hrel
    by_cases hlt : k < xs.length
    · obtain ⟨a, oa, rfl, hx⟩ := HA.out (by omega)
      obtain ⟨b, ob, rfl, hy⟩ := HB.out (by omega)
      obtain ⟨hx0, hx1, hx2, hx3⟩ := pe_cells w a oa xs hx k hlt
      obtain ⟨hy0, hy1, hy2, hy3⟩ := pe_cells w b ob xs hy k hlt
      obtain ⟨x, hxx⟩ : ∃ x, x = xs[k] := ⟨_, rfl⟩
      rw [← hxx] at hx0 hx1 hx2 hx3 hy0 hy1 hy2 hy3
      clear hx hy hxx
      go_wp2_with (fail)
      refine wp_region_quiet_lit (by kernel_rfl) (by kernel_rfl) ?_
      repeat (go_big_quiet_step (fail))
      refine wpQuiet_nil ?_
      intro _ hw'
      obtain ⟨nq, hw''⟩ := hw'
      subst hw''
      go_wp2
      go_roundw
      case rel => exact ⟨k + 1, by omega, by go_num, n + nq, by simp⟩
      case measure => simp [intOf]; omega
    · go_wp2
      go_ret
      exact ⟨rfl, n, rfl⟩
end Go.Proofs.Ytjgcicpclojfgaa
