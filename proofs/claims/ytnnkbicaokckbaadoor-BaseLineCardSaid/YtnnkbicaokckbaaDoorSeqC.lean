/- seq.Count: what it gives, what it promises. Conditions: none. -/
import Derived.Test.YtnnkbicaokckbaaDoorIterB
namespace Go.Proofs.YtnnkbicaokckbaaDoor
open Go.RowKit Go.Shelf

theorem range_prefix {k m : Nat} (h : k ≤ m) : List.range k <+: List.range m := by
  obtain ⟨d, rfl⟩ : ∃ d, m = k + d := ⟨m - k, by omega⟩
  rw [List.range_add]
  exact List.prefix_append _ _
theorem seq_Count (w : World) (lo hi : Int) : Calls Tryd.prog 76 #[.int .i64 lo, .int .i64 hi] w fun e w' =>
    e = .returned (.func (.func 105) #[] #[.pointer (some ⟨w.heap.size, 0, none⟩), .pointer (some ⟨w.heap.size + 1, 0, none⟩)]) ∧ w'.cell? ⟨w.heap.size, 0, none⟩ = some (.int .i64 lo) ∧ w'.cell? ⟨w.heap.size + 1, 0, none⟩ = some (.int .i64 hi) ∧ w'.heap.size = w.heap.size + 2 ∧ Below w.heap.size w w' := by
  have hb := (Below.refl w.heap.size w).alloc (Nat.le_refl _) (.cells #[.int .i64 lo] 3)
  have h1 := heap_alloc_new w (.cells #[.int .i64 lo] 3)
  have hs : (w.alloc (.cells #[.int .i64 lo] 3)).heap.size = w.heap.size + 1 := World.size_alloc _ _
  generalize hw1 : w.alloc (.cells #[.int .i64 lo] 3) = w1 at hb h1 hs
  have HW1 := hide hw1
  have hb2 := hb.alloc hb.size (.cells #[.int .i64 hi] 3)
  have h2 := (Chg.alloc (fun _ => False) w1 (.cells #[.int .i64 hi] 3)).heap h1 (fun h => h)
  have h3 := heap_alloc_new w1 (.cells #[.int .i64 hi] 3)
  rw [hs] at h3
  have hs2 : (w1.alloc (.cells #[.int .i64 hi] 3)).heap.size = w.heap.size + 2 := by rw [World.size_alloc, hs]
  generalize hw2 : w1.alloc (.cells #[.int .i64 hi] 3) = w2 at hb2 h2 h3 hs2
  have HW2 := hide hw2
  have HH := hide (And.intro h2 (And.intro h3 (And.intro hs2 hb2)))
  have HS := hide hs
  clear hw1 hw2 hb h1 hs hb2 h2 h3 hs2
  go_enter Tryd.func76, Tryd.ntmps76
  go_wp2_with (first | rw [HW1.out] | rw [HW2.out])
  go_ret
  obtain ⟨g1, g2, g3, g4⟩ := HH.out
  exact ⟨by rw [HS.out]; rfl, cell_of_heap g1 0, cell_of_heap g2 0, g3, g4⟩

set_option maxRecDepth 100000 in
set_option maxHeartbeats 2000000 in
theorem count_seqd (b1 b2 : Nat) (lo hi : Int) (m : Nat) (w : World) (hm : hi = lo + m) (hlo : -1000000 ≤ lo ∧ lo ≤ 1000000) (hmm : m ≤ 1000000) (h1 : w.cell? ⟨b1, 0, none⟩ = some (.int .i64 lo)) (h2 : w.cell? ⟨b2, 0, none⟩ = some (.int .i64 hi)) :
    SeqD Fence.wide 8 Tryd.prog 105 #[.pointer (some ⟨b1, 0, none⟩), .pointer (some ⟨b2, 0, none⟩)] (fun x : Nat => #[.int .i64 (lo + x)]) (fun k => k = b1 ∨ k = b2) (List.range m) w := by
  intro l J Jx W hW hJ hJx hY h0
  have hB1 : W.cell? ⟨b1, 0, none⟩ = some (.int .i64 lo) := (World.cell?_of_block (hW.2 b1 (World.block_lt_of_cell? w _ h1) (.inl rfl))).trans h1
  have hB2 : W.cell? ⟨b2, 0, none⟩ = some (.int .i64 hi) := (World.cell?_of_block (hW.2 b2 (World.block_lt_of_cell? w _ h2) (.inr rfl))).trans h2
  have hlt2 := World.block_lt_of_cell? W _ hB2
  have HLT := hide hlt2
  have HB2 := hide hB2
  have HY := hide hY
  subst hm
  clear hY hW h1 h2 hlt2 hB2
  refine callsIn_of_wp Tryd.func105 rfl trivial ?_ rfl
  simp only [Tryd.ntmps105, List.size_toArray, List.length_cons, List.length_nil, Nat.reduceAdd, Nat.reduceSub, Array.replicate_succ, Array.replicate_zero, List.push_toArray, List.append_toArray, List.nil_append, List.cons_append]
  gi_wp2
  gi_loopw [4] (fun i wr => ∃ k : Nat, k ≤ m ∧ i = .int .i64 (lo + k) ∧ Hid (∃ D, J D (List.range k) wr) ∧ Hid (Kpt (fun k => k = b1 ∨ k = b2) W wr)) (fun i _ => m - (intOf i - lo).toNat)
  case atStart => exact ⟨0, Nat.zero_le _, by simp, ⟨_, h0⟩, Kpt.refl _ _⟩
  case round =>
    obtain ⟨k, hk, rfl, HJ, HK⟩ := hrel
    have hb2 : wr.cell? ⟨b2, 0, none⟩ = some (.int .i64 (lo + m)) := (World.cell?_of_block (HK.out.2 b2 HLT.out (.inr rfl))).trans HB2.out
    by_cases hlt : k < m
    · have d1 : decide (lo + (k : Int) < lo + (m : Int)) = true := decide_eq_true (by omega)
      obtain ⟨D, hj⟩ := HJ.out
      have hpre : List.range k ++ [k] <+: List.range m := by rw [← List.range_succ]; exact range_prefix hlt
      obtain ⟨fn, tmps, assign, body, hy, hR⟩ := HY.out D _ k wr hj hpre
      clear hj hpre
      gi_wp2
      refine hR.mono ?_
      rintro e W3 (⟨rfl, hJ3, hk3⟩ | ⟨rfl, hJx3, -⟩)
      · have HJ3 := hide hJ3
        have HK3 := hide hk3
        clear hJ3 hk3
        gi_wp2
        go_roundw
        case rel => exact ⟨k + 1, by omega, by go_num, ⟨D, by rw [List.range_succ]; exact HJ3.out⟩, HK.out.trans (HK3.out.mono (fun _ h => .inl h))⟩
        case measure => simp [intOf]; omega
      · have HX3 := hide hJx3
        clear hJx3
        gi_wp2
        refine bodyPost_ret (results_none rfl _ _ _) rfl ?_
        exact ⟨⟨_, rfl⟩, .inr ⟨D, _, by rw [← List.range_succ]; exact range_prefix hlt, HX3.out⟩⟩
    · obtain rfl : k = m := by omega
      have d1 : decide (lo + (k : Int) < lo + (k : Int)) = false := decide_eq_false (by omega)
      gi_wp2
      go_end0
      obtain ⟨D, hj⟩ := HJ.out
      exact ⟨⟨_, rfl⟩, .inl ⟨D, hj⟩⟩
end Go.Proofs.YtnnkbicaokckbaaDoor
