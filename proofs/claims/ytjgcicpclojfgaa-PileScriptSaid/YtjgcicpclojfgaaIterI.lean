/- seq.Of at ints, as an iterator that promises. -/
import Derived.Test.YtjgcicpclojfgaaSeqI
import Derived.Test.YtjgcicpclojfgaaIter
namespace Go.Proofs.Ytjgcicpclojfgaa
open Go.RowKit Go.Shelf
attribute [local go_sem] Oper.semAt_some

set_option maxRecDepth 100000 in
set_option maxHeartbeats 2000000 in
/-- slices.Values's closure at this type (elements of one cell): what it promises. -/
theorem seqI_seqd (n0 n1 B : Nat) (zs : List (Int)) (w : World) (hm : zs.length ≤ 1000000) (hn : n1 ≤ w.heap.size) (h : SeqAt n0 n1 w B zs.length (zs.map (Value.int .i64))) :
    SeqD Fence.wide 8 Try.prog 92 #[.pointer (some ⟨B, 0, none⟩)] (fun x => #[Value.int .i64 x]) (fun k => n0 ≤ k ∧ k < n1) zs w := by
  intro l J Jx W hW hJ hJx hY h0
  obtain ⟨h1, h2, v, hc, hr, hb⟩ := h
  have hB : W.cell? ⟨B, 0, none⟩ = some v := (World.cell?_of_block (hW.2 B (by omega) ⟨h1, h2⟩)).trans hc
  have kcell : ∀ (A A' : World), n1 ≤ A.heap.size → Kpt (fun k => n0 ≤ k ∧ k < n1) A A' → Rd A v zs.length (zs.map (Value.int .i64)) → Rd A' v zs.length (zs.map (Value.int .i64)) := by
    intro A A' hA hk hr
    refine Keep.rd (n0 := n0) (n1 := n1) (fun a u hd hv => ?_) hr hb
    exact (World.cell?_of_block (hk.2 a.block (by omega) hd)).trans hv
  have HR := hide (kcell w W hn hW hr)
  have HSZ : Hid (n1 ≤ W.heap.size) := Nat.le_trans hn hW.1
  have KC := hide kcell
  obtain ⟨ao, cap, rfl, -, -⟩ := hr.shape
  have HY := hide hY
  clear hY hr hb hc hW kcell hn
  refine callsIn_of_wp Try.func92 rfl trivial ?_ rfl
  simp only [Try.ntmps92, List.size_toArray, List.length_cons, List.length_nil, Nat.reduceAdd, Nat.reduceSub, Array.replicate_succ, Array.replicate_zero, List.push_toArray, List.append_toArray, List.nil_append, List.cons_append]
  gi_wp2
  gi_loopw [7] (fun i wr => ∃ k : Nat, k ≤ zs.length ∧ i = .int .i64 k ∧ Hid (∃ D, J D (zs.take k) wr) ∧ Hid (Kpt (fun k => n0 ≤ k ∧ k < n1) W wr)) (fun i _ => zs.length - (intOf i).toNat)
  case atStart => exact ⟨0, Nat.zero_le _, rfl, ⟨_, h0⟩, Kpt.refl _ _⟩
  case round =>
    obtain ⟨k, hk, rfl, HJ, HK⟩ := hrel
    by_cases hlt : k < zs.length
    · obtain ⟨a, cap', e, -, hcs0⟩ := (KC.out W wr HSZ.out HK.out HR.out).shape
      obtain ⟨b, off, rfl, hcs⟩ := hcs0 (by omega)
      cases e
      have hcx := hcs k (Value.int .i64 zs[k]) (by simp [hlt])
      obtain ⟨D, hj⟩ := HJ.out
      have hpre : zs.take k ++ [zs[k]] <+: zs := by rw [← take_succ_get zs k hlt]; exact List.take_prefix _ _
      obtain ⟨fn, tmps, assign, body, hy, hR⟩ := HY.out D _ zs[k] wr hj hpre
      clear hcs hcs0 hj hpre
      gi_wp2
      refine hR.mono ?_
      rintro e W3 (⟨rfl, hJ3, hk3⟩ | ⟨rfl, hJx3, -⟩)
      · have HJ3 := hide hJ3
        have HK3 := hide hk3
        clear hJ3 hk3
        gi_wp2
        go_roundw
        case rel => exact ⟨k + 1, by omega, by simp, ⟨D, by rw [take_succ_get zs k hlt]; exact HJ3.out⟩, HK.out.trans (HK3.out.mono (fun _ h => .inl h))⟩
        case measure => simp [intOf]; omega
      · have HX3 := hide hJx3
        clear hJx3
        gi_wp2
        refine bodyPost_ret (results_none rfl _ _ _) rfl ?_
        exact ⟨⟨_, rfl⟩, .inr ⟨D, _, by rw [← take_succ_get zs k hlt]; exact List.take_prefix _ _, HX3.out⟩⟩
    · obtain rfl : k = zs.length := by omega
      gi_wp2
      go_end0
      obtain ⟨D, hj⟩ := HJ.out
      exact ⟨⟨_, rfl⟩, .inl ⟨D, by simpa using hj⟩⟩
end Go.Proofs.Ytjgcicpclojfgaa
