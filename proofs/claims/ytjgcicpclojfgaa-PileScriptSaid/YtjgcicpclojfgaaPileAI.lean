/- A pile of ints: All. -/
import Derived.Test.YtjgcicpclojfgaaPileI
import Derived.Test.YtjgcicpclojfgaaIterI
namespace Go.Proofs.Ytjgcicpclojfgaa
open Go.RowKit Go.Shelf
attribute [local go_sem] Oper.semAt_some

set_option maxRecDepth 100000 in
set_option maxHeartbeats 4000000 in
/-- The closure of a pile's All, of one-cell elements: what it promises. -/
theorem pi_all_seqd {base : Nat} (w : World) (B p g : Nat) (ao : Option Addr) (cap : Nat) (l : List (Int)) (h : pi_At base w p g ao cap l) (hB : w.cell? ⟨B, 0, none⟩ = some (.pointer (some ⟨p, 0, none⟩))) :
    SeqD Fence.wide 8 Try.prog 57 #[.pointer (some ⟨B, 0, none⟩)] (fun x => #[Value.int .i64 x]) (fun k => k = B ∨ PSet p ao k) l w := by
  intro ll J Jx W hW hJ hJx hY h0
  have hBl : B < w.heap.size := World.block_lt_of_cell? w _ hB
  have hBW : W.cell? ⟨B, 0, none⟩ = some (.pointer (some ⟨p, 0, none⟩)) := (World.cell?_of_block (hW.2 B hBl (.inl rfl))).trans hB
  have hP : pi_At base W p g ao cap l := by
    have hl := h.lt
    refine ⟨hW.heap h.1 (.inr (.inl rfl)), ?_, h.2.2⟩
    refine ⟨h.2.1.1, ?_⟩
    rcases h.2.1.2 with hn | ⟨gg, cap', cur, e1, hb, hgg, rest⟩
    · exact .inl hn
    · exact .inr ⟨gg, cap', cur, e1, hb, hW.heap hgg (.inr (.inr (by cases e1; rfl))), rest⟩
  have hpc := hP.c1
  have hn := hP.2.2.2
  have HP := hide hP
  have HJ := hide hJ
  have HJx := hide hJx
  have HY := hide hY
  have H0 := hide h0
  have hBl2 : B < W.heap.size := Nat.lt_of_lt_of_le hBl hW.1
  have hplt := (hP.lt p (.inl rfl)).2
  clear hJ hJx hY h0 hP hB h hW hBl
  refine callsIn_wide.2 ((callsIn_wide (n := 9)).1 ?_)
  refine callsIn_of_wp_marks Try.func57 rfl trivial ?_ rfl
  simp only [Try.ntmps57, List.size_toArray, List.length_cons, List.length_nil, Nat.reduceAdd, Nat.reduceSub, Array.replicate_succ, Array.replicate_zero, List.push_toArray, List.append_toArray, List.nil_append, List.cons_append]
  gi_wp2_with (first
    | (refine ⟨trivial, ?_⟩; gi_at_call 58; refine (callsIn_wide.2 (seqI_of _ _ l.length (l.map (Value.int .i64)) (HP.out.rd.chg (Chg.alloc (fun _ => False) W _) (fun _ _ _ h => h)) (by simp) (fun u hu => by obtain ⟨y, _, rfl⟩ := List.mem_map.1 hu; rfl) (by omega))).mono ?_; rintro e w2 ⟨B2, rfl, hs2, hb2⟩; have HS2 := hide hs2; have HB2 := hide hb2; clear hs2 hb2))
  have hz2 := HB2.out.size
  rw [World.size_alloc] at hz2
  have HZ2 := hide hz2
  have hs2 := HS2.out
  rw [World.size_alloc] at hs2
  have hbox : w2.heap[W.heap.size]? = some (.cells #[.func (.yield ll) #[] #[]] 59) := (Chg.of_below0 (S := fun _ => False) HB2.out).heap (heap_alloc_new W _) (fun h => h)
  have HBX := hide hbox
  have hc02 : Chg (fun _ => False) W w2 := (Chg.alloc (fun _ => False) W _).trans (Chg.of_below0 HB2.out) (fun _ _ h => h) (fun _ _ h => h)
  have HC02 := hide hc02
  refine wpIn_range_D (α := Int) rfl (by omega) (gf := 92) (lb := #[.pointer (some ⟨B2, 0, none⟩)]) rfl trivial (enters_of Try.func92 (by kernel_rfl) rfl)
    (seqI_seqd (W.heap.size + 1) w2.heap.size B2 l w2 (by omega) (Nat.le_refl _) hs2) (Kpt.refl _ _) (fun k hk => hk.2) (fun _ => rfl)
    (fun D' pre Wr => ∃ D, J D pre Wr ∧ (∀ k, D' k → D k ∧ w2.heap.size ≤ k) ∧ (∀ k, W.heap.size ≤ k → k < w2.heap.size + 2 → D k) ∧ Wr.heap[W.heap.size]? = some (.cells #[.func (.yield ll) #[] #[]] 59) ∧ w2.heap.size + 2 ≤ Wr.heap.size)
    (fun c D' pre Wr => c = .ret ∧ ∃ D, Jx D pre Wr ∧ (∀ k, D' k → D k) ∧ (∀ k, W.heap.size ≤ k → k < w2.heap.size + 2 → D k)) ?hI ?hIx ?h0
    (fun x a' _ => ∃ u0 u1 u4 u5 u6 u7 u8 u9 u10 u11 u12 u13 u14 u15, a' = { tmps := #[u0, u1, .pointer (some ⟨W.heap.size, 0, none⟩), Value.int .i64 x, u4, u5, u6, u7, u8, u9, u10, u11, u12, u13, u14, u15], defers := [] })
    (fun _ _ _ _ h _ _ => h) ?assign ?body ?done ?stop
  case hI =>
    rintro D' s A A' S ⟨D, hj, hd, hnew, hb, hsz⟩ hc hS
    have hsub : ∀ k, k < A.heap.size → S k → D k := fun k hk hs => (hS k hk hs).elim (fun h => (hd k h).1) (fun h => hnew k (by omega) (by omega))
    refine ⟨_, HJ.out D s A A' S hj hc hsub, ?_, fun k h1 h2 => .inl (hnew k h1 h2), hc.heap hb (fun h => ?_), Nat.le_trans hsz hc.size⟩
    · rintro k (h | h)
      · exact ⟨.inl (hd k h).1, (hd k h).2⟩
      · exact ⟨.inr h, by omega⟩
    · rcases hS _ (by omega) h with h1 | h1
      · have := (hd _ h1).2; omega
      · omega
  case hIx =>
    rintro c D' s A A' S ⟨rfl, D, hj, hd, hnew⟩ hc hS
    have hsub : ∀ k, k < A.heap.size → S k → D k := fun k hk hs => (hS k hk hs).elim (fun h => hd k h) (fun h => hnew k (by omega) (by omega))
    refine ⟨rfl, _, HJx.out D s A A' S hj hc hsub, ?_, fun k h1 h2 => .inl (hnew k h1 h2)⟩
    rintro k (h | h)
    · exact .inl (hd k h)
    · exact .inr h
  case h0 =>
    intro W' hc' hz'
    have hc0 := HC02.out.trans hc' (S'' := fun _ => False) (fun _ _ h => h) (fun _ _ h => h)
    refine ⟨_, HJ.out _ [] W W' _ H0.out hc0 (fun _ _ h => h.elim), fun _ h => h.elim, fun k h1 h2 => .inr ⟨h1, by omega⟩, hc'.heap HBX.out (fun h => h), by omega⟩
  case assign =>
    intro lr D pre x W1 K hi hpre hsz hK
    gi_wp2
    exact hK _ _ (Kpt.refl _ _) hi ⟨_, _, _, _, _, _, _, _, _, _, _, _, _, _, rfl⟩
  case body =>
    rintro lr D' pre x a' W1 hlr ⟨r, hr⟩ hnc ⟨D, hj, hd, hnew, hb, hsz⟩ ⟨u0, u1, u4, u5, u6, u7, u8, u9, u10, u11, u12, u13, u14, u15, rfl⟩ hpre hnd hnd1
    have hcb := cell_of_heap hb 0
    obtain ⟨fn, tmps, assign, body, hy, hR⟩ := YieldAt.any rfl 6 (HY.out D pre x W1 hj hpre)
    have HB1 := hide hb
    have HR := hide hR
    have HD := hide hd
    have HNEW := hide hnew
    clear hb hR hr hnc hj hpre hd hnew hnd hnd1
    gi_wp2
    refine HR.out.mono ?_
    rintro e W3 (⟨rfl, hj3, hk3⟩ | ⟨rfl, hx3, hk3⟩)
    · have HJ3 := hide hj3
      have HK3 := hide hk3
      clear hj3 hk3
      gi_wp2
      refine ⟨HK3.out.mono (fun k h => .inr ?_), D, HJ3.out, HD.out, HNEW.out, HK3.out.heap HB1.out (.inr (HNEW.out _ (Nat.le_refl _) (by omega))), Nat.le_trans hsz HK3.out.1⟩
      rcases h with h | h | h | h
      · exact HNEW.out k (by omega) (by omega)
      · exact (HD.out k h).1
      · exact HNEW.out k (by omega) (by omega)
      · exact HNEW.out k (by omega) (by omega)
    · have HX3 := hide hx3
      have HK3 := hide hk3
      clear hx3 hk3
      gi_wp2
      refine ⟨HK3.out.mono (fun k h => .inr ?_), rfl, D, HX3.out, fun k h => (HD.out k h).1, HNEW.out⟩
      rcases h with h | h | h | h
      · exact HNEW.out k (by omega) (by omega)
      · exact (HD.out k h).1
      · exact HNEW.out k (by omega) (by omega)
      · exact HNEW.out k (by omega) (by omega)
  case done =>
    rintro D' Wd ⟨D, hj, hd, hnew, hb, hsz⟩ hdef hnd
    have HJ3 := hide hj
    have HNEW := hide hnew
    clear hj hd hnew hb
    gi_wp2
    refine ⟨by simp, .inl ⟨_, _, rfl, run_takeDeferred hdef, ?_⟩⟩
    exact ⟨_, results_none rfl _ _ _, ⟨_, rfl⟩, .inl ⟨_, HJ.out D l Wd _ _ HJ3.out (chg_putObj Wd _ _) (fun k _ e => by subst e; exact HNEW.out _ (by omega) (by omega))⟩⟩
  case stop =>
    rintro D' c pre Wd hpre ⟨rfl, D, hx, hd, hnew⟩ hdef hnd
    have HX3 := hide hx
    have HNEW := hide hnew
    clear hx hd hnew
    gi_wp2
    refine ⟨by simp, .inl ⟨_, _, rfl, run_takeDeferred hdef, ?_⟩⟩
    exact ⟨_, results_none rfl _ _ _, ⟨_, rfl⟩, .inr ⟨_, pre, hpre, HJx.out D pre Wd _ _ HX3.out (chg_putObj Wd _ _) (fun k _ e => by subst e; exact HNEW.out _ (by omega) (by omega))⟩⟩
set_option maxRecDepth 100000 in
/-- The closure of a nil pile's All: it tells none. -/
theorem pi_all_seqd_nil (w : World) (B : Nat) (hB : w.cell? ⟨B, 0, none⟩ = some (.pointer none)) :
    SeqD Fence.wide 8 Try.prog 57 #[.pointer (some ⟨B, 0, none⟩)] (fun x : Int => #[Value.int .i64 x]) (fun k => k = B) [] w := by
  intro ll J Jx W hW hJ hJx hY h0
  have hBl : B < w.heap.size := World.block_lt_of_cell? w _ hB
  have hBW : W.cell? ⟨B, 0, none⟩ = some (.pointer none) := (World.cell?_of_block (hW.2 B hBl rfl)).trans hB
  have HJ := hide hJ
  have H0 := hide h0
  have hBl2 : B < W.heap.size := Nat.lt_of_lt_of_le hBl hW.1
  clear hJ hJx hY h0 hB hW hBl
  refine callsIn_wide.2 ((callsIn_wide (n := 9)).1 ?_)
  refine callsIn_of_wp_marks Try.func57 rfl trivial ?_ rfl
  simp only [Try.ntmps57, List.size_toArray, List.length_cons, List.length_nil, Nat.reduceAdd, Nat.reduceSub, Array.replicate_succ, Array.replicate_zero, List.push_toArray, List.append_toArray, List.nil_append, List.cons_append]
  gi_wp2
  exact ⟨_, results_none rfl _ _ _, ⟨_, rfl⟩, .inl ⟨_, HJ.out _ [] W _ _ H0.out (Chg.alloc (fun _ => False) W _) (fun _ _ h => h)⟩⟩
end Go.Proofs.Ytjgcicpclojfgaa
