/- Lanes: Get, All; an error's number; New of numbers that may not be. Conditions: none. -/
import Derived.Test.YtjgcicpclojfgaaLaneRA
namespace Go.Proofs.Ytjgcicpclojfgaa
open Go.RowKit Go.Shelf
attribute [local go_sem] Oper.semAt_some

set_option maxRecDepth 100000 in
set_option maxHeartbeats 4000000 in
/-- The closure of a pile's All, of structs: what it promises. -/
theorem lane_all_seqd {base : Nat} (w : World) (B lp : Nat) (pend lanes : Int) (aa : Option Addr) (acap : Nat) (l : List En) (p : Nat) (ao : Option Addr) (cap : Nat) (wt : List En) (h : LaneAt base w lp pend lanes aa acap l p ao cap wt) (hB : w.cell? ⟨B, 0, none⟩ = some (.pointer (some ⟨lp, 0, none⟩))) :
    SeqD Fence.wide 8 Try.prog 74 #[.pointer (some ⟨B, 0, none⟩)] (fun x => #[.agg #[.int .i64 (x).number, .int .i64 (x).commit, .int .i64 (x).lane, .int .i64 (x).code]]) (fun k => k = B ∨ k = lp ∨ (Value.slice aa 0 0).ownBlock = some k) l w := by
  intro ll J Jx W hW hJ hJx hY h0
  have hBl : B < w.heap.size := World.block_lt_of_cell? w _ hB
  have hBW : W.cell? ⟨B, 0, none⟩ = some (.pointer (some ⟨lp, 0, none⟩)) := (World.cell?_of_block (hW.2 B hBl (.inl rfl))).trans hB
  have hbox := hW.heap h.box (.inr (.inl rfl))
  have hpc := cell_of_heap hbox 2
  have hn : l.length ≤ 60 := h.few
  have hown : W.ownsRow base 71 4 (.slice aa l.length acap) l.length (flat pe_enc l) := by
    refine ⟨h.own.1, ?_⟩
    rcases h.own.2 with hn | ⟨gg, cap', cur, e1, hb, hgg, rest⟩
    · exact .inl hn
    · exact .inr ⟨gg, cap', cur, e1, hb, hW.heap hgg (.inr (.inr (by cases e1; rfl))), rest⟩
  have HP := hide (Rd.of_owns hown)
  have HJ := hide hJ
  have HJx := hide hJx
  have HY := hide hY
  have H0 := hide h0
  have hBl2 : B < W.heap.size := Nat.lt_of_lt_of_le hBl hW.1
  have hplt := (Array.getElem?_eq_some_iff.1 hbox).1
  clear hJ hJx hY h0 hB h hW hBl hbox hown
  refine callsIn_wide.2 ((callsIn_wide (n := 9)).1 ?_)
  refine callsIn_of_wp_marks Try.func74 rfl trivial ?_ rfl
  simp only [Try.ntmps74, List.size_toArray, List.length_cons, List.length_nil, Nat.reduceAdd, Nat.reduceSub, Array.replicate_succ, Array.replicate_zero, List.push_toArray, List.append_toArray, List.nil_append, List.cons_append]
  gi_wp2_with (first
    | (refine ⟨trivial, ?_⟩; gi_at_call 71; refine (callsIn_wide.2 (pe_of _ _ l.length (flat pe_enc l) (HP.out.chg (Chg.alloc (fun _ => False) W _) (fun _ _ _ h => h)) (flat_length pe_len l) (flat_one' pe_one l) (by omega))).mono ?_; rintro e w2 ⟨B2, rfl, hs2, hb2⟩; have HS2 := hide hs2; have HB2 := hide hb2; clear hs2 hb2))
  have hz2 := HB2.out.size
  rw [World.size_alloc] at hz2
  have HZ2 := hide hz2
  have hs2 := HS2.out
  rw [World.size_alloc] at hs2
  have hbox : w2.heap[W.heap.size]? = some (.cells #[.func (.yield ll) #[] #[]] 108) := (Chg.of_below0 (S := fun _ => False) HB2.out).heap (heap_alloc_new W _) (fun h => h)
  have HBX := hide hbox
  have hc02 : Chg (fun _ => False) W w2 := (Chg.alloc (fun _ => False) W _).trans (Chg.of_below0 HB2.out) (fun _ _ h => h) (fun _ _ h => h)
  have HC02 := hide hc02
  refine wpIn_range_D (α := En) rfl (by omega) (gf := 99) (lb := #[.pointer (some ⟨B2, 0, none⟩)]) rfl trivial (enters_of Try.func99 (by kernel_rfl) rfl)
    (pe_seqd (W.heap.size + 1) w2.heap.size B2 l w2 (by omega) (Nat.le_refl _) hs2) (Kpt.refl _ _) (fun k hk => hk.2) (fun _ => rfl)
    (fun D' pre Wr => ∃ D, J D pre Wr ∧ (∀ k, D' k → D k ∧ w2.heap.size ≤ k) ∧ (∀ k, W.heap.size ≤ k → k < w2.heap.size + 2 → D k) ∧ Wr.heap[W.heap.size]? = some (.cells #[.func (.yield ll) #[] #[]] 108) ∧ w2.heap.size + 2 ≤ Wr.heap.size)
    (fun c D' pre Wr => c = .ret ∧ ∃ D, Jx D pre Wr ∧ (∀ k, D' k → D k) ∧ (∀ k, W.heap.size ≤ k → k < w2.heap.size + 2 → D k)) ?hI ?hIx ?h0
    (fun x a' Wr => ∃ Bx, w2.heap.size + 2 ≤ Bx ∧ Wr.heap[Bx]? = some (.cells #[.int .i64 (x).number, .int .i64 (x).commit, .int .i64 (x).lane, .int .i64 (x).code] 71 (0, 0)) ∧ ∃ u0 u1 u4 u5 u6 u7 u8 u9 u10 u11 u12 u13 u14 u15, a' = { tmps := #[u0, u1, .pointer (some ⟨W.heap.size, 0, none⟩), .pointer (some ⟨Bx, 0, none⟩), u4, u5, u6, u7, u8, u9, u10, u11, u12, u13, u14, u15], defers := [] })
    (fun x a' A A' h c _ => by obtain ⟨Bx, h1, h2, h3⟩ := h; exact ⟨Bx, h1, c.heap h2 (fun e => by omega), h3⟩) ?assign ?body ?done ?stop
  case hI =>
    rintro D' s A A' S ⟨D, hj, hd, hnew, hb, hsz⟩ hc hS
    have hsub : ∀ k, k < A.heap.size → S k → D k := fun k hk hs => (hS k hk hs).elim (fun h => (hd k h).1) (fun h => hnew k (by omega) (by omega))
    refine ⟨_, HJ.out D s A A' S hj hc hsub, ?_, fun k h1 h2 => .inl (hnew k h1 h2), hc.heap hb (fun h => ?_), Nat.le_trans hsz hc.size⟩
    · rintro k (h | h)
      · exact ⟨.inl (hd k h).1, (hd k h).2⟩
      · exact ⟨.inr h, by omega⟩
    · rcases hS _ (by omega) h with h1 | h1
      · have := (hd _ h1).2; omega
      · omega
  case hIx =>
    rintro c D' s A A' S ⟨rfl, D, hj, hd, hnew⟩ hc hS
    have hsub : ∀ k, k < A.heap.size → S k → D k := fun k hk hs => (hS k hk hs).elim (fun h => hd k h) (fun h => hnew k (by omega) (by omega))
    refine ⟨rfl, _, HJx.out D s A A' S hj hc hsub, ?_, fun k h1 h2 => .inl (hnew k h1 h2)⟩
    rintro k (h | h)
    · exact .inl (hd k h)
    · exact .inr h
  case h0 =>
    intro W' hc' hz'
    have hc0 := HC02.out.trans hc' (S'' := fun _ => False) (fun _ _ h => h) (fun _ _ h => h)
    refine ⟨_, HJ.out _ [] W W' _ H0.out hc0 (fun _ _ h => h.elim), fun _ h => h.elim, fun k h1 h2 => .inr ⟨h1, by omega⟩, hc'.heap HBX.out (fun h => h), by omega⟩
  case assign =>
    rintro lr D' pre x W1 K ⟨D, hj, hd, hnew, hb, hsz⟩ hpre hsz2 hK
    have HJ1 := hide hj
    have HD := hide hd
    have HNEW := hide hnew
    have HB1 := hide hb
    have HK := hide hK
    clear hj hd hnew hb hK
    gi_wp2
    refine HK.out _ _ (Kpt.of_chg (Chg.alloc (fun _ => False) W1 _) (fun _ _ _ h => h)) ⟨_, HJ.out D pre W1 _ _ HJ1.out (Chg.alloc (fun _ => False) W1 (.cells #[.int .i64 (x).number, .int .i64 (x).commit, .int .i64 (x).lane, .int .i64 (x).code] 71)) (fun _ _ h => h.elim), fun k h => ⟨.inl (HD.out k h).1, (HD.out k h).2⟩, fun k h1 h2 => .inl (HNEW.out k h1 h2), (Chg.alloc (fun _ => False) W1 _).heap HB1.out (fun h => h), by simp; omega⟩
      ⟨W1.heap.size, hsz, heap_alloc_new W1 _, _, _, _, _, _, _, _, _, _, _, _, _, _, _, rfl⟩
  case body =>
    rintro lr D' pre x a' W1 hlr ⟨r, hr⟩ hnc ⟨D, hj, hd, hnew, hb, hsz⟩ ⟨Bx, hbx, hbc, u0, u1, u4, u5, u6, u7, u8, u9, u10, u11, u12, u13, u14, u15, rfl⟩ hpre hnd hnd1
    have hcb := cell_of_heap hb 0
    have hcx0 := cell_of_heap hbc 0; have hcx1 := cell_of_heap hbc 1; have hcx2 := cell_of_heap hbc 2; have hcx3 := cell_of_heap hbc 3
    obtain ⟨fn, tmps, assign, body, hy, hR⟩ := YieldAt.any rfl 6 (HY.out D pre x W1 hj hpre)
    have HB1 := hide hb
    have HR := hide hR
    have HD := hide hd
    have HNEW := hide hnew
    clear hb hR hr hnc hj hpre hd hnew hnd hnd1 hbc
    gi_wp2
    refine HR.out.mono ?_
    rintro e W3 (⟨rfl, hj3, hk3⟩ | ⟨rfl, hx3, hk3⟩)
    · have HJ3 := hide hj3
      have HK3 := hide hk3
      clear hj3 hk3
      gi_wp2
      refine ⟨HK3.out.mono (fun k h => .inr ?_), D, HJ3.out, HD.out, HNEW.out, HK3.out.heap HB1.out (.inr (HNEW.out _ (Nat.le_refl _) (by omega))), Nat.le_trans hsz HK3.out.1⟩
      rcases h with h | h | h | h
      · exact HNEW.out k (by omega) (by omega)
      · exact (HD.out k h).1
      · exact HNEW.out k (by omega) (by omega)
      · exact HNEW.out k (by omega) (by omega)
    · have HX3 := hide hx3
      have HK3 := hide hk3
      clear hx3 hk3
      gi_wp2
      refine ⟨HK3.out.mono (fun k h => .inr ?_), rfl, D, HX3.out, fun k h => (HD.out k h).1, HNEW.out⟩
      rcases h with h | h | h | h
      · exact HNEW.out k (by omega) (by omega)
      · exact (HD.out k h).1
      · exact HNEW.out k (by omega) (by omega)
      · exact HNEW.out k (by omega) (by omega)
  case done =>
    rintro D' Wd ⟨D, hj, hd, hnew, hb, hsz⟩ hdef hnd
    have HJ3 := hide hj
    have HNEW := hide hnew
    clear hj hd hnew hb
    gi_wp2
    refine ⟨by simp, .inl ⟨_, _, rfl, run_takeDeferred hdef, ?_⟩⟩
    exact ⟨_, results_none rfl _ _ _, ⟨_, rfl⟩, .inl ⟨_, HJ.out D l Wd _ _ HJ3.out (chg_putObj Wd _ _) (fun k _ e => by subst e; exact HNEW.out _ (by omega) (by omega))⟩⟩
  case stop =>
    rintro D' c pre Wd hpre ⟨rfl, D, hx, hd, hnew⟩ hdef hnd
    have HX3 := hide hx
    have HNEW := hide hnew
    clear hx hd hnew
    gi_wp2
    refine ⟨by simp, .inl ⟨_, _, rfl, run_takeDeferred hdef, ?_⟩⟩
    exact ⟨_, results_none rfl _ _ _, ⟨_, rfl⟩, .inr ⟨_, pre, hpre, HJx.out D pre Wd _ _ HX3.out (chg_putObj Wd _ _) (fun k _ e => by subst e; exact HNEW.out _ (by omega) (by omega))⟩⟩

section
variable {base : Nat} {lp : Nat} {pend lanes : Int} {aa : Option Addr} {acap : Nat} {all : List En} {p : Nat} {ao : Option Addr} {cap : Nat} {wt : List En}
theorem lane_all_tells (w : World) (h : LaneAt base w lp pend lanes aa acap all p ao cap wt) : Calls Try.prog 55 #[.pointer (some ⟨lp, 0, none⟩)] w fun e w' => ∃ v, e = .returned v ∧ Tells (fun _ => False) all v w' ∧ Below w.heap.size w w' := by
  refine (lane_All w _).mono ?_
  rintro e w' ⟨rfl, rfl⟩
  have h' := h.chg (Chg.alloc (fun _ => False) w (.cells #[.pointer (some ⟨lp, 0, none⟩)] 60)) (fun _ _ h => h)
  have hs := lane_all_seqd _ w.heap.size lp _ _ aa acap all p ao cap wt h' (by rw [cell_of_heap (heap_alloc_new w _)]; rfl)
  refine ⟨_, rfl, ⟨_, _, _, rfl, enters_of Try.func74 (by kernel_rfl) rfl, hs, fun k hk => ⟨?_, fun h => h⟩⟩, (Below.refl _ w).alloc (Nat.le_refl _) _⟩
  rcases hk with rfl | rfl | hk
  · simp
  · exact (h'.lt _ (.inl rfl)).2
  · exact (h'.lt k (.inr (.inl hk))).2
theorem lane_Get_no (w : World) (n : Int) (h : LaneAt base w lp pend lanes aa acap all p ao cap wt) (hn : n < 1 ∨ (all.length : Int) < n) : Calls Try.prog 51 #[.pointer (some ⟨lp, 0, none⟩), .int .i64 n] w fun e w' => e = .returned (.tuple #[.agg #[.int .i64 0, .int .i64 0, .int .i64 0, .int .i64 0], .bool false]) ∧ Below w.heap.size w w' := by
  have h2 := cell_of_heap h.box 2
  have hl := (h.lt lp (.inl rfl)).2
  clear h
  by_cases h1 : n < 1
  · clear hn
    go_enter Try.func51, Try.ntmps51
    go_wp2_with fail
    refine bodyPost_ret (v := .tuple #[.agg #[.int .i64 0, .int .i64 0, .int .i64 0, .int .i64 0], .bool false]) (by simp [results, Try.results51, go_sem]) rfl ?_
    refine ⟨rfl, ?_⟩
    exact (Below.refl _ w).alloc (Nat.le_refl _) _
  · have d2 : (all.length : Int) < n := by omega
    clear hn
    go_enter Try.func51, Try.ntmps51
    go_wp2_with fail
    refine bodyPost_ret (v := .tuple #[.agg #[.int .i64 0, .int .i64 0, .int .i64 0, .int .i64 0], .bool false]) (by simp [results, Try.results51, go_sem]) rfl ?_
    refine ⟨rfl, ?_⟩
    exact (Below.refl _ w).alloc (Nat.le_refl _) _
theorem lane_Get_yes (w : World) (m : Nat) (h : LaneAt base w lp pend lanes aa acap all p ao cap wt) (hm : m < all.length) : Calls Try.prog 51 #[.pointer (some ⟨lp, 0, none⟩), .int .i64 (m + 1)] w fun e w' => e = .returned (.tuple #[.agg #[.int .i64 all[m].number, .int .i64 all[m].commit, .int .i64 all[m].lane, .int .i64 all[m].code], .bool true]) ∧ Below w.heap.size w w' := by
  have h2 := cell_of_heap h.box 2
  have hl := (h.lt lp (.inl rfl)).2
  have hfew := h.few
  obtain ⟨b, rfl, hcs, hbl, hcp⟩ := own_at h.own (by omega)
  obtain ⟨hx0, hx1, hx2, hx3⟩ := pe_cells w b 0 all hcs m hm
  simp only [Nat.zero_add] at hx0 hx1 hx2 hx3
  obtain ⟨x, hxx⟩ : ∃ x, x = all[m] := ⟨_, rfl⟩
  rw [← hxx] at hx0 hx1 hx2 hx3 ⊢
  have d1 : decide ((m : Int) + 1 < 1) = false := decide_eq_false (by omega)
  have d2 : decide ((m : Int) + 1 > all.length) = false := decide_eq_false (by omega)
  have a1 : IntKind.i64.wrap (m : Int) = m := IntWalk.i64_in _ (by omega)
  have a2 : IntKind.i64.wrap ((m : Int) + 1 - 1) = m := by rw [Int.add_sub_cancel]; exact a1
  have hm' : (m : Int) < all.length := by omega
  clear h hcs hcp hxx hm
  go_enter Try.func51, Try.ntmps51
  go_wp2_with fail
  refine bodyPost_ret (v := .tuple #[.agg #[.int .i64 x.number, .int .i64 x.commit, .int .i64 x.lane, .int .i64 x.code], .bool true]) (by simp [results, Try.results51, go_sem]) rfl ?_
  refine ⟨rfl, ?_⟩
  exact (Below.refl _ w).alloc (Nat.le_refl _) _
end
theorem Num_ok (w : World) (n : Int) : Calls Try.prog 49 #[.int .i64 n] w fun e w' => e = .returned (.int .i64 n) ∧ w' = w := by
  go_enter Try.func49, Try.ntmps49
  go_wp2
  go_ret
  exact ⟨rfl, rfl⟩
theorem lane_New_bad (w : World) (p l : Int) (h : may20 p l = false) : Calls Try.prog 39 #[.int .i64 p, .int .i64 l] w fun e w' => e = .returned (.pointer none) ∧ w' = w := by
  have h' : ¬ (1 ≤ p ∧ p ≤ 8 ∧ 1 ≤ l ∧ l ≤ 4) := of_decide_eq_false h
  clear h
  by_cases h1 : p < 1
  · clear h'
    go_enter Try.func39, Try.ntmps39
    go_wp2
    go_ret
    exact ⟨rfl, rfl⟩
  · by_cases h2 : p > 8
    · clear h'
      go_enter Try.func39, Try.ntmps39
      go_wp2
      go_ret
      exact ⟨rfl, rfl⟩
    · by_cases h3 : l < 1
      · clear h'
        go_enter Try.func39, Try.ntmps39
        go_wp2
        go_ret
        exact ⟨rfl, rfl⟩
      · have h4 : l > 4 := by omega
        clear h'
        go_enter Try.func39, Try.ntmps39
        go_wp2
        go_ret
        exact ⟨rfl, rfl⟩
end Go.Proofs.Ytjgcicpclojfgaa
