/- A pile of cortegelaw2.Thing: seq.Of, All. -/
import Derived.Test.YtjgcicpclojfgaaPt
import Derived.Test.YtjgcicpclojfgaaIterI
namespace Go.Proofs.Ytjgcicpclojfgaa
open Go.RowKit Go.Shelf
attribute [local go_sem] Oper.semAt_some

/-- slices.Clone at this type: nil of nil; else a row of its own. -/
theorem pt_clone (w : World) (va : Value) (n : Nat) (cs : List Value) (ha : Rd w va n cs) (hl : cs.length = n * 2) (h1 : ∀ u ∈ cs, u.oneCell' = true) (hm : n * 16 ≤ 140737488351232) :
    Calls Try.prog 81 #[va] w fun e w' => ∃ ao cap, e = .returned (.slice ao n cap) ∧ w'.ownsRow w.heap.size 43 2 (.slice ao n cap) n cs ∧ Below w.heap.size w w' ∧ (ao = none ↔ va = .slice none 0 0) := by
  have hR := hide ha
  have hn := fun (w : World) (a : Option Addr) (n c n' c' : Nat) => Lib.run_eql_slice_nil (P := Try.prog) w 45 43 a n c n' c' pt_slT.under
  rcases ha with ⟨rfl, rfl, rfl⟩ | ⟨ad, cap, rfl, hc, hcs⟩
  · go_enter Try.func81, Try.ntmps81
    go_wp2
    go_ret
    exact ⟨none, 0, rfl, World.ownsRow_nil _ _ _ _, Below.refl _ _, by simp⟩
  · clear hcs
    go_enter Try.func81, Try.ntmps81
    go_wp2_with (at_builtin; refine wpl_append0 rfl _ _ _ rfl pt_slT w.heap.size (ownsRow_empty 2 (heap_alloc_new w _) (Nat.le_refl _)) (hR.out.chg (Chg.alloc (fun _ => False) w _) (fun _ _ _ => id)) rfl rfl hl h1 (by omega) (by unfold maxLen; omega) (by simp) ?_; intro ao cap' w1 hown hg hat hnil)
    go_ret
    refine ⟨ao, cap', rfl, hown, (Below.alloc (Below.refl _ w) (Nat.le_refl _) _).trans (hg.below (by simp) (fun k hk e => by simp [Value.ownBlock] at e; omega)), ?_⟩
    rw [hnil]; simp
theorem pt_values (w : World) (a : Option Addr) (n c : Nat) : Calls Try.prog 80 #[.slice a n c] w fun e w' => e = .returned (.func (.func 95) #[] #[.pointer (some ⟨w.heap.size, 0, none⟩)]) ∧ w' = w.alloc (.cells #[.slice a n c] 45) := by
  go_enter Try.func80, Try.ntmps80
  go_wp2
  go_ret
  exact ⟨rfl, rfl⟩
/-- seq.Of at this type. -/
theorem pt_of (w : World) (va : Value) (n : Nat) (cs : List Value) (ha : Rd w va n cs) (hl : cs.length = n * 2) (h1 : ∀ u ∈ cs, u.oneCell' = true) (hm : n * 16 ≤ 140737488351232) :
    Calls Try.prog 64 #[va] w fun e w' => ∃ B, e = .returned (.func (.func 95) #[] #[.pointer (some ⟨B, 0, none⟩)]) ∧ SeqAt w.heap.size w'.heap.size w' B n cs ∧ Below w.heap.size w w' := by
  obtain ⟨ao, cap, rfl, -, -⟩ := ha.shape
  have HA := hide ha
  clear ha
  go_enter Try.func64, Try.ntmps64
  go_wp2_with fail
  refine (pt_clone w _ n cs HA.out hl h1 hm).mono ?_
  rintro e w1 ⟨ao1, cap1, rfl, ho, hb, -⟩
  have HO := hide ho
  have HB := hide hb
  clear ho hb
  go_wp2_with fail
  refine (pt_values w1 _ _ _).mono ?_
  rintro e w2 ⟨rfl, rfl⟩
  go_wp2_with fail
  go_ret
  refine ⟨_, rfl, ⟨HB.out.size, by simp, _, cell_of_heap (heap_alloc_new w1 _) 0, (Rd.of_owns HO.out).chg (Chg.alloc (fun _ => False) w1 _) (fun _ _ _ h => h), fun k hk => ?_⟩, HB.out.alloc HB.out.size _⟩
  have := ownsRow_lt HO.out k hk
  simp
  omega

set_option maxRecDepth 100000 in
set_option maxHeartbeats 2000000 in
/-- slices.Values's closure at this type: what it promises. -/
theorem pt_seqd (n0 n1 B : Nat) (zs : List Th) (w : World) (hm : zs.length ≤ 1000000) (hn : n1 ≤ w.heap.size) (h : SeqAt n0 n1 w B zs.length (flat pt_enc zs)) :
    SeqD Fence.wide 8 Try.prog 95 #[.pointer (some ⟨B, 0, none⟩)] (fun x => #[.agg #[.int .i64 (x).key, .int .i64 (x).which]]) (fun k => n0 ≤ k ∧ k < n1) zs w := by
  intro l J Jx W hW hJ hJx hY h0
  obtain ⟨h1, h2, v, hc, hr, hb⟩ := h
  have hB : W.cell? ⟨B, 0, none⟩ = some v := (World.cell?_of_block (hW.2 B (by omega) ⟨h1, h2⟩)).trans hc
  have kcell : ∀ (A A' : World), n1 ≤ A.heap.size → Kpt (fun k => n0 ≤ k ∧ k < n1) A A' → Rd A v zs.length (flat pt_enc zs) → Rd A' v zs.length (flat pt_enc zs) := by
    intro A A' hA hk hr
    refine Keep.rd (n0 := n0) (n1 := n1) (fun a u hd hv => ?_) hr hb
    exact (World.cell?_of_block (hk.2 a.block (by omega) hd)).trans hv
  have HR := hide (kcell w W hn hW hr)
  have HSZ : Hid (n1 ≤ W.heap.size) := Nat.le_trans hn hW.1
  have KC := hide kcell
  obtain ⟨ao, cap, rfl, -, -⟩ := hr.shape
  have HY := hide hY
  have HJ0 := hide hJ
  clear hY hr hb hc hW kcell hn hJ
  refine callsIn_of_wp Try.func95 rfl trivial ?_ rfl
  simp only [Try.ntmps95, List.size_toArray, List.length_cons, List.length_nil, Nat.reduceAdd, Nat.reduceSub, Array.replicate_succ, Array.replicate_zero, List.push_toArray, List.append_toArray, List.nil_append, List.cons_append]
  gi_wp2
  gi_loopw [7] (fun i wr => ∃ k : Nat, k ≤ zs.length ∧ i = .int .i64 k ∧ Hid (∃ D, J D (zs.take k) wr) ∧ Hid (Kpt (fun k => n0 ≤ k ∧ k < n1) W wr)) (fun i _ => zs.length - (intOf i).toNat)
  case atStart => exact ⟨0, Nat.zero_le _, rfl, ⟨_, h0⟩, Kpt.refl _ _⟩
  case round =>
    obtain ⟨k, hk, rfl, HJ, HK⟩ := hrel
    by_cases hlt : k < zs.length
    · obtain ⟨a, cap', e, -, hcs0⟩ := (KC.out W wr HSZ.out HK.out HR.out).shape
      obtain ⟨b, off, rfl, hcs⟩ := hcs0 (by omega)
      cases e
      obtain ⟨hx0, hx1⟩ := pt_cells wr b off zs hcs k hlt
      obtain ⟨D, hj⟩ := HJ.out
      have hpre : zs.take k ++ [zs[k]] <+: zs := by rw [← take_succ_get zs k hlt]; exact List.take_prefix _ _
      have hj2 := HJ0.out D _ wr (wr.alloc (.cells #[.int .i64 (zs[k]).key, .int .i64 (zs[k]).which] 43)) _ hj (Chg.alloc (fun _ => False) wr _) (fun _ _ h => h.elim)
      obtain ⟨fn, tmps, assign, body, hy, hR⟩ := HY.out _ _ zs[k] _ hj2 hpre
      have HRR := hide hR
      clear hcs hcs0 hj hpre hj2 hR
      gi_wp2
      refine HRR.out.mono ?_
      rintro e W3 (⟨rfl, hJ3, hk3⟩ | ⟨rfl, hJx3, -⟩)
      · have HJ3 := hide hJ3
        have HK3 := hide hk3
        clear hJ3 hk3
        gi_wp2
        go_roundw
        case rel => exact ⟨k + 1, by omega, by simp, ⟨_, by rw [take_succ_get zs k hlt]; exact HJ3.out⟩, (HK.out.trans (Kpt.of_chg (Chg.alloc (fun _ => False) wr _) (fun _ _ _ h => h))).trans (HK3.out.mono (fun _ h => .inl h))⟩
        case measure => simp [intOf]; omega
      · have HX3 := hide hJx3
        clear hJx3
        gi_wp2
        refine bodyPost_ret (results_none rfl _ _ _) rfl ?_
        exact ⟨⟨_, rfl⟩, .inr ⟨_, _, by rw [← take_succ_get zs k hlt]; exact List.take_prefix _ _, HX3.out⟩⟩
    · obtain rfl : k = zs.length := by omega
      gi_wp2
      go_end0
      obtain ⟨D, hj⟩ := HJ.out
      exact ⟨⟨_, rfl⟩, .inl ⟨D, by simpa using hj⟩⟩
set_option maxRecDepth 100000 in
set_option maxHeartbeats 4000000 in
/-- The closure of a pile's All, of structs: what it promises. -/
theorem pt_all_seqd {base : Nat} (w : World) (B p g : Nat) (ao : Option Addr) (cap : Nat) (l : List Th) (h : pt_At base w p g ao cap l) (hB : w.cell? ⟨B, 0, none⟩ = some (.pointer (some ⟨p, 0, none⟩))) :
    SeqD Fence.wide 8 Try.prog 63 #[.pointer (some ⟨B, 0, none⟩)] (fun x => #[.agg #[.int .i64 (x).key, .int .i64 (x).which]]) (fun k => k = B ∨ PSet p ao k) l w := by
  intro ll J Jx W hW hJ hJx hY h0
  have hBl : B < w.heap.size := World.block_lt_of_cell? w _ hB
  have hBW : W.cell? ⟨B, 0, none⟩ = some (.pointer (some ⟨p, 0, none⟩)) := (World.cell?_of_block (hW.2 B hBl (.inl rfl))).trans hB
  have hP : pt_At base W p g ao cap l := by
    have hl := h.lt
    refine ⟨hW.heap h.1 (.inr (.inl rfl)), ?_, h.2.2⟩
    refine ⟨h.2.1.1, ?_⟩
    rcases h.2.1.2 with hn | ⟨gg, cap', cur, e1, hb, hgg, rest⟩
    · exact .inl hn
    · exact .inr ⟨gg, cap', cur, e1, hb, hW.heap hgg (.inr (.inr (by cases e1; rfl))), rest⟩
  have hpc := hP.c1
  have hn := hP.2.2.2
  have HP := hide hP
  have HJ := hide hJ
  have HJx := hide hJx
  have HY := hide hY
  have H0 := hide h0
  have hBl2 : B < W.heap.size := Nat.lt_of_lt_of_le hBl hW.1
  have hplt := (hP.lt p (.inl rfl)).2
  clear hJ hJx hY h0 hP hB h hW hBl
  refine callsIn_wide.2 ((callsIn_wide (n := 9)).1 ?_)
  refine callsIn_of_wp_marks Try.func63 rfl trivial ?_ rfl
  simp only [Try.ntmps63, List.size_toArray, List.length_cons, List.length_nil, Nat.reduceAdd, Nat.reduceSub, Array.replicate_succ, Array.replicate_zero, List.push_toArray, List.append_toArray, List.nil_append, List.cons_append]
  gi_wp2_with (first
    | (refine ⟨trivial, ?_⟩; gi_at_call 64; refine (callsIn_wide.2 (pt_of _ _ l.length (flat pt_enc l) (HP.out.rd.chg (Chg.alloc (fun _ => False) W _) (fun _ _ _ h => h)) (flat_length pt_len l) (flat_one' pt_one l) (by omega))).mono ?_; rintro e w2 ⟨B2, rfl, hs2, hb2⟩; have HS2 := hide hs2; have HB2 := hide hb2; clear hs2 hb2))
  have hz2 := HB2.out.size
  rw [World.size_alloc] at hz2
  have HZ2 := hide hz2
  have hs2 := HS2.out
  rw [World.size_alloc] at hs2
  have hbox : w2.heap[W.heap.size]? = some (.cells #[.func (.yield ll) #[] #[]] 53) := (Chg.of_below0 (S := fun _ => False) HB2.out).heap (heap_alloc_new W _) (fun h => h)
  have HBX := hide hbox
  have hc02 : Chg (fun _ => False) W w2 := (Chg.alloc (fun _ => False) W _).trans (Chg.of_below0 HB2.out) (fun _ _ h => h) (fun _ _ h => h)
  have HC02 := hide hc02
  refine wpIn_range_D (α := Th) rfl (by omega) (gf := 95) (lb := #[.pointer (some ⟨B2, 0, none⟩)]) rfl trivial (enters_of Try.func95 (by kernel_rfl) rfl)
    (pt_seqd (W.heap.size + 1) w2.heap.size B2 l w2 (by omega) (Nat.le_refl _) hs2) (Kpt.refl _ _) (fun k hk => hk.2) (fun _ => rfl)
    (fun D' pre Wr => ∃ D, J D pre Wr ∧ (∀ k, D' k → D k ∧ w2.heap.size ≤ k) ∧ (∀ k, W.heap.size ≤ k → k < w2.heap.size + 2 → D k) ∧ Wr.heap[W.heap.size]? = some (.cells #[.func (.yield ll) #[] #[]] 53) ∧ w2.heap.size + 2 ≤ Wr.heap.size)
    (fun c D' pre Wr => c = .ret ∧ ∃ D, Jx D pre Wr ∧ (∀ k, D' k → D k) ∧ (∀ k, W.heap.size ≤ k → k < w2.heap.size + 2 → D k)) ?hI ?hIx ?h0
    (fun x a' Wr => ∃ Bx, w2.heap.size + 2 ≤ Bx ∧ Wr.heap[Bx]? = some (.cells #[.int .i64 (x).key, .int .i64 (x).which] 43 (0, 0)) ∧ ∃ u0 u1 u4 u5 u6 u7 u8 u9 u10 u11 u12 u13 u14 u15, a' = { tmps := #[u0, u1, .pointer (some ⟨W.heap.size, 0, none⟩), .pointer (some ⟨Bx, 0, none⟩), u4, u5, u6, u7, u8, u9, u10, u11, u12, u13, u14, u15], defers := [] })
    (fun x a' A A' h c _ => by obtain ⟨Bx, h1, h2, h3⟩ := h; exact ⟨Bx, h1, c.heap h2 (fun e => by omega), h3⟩) ?assign ?body ?done ?stop
  case hI =>
    rintro D' s A A' S ⟨D, hj, hd, hnew, hb, hsz⟩ hc hS
    have hsub : ∀ k, k < A.heap.size → S k → D k := fun k hk hs => (hS k hk hs).elim (fun h => (hd k h).1) (fun h => hnew k (by omega) (by omega))
    refine ⟨_, HJ.out D s A A' S hj hc hsub, ?_, fun k h1 h2 => .inl (hnew k h1 h2), hc.heap hb (fun h => ?_), Nat.le_trans hsz hc.size⟩
    · rintro k (h | h)
      · exact ⟨.inl (hd k h).1, (hd k h).2⟩
      · exact ⟨.inr h, by omega⟩
    · rcases hS _ (by omega) h with h1 | h1
      · have := (hd _ h1).2; omega
      · omega
  case hIx =>
    rintro c D' s A A' S ⟨rfl, D, hj, hd, hnew⟩ hc hS
    have hsub : ∀ k, k < A.heap.size → S k → D k := fun k hk hs => (hS k hk hs).elim (fun h => hd k h) (fun h => hnew k (by omega) (by omega))
    refine ⟨rfl, _, HJx.out D s A A' S hj hc hsub, ?_, fun k h1 h2 => .inl (hnew k h1 h2)⟩
    rintro k (h | h)
    · exact .inl (hd k h)
    · exact .inr h
  case h0 =>
    intro W' hc' hz'
    have hc0 := HC02.out.trans hc' (S'' := fun _ => False) (fun _ _ h => h) (fun _ _ h => h)
    refine ⟨_, HJ.out _ [] W W' _ H0.out hc0 (fun _ _ h => h.elim), fun _ h => h.elim, fun k h1 h2 => .inr ⟨h1, by omega⟩, hc'.heap HBX.out (fun h => h), by omega⟩
  case assign =>
    rintro lr D' pre x W1 K ⟨D, hj, hd, hnew, hb, hsz⟩ hpre hsz2 hK
    have HJ1 := hide hj
    have HD := hide hd
    have HNEW := hide hnew
    have HB1 := hide hb
    have HK := hide hK
    clear hj hd hnew hb hK
    gi_wp2
    refine HK.out _ _ (Kpt.of_chg (Chg.alloc (fun _ => False) W1 _) (fun _ _ _ h => h)) ⟨_, HJ.out D pre W1 _ _ HJ1.out (Chg.alloc (fun _ => False) W1 (.cells #[.int .i64 (x).key, .int .i64 (x).which] 43)) (fun _ _ h => h.elim), fun k h => ⟨.inl (HD.out k h).1, (HD.out k h).2⟩, fun k h1 h2 => .inl (HNEW.out k h1 h2), (Chg.alloc (fun _ => False) W1 _).heap HB1.out (fun h => h), by simp; omega⟩
      ⟨W1.heap.size, hsz, heap_alloc_new W1 _, _, _, _, _, _, _, _, _, _, _, _, _, _, _, rfl⟩
  case body =>
    rintro lr D' pre x a' W1 hlr ⟨r, hr⟩ hnc ⟨D, hj, hd, hnew, hb, hsz⟩ ⟨Bx, hbx, hbc, u0, u1, u4, u5, u6, u7, u8, u9, u10, u11, u12, u13, u14, u15, rfl⟩ hpre hnd hnd1
    have hcb := cell_of_heap hb 0
    have hcx0 := cell_of_heap hbc 0; have hcx1 := cell_of_heap hbc 1
    obtain ⟨fn, tmps, assign, body, hy, hR⟩ := YieldAt.any rfl 6 (HY.out D pre x W1 hj hpre)
    have HB1 := hide hb
    have HR := hide hR
    have HD := hide hd
    have HNEW := hide hnew
    clear hb hR hr hnc hj hpre hd hnew hnd hnd1 hbc
    gi_wp2
    refine HR.out.mono ?_
    rintro e W3 (⟨rfl, hj3, hk3⟩ | ⟨rfl, hx3, hk3⟩)
    · have HJ3 := hide hj3
      have HK3 := hide hk3
      clear hj3 hk3
      gi_wp2
      refine ⟨HK3.out.mono (fun k h => .inr ?_), D, HJ3.out, HD.out, HNEW.out, HK3.out.heap HB1.out (.inr (HNEW.out _ (Nat.le_refl _) (by omega))), Nat.le_trans hsz HK3.out.1⟩
      rcases h with h | h | h | h
      · exact HNEW.out k (by omega) (by omega)
      · exact (HD.out k h).1
      · exact HNEW.out k (by omega) (by omega)
      · exact HNEW.out k (by omega) (by omega)
    · have HX3 := hide hx3
      have HK3 := hide hk3
      clear hx3 hk3
      gi_wp2
      refine ⟨HK3.out.mono (fun k h => .inr ?_), rfl, D, HX3.out, fun k h => (HD.out k h).1, HNEW.out⟩
      rcases h with h | h | h | h
      · exact HNEW.out k (by omega) (by omega)
      · exact (HD.out k h).1
      · exact HNEW.out k (by omega) (by omega)
      · exact HNEW.out k (by omega) (by omega)
  case done =>
    rintro D' Wd ⟨D, hj, hd, hnew, hb, hsz⟩ hdef hnd
    have HJ3 := hide hj
    have HNEW := hide hnew
    clear hj hd hnew hb
    gi_wp2
    refine ⟨by simp, .inl ⟨_, _, rfl, run_takeDeferred hdef, ?_⟩⟩
    exact ⟨_, results_none rfl _ _ _, ⟨_, rfl⟩, .inl ⟨_, HJ.out D l Wd _ _ HJ3.out (chg_putObj Wd _ _) (fun k _ e => by subst e; exact HNEW.out _ (by omega) (by omega))⟩⟩
  case stop =>
    rintro D' c pre Wd hpre ⟨rfl, D, hx, hd, hnew⟩ hdef hnd
    have HX3 := hide hx
    have HNEW := hide hnew
    clear hx hd hnew
    gi_wp2
    refine ⟨by simp, .inl ⟨_, _, rfl, run_takeDeferred hdef, ?_⟩⟩
    exact ⟨_, results_none rfl _ _ _, ⟨_, rfl⟩, .inr ⟨_, pre, hpre, HJx.out D pre Wd _ _ HX3.out (chg_putObj Wd _ _) (fun k _ e => by subst e; exact HNEW.out _ (by omega) (by omega))⟩⟩
end Go.Proofs.Ytjgcicpclojfgaa
