/- Lanes: Add of a candidate there is room for. Conditions: none. -/
import Derived.Test.YtjgcicpclojfgaaLaneA
namespace Go.Proofs.Ytjgcicpclojfgaa
open Go.RowKit Go.Shelf

section
variable {base : Nat} {lp : Nat} {pend lanes : Int} {aa : Option Addr} {acap : Nat} {all : List En} {p : Nat} {ao : Option Addr} {cap : Nat} {wt : List En}
/-- Behind l.all = append(l.all, e). -/
theorem lane_app {w W1 w2 : World} (h : LaneAt base w lp pend lanes aa acap all p ao cap wt) (c1 : Chg (fun _ => False) w W1) (e : En) (hl : all.length < 60) {ao1 : Option Addr} {cap1 : Nat}
    (hown : w2.ownsRow base 71 4 (.slice ao1 (all.length + 1) cap1) (all.length + 1) (flat pe_enc all ++ pe_enc e)) (hg : Chg (fun k => (Value.slice aa all.length acap).ownBlock = some k) W1 w2)
    (hat : (Value.slice ao1 (all.length + 1) cap1).ownBlock = (Value.slice aa all.length acap).ownBlock ∨ (Value.slice ao1 (all.length + 1) cap1).ownBlock = some W1.heap.size) :
    w2.cell? ⟨lp, 2, none⟩ = some (.slice aa all.length acap) ∧ w2.frozen? ⟨lp, 2, none⟩ = false ∧ LaneAt base (w2.setCell ⟨lp, 2, none⟩ (.slice ao1 (all.length + 1) cap1)) lp pend lanes ao1 cap1 (all ++ [e]) p ao cap wt ∧
      Chg (LSet lp aa p ao) w (w2.setCell ⟨lp, 2, none⟩ (.slice ao1 (all.length + 1) cap1)) ∧ ∀ k, (Value.slice ao1 0 0).ownBlock = some k → (Value.slice aa 0 0).ownBlock = some k ∨ W1.heap.size ≤ k := by
  have hbx := hg.heap (c1.heap h.box (fun h => h)) h.notr
  have hlp := (h.lt lp (.inl rfl)).2
  have hz := c1.size
  have hz2 := hg.size
  have hat' : ∀ k, (Value.slice ao1 (all.length + 1) cap1).ownBlock = some k → (Value.slice aa all.length acap).ownBlock = some k ∨ W1.heap.size ≤ k := fun k hk => (hat_of hat k hk).imp id id
  have hne : ¬ (Value.slice ao1 (all.length + 1) cap1).ownBlock = some lp := fun e => by
    rcases hat' lp e with h1 | h1
    · exact h.notr h1
    · omega
  have hpl := PileAt.chg (PileAt.chg h.pile c1 (fun _ _ h => h)) hg (fun k hk hk2 => h.far k hk2 hk)
  have hps := PileAt.lt h.pile
  refine ⟨by rw [cell_of_heap hbx]; rfl, free_of_heap hbx 2, ⟨?_, h.low, ?_, PileAt.chg hpl (Chg.setCell w2 _ _) (fun k hk e => by subst e; exact h.notp hk), ?_, by simp; omega⟩, ?_, fun k hk => ?_⟩
  · have := heap_setCell_same hbx (i := 2) (.slice ao1 (all.length + 1) cap1)
    simpa using this
  · have := (Chg.setCell w2 ⟨lp, 2, none⟩ (.slice ao1 (all.length + 1) cap1)).owns hown (fun b hb e => by subst e; exact hne hb)
    rw [flat_append, flat_cons, flat_nil, List.append_nil, List.length_append]
    exact this
  · intro k hk hk2
    rw [own_slice ao1 _ _ (all.length + 1) cap1] at hk
    rcases hat' k hk with h1 | h1
    · exact h.far k h1 hk2
    · have := (hps k hk2).2; omega
  · exact (c1.trans hg (S'' := LSet lp aa p ao) (fun _ _ h => h.elim) (fun k _ e => .inr (.inl (own_slice aa _ _ _ _ ▸ e)))).trans (Chg.setCell w2 _ _) (fun _ _ h => h) (fun k _ e => .inl e)
  · rw [own_slice ao1 _ _ (all.length + 1) cap1] at hk
    exact (hat' k hk).imp (fun h => own_slice aa _ _ _ _ ▸ h) id
/-- Behind l.waiting.Put, or Remove. -/
theorem lane_put {w w2 : World} (h : LaneAt base w lp pend lanes aa acap all p ao cap wt) {wt' : List En} (hg : pe_Grew base w p 67 ao wt' w2) : LGrew base w lp pend lanes aa p ao all wt' w2 := by
  obtain ⟨ao', cap', hp, hc, hs⟩ := hg
  have hl := fun k hk => (h.lt k hk).2
  refine ⟨aa, acap, p, ao', cap', ⟨hc.heap h.box h.notp, h.low, hc.owns h.own (fun b hb e => h.far b hb e), hp, fun k hk hk2 => ?_, h.few⟩, hc.mono (fun k _ e => .inr (.inr e)), fun k hk => ?_⟩
  · rcases hs k hk2 with h1 | h1
    · exact h.far k hk h1
    · have := hl k (.inr (.inl (own_slice aa _ _ _ _ ▸ hk))); omega
  · rcases hk with h1 | h1 | h1
    · exact .inl (.inl h1)
    · exact .inl (.inr (.inl h1))
    · exact (hs k h1).imp (fun h => .inr (.inr h)) id
theorem lgrew_trans {w w1 w2 : World} {aa1 : Option Addr} {p1 : Nat} {ao1 : Option Addr} {all' wt' : List En} (hc : Chg (LSet lp aa p ao) w w1) (hs : ∀ k, LSet lp aa1 p1 ao1 k → LSet lp aa p ao k ∨ w.heap.size ≤ k)
    (h : LGrew base w1 lp pend lanes aa1 p1 ao1 all' wt' w2) : LGrew base w lp pend lanes aa p ao all' wt' w2 := by
  obtain ⟨aa', acap', p', ao', cap', h1, h2, h3⟩ := h
  refine ⟨aa', acap', p', ao', cap', h1, hc.trans h2 (fun _ _ h => h) (fun k hk h => (hs k h).resolve_right (by omega)), fun k hk => ?_⟩
  rcases h3 k hk with h | h
  · exact hs k h
  · exact .inr (Nat.le_trans hc.size h)

set_option maxRecDepth 100000 in
set_option maxHeartbeats 4000000 in
theorem lane_Add (w : World) (x y : Int) (h : LaneAt base w lp pend lanes aa acap all p ao cap wt) (hb : 1 ≤ x ∧ 0 ≤ y ∧ y < lanes) (hf : (wt.length : Int) < pend) (hp8 : pend ≤ 8) (hl : all.length < 60) :
    Calls Try.prog 40 #[.pointer (some ⟨lp, 0, none⟩), .int .i64 x, .int .i64 y] w fun e w' => e = .returned (.tuple #[.int .i64 (all.length + 1), .int .i64 0]) ∧ LGrew base w lp pend lanes aa p ao (all ++ [⟨all.length + 1, x, y, 7⟩]) (ins ltE wt ⟨all.length + 1, x, y, 7⟩) w' := by
  have h0 := cell_of_heap h.box 0
  have h1 := cell_of_heap h.box 1
  have h2 := cell_of_heap h.box 2
  have c1 : decide (x < 1) = false := decide_eq_false (by omega)
  have c2 : decide (y < 0) = false := decide_eq_false (by omega)
  have c3 : decide (y ≥ lanes) = false := decide_eq_false (by omega)
  have c4 : decide ((wt.length : Int) ≥ pend) = false := decide_eq_false (by omega)
  have c5 : decide ((all.length : Int) ≥ 60) = false := decide_eq_false (by omega)
  have a1 : IntKind.i64.wrap ((all.length : Int) + 1) = all.length + 1 := IntWalk.i64_in _ (by omega)
  have H := hide h
  have hpl := (h.lt lp (.inl rfl)).2
  have HPL := hide hpl
  have HF := hide hl
  have HW : Hid (wt.length < 1000) := (show wt.length < 1000 by omega)
  clear h hb hf hl hp8
  go_enter Try.func40, Try.ntmps40
  go_wp2_with fail
  refine wp_region_quiet_lit (by kernel_rfl) (by kernel_rfl) ?_
  repeat (go_big_quiet_step (((go_at_call 45; exact Calls.quiet_of_same (lane_LenQ _ H.out _)))))
  refine wpQuiet_nil ?_
  intro _ hw'
  obtain ⟨nq, hw''⟩ := hw'
  subst hw''
  have hv := H.out.drewN nq
  have hcv := Chg.drewN (fun _ => False) w nq
  generalize w.drewN nq = wv at hv hcv ⊢
  have HV := hide hv
  have HCV := hide hcv
  have k0 := cell_of_heap hv.box 0
  have k1 := cell_of_heap hv.box 1
  have k2 := cell_of_heap hv.box 2
  have hplv := (hv.lt lp (.inl rfl)).2
  clear hv hcv h0 h1 h2
  go_wp2_with fail
  obtain ⟨W1, hW1⟩ : ∃ W1, W1 = wv.alloc (.cells #[.int .i64 (all.length + 1), .int .i64 x, .int .i64 y, .int .i64 7] 71) := ⟨_, rfl⟩
  have hc1 : Chg (fun _ => False) wv W1 := by rw [hW1]; exact Chg.alloc (fun _ => False) wv _
  have hbe := heap_alloc_new wv (.cells #[.int .i64 (all.length + 1), .int .i64 x, .int .i64 y, .int .i64 7] 71)
  rw [← hW1] at hbe ⊢
  have HC1 := hide hc1
  have HBE := hide hbe
  have h1v := HV.out.chg hc1 (fun _ _ h => h)
  have H1 := hide h1v
  have g0 := cell_of_heap hbe 0
  have g1 := cell_of_heap hbe 1
  have g2 := cell_of_heap hbe 2
  have g3 := cell_of_heap hbe 3
  have hbl := (Array.getElem?_eq_some_iff.1 hbe).1
  have k0w := cell_of_heap h1v.box 0
  have k2w := cell_of_heap h1v.box 2
  have hplw := (h1v.lt lp (.inl rfl)).2
  have HZ1 : Hid (W1.heap.size = wv.heap.size + 1) := by rw [hW1]; exact World.size_alloc _ _
  clear hW1 hc1 hbe h1v k0 k1 k2 hplv
  have hown : (W1.alloc (.cells #[.int .i64 (all.length + 1), .int .i64 x, .int .i64 y, .int .i64 7] 71)).ownsRow base 71 4 (.slice aa all.length acap) all.length (flat pe_enc all) := (Chg.alloc (fun _ => False) W1 _).owns H1.out.own (fun _ _ h => h)
  have HOWN := hide hown
  have hrd := Rd_lit W1 #[.int .i64 (all.length + 1), .int .i64 x, .int .i64 y, .int .i64 7] 71 1
  have HRD := hide hrd
  have HB0 : Hid (base ≤ W1.heap.size) := Nat.le_trans (Nat.le_of_lt (Nat.lt_of_le_of_lt H1.out.low hplw)) (Nat.le_refl _)
  clear hown hrd
  go_region_law (refine step_append (by rfl) (.tmp 56) (.tmp 58) 65 (by rfl) pe_slT base (by exact HOWN.out) (by exact HRD.out) (by simp [Act.eval]) (by simp [Act.eval]) (by rfl) (by exact pe_one ⟨all.length + 1, x, y, 7⟩) (by unfold maxLen; have := HF.out; omega) (by have := HF.out; omega) (by have := HB0.out; simp; omega) ?_; intro ao1 cap1 w2 hown hg hat; obtain ⟨q1, q2, q3, q4, q5⟩ := lane_app (W1 := (W1.alloc (.cells #[.int .i64 (all.length + 1), .int .i64 x, .int .i64 y, .int .i64 7] 71))) H1.out (Chg.alloc (fun _ => False) W1 _) ⟨all.length + 1, x, y, 7⟩ HF.out hown ⟨hg.os, hg.tape, hg.output, hg.size, hg.block⟩ hat; have hbl2 := Nat.lt_of_lt_of_le hplw (Nat.le_trans (by simp) hg.size); have Q3 := hide q3; have Q4 := hide q4; have Q5 := hide q5; clear q3 q4 q5 hown hg hat)
  all_goals
    have q3 := Q3.out
    have q4 := Q4.out
    have HSZ : Hid (W1.heap.size ≤ (w2.setCell ⟨lp, 2, none⟩ (.slice ao1 (all.length + 1) cap1)).heap.size) := q4.size
    clear q1 q2 hbl2 Q3 Q4 k0w k2w g0 g1 g2 g3
    generalize w2.setCell ⟨lp, 2, none⟩ (.slice ao1 (all.length + 1) cap1) = W3 at q3 q4 HSZ ⊢
    have Q3 := hide q3
    have Q4 := hide q4
    have hbe3 := q4.heap HBE.out (fun h => by have := (HV.out.lt _ h).2; omega)
    have HBE3 := hide hbe3
    have g0 := cell_of_heap hbe3 0
    have g1 := cell_of_heap hbe3 1
    have g2 := cell_of_heap hbe3 2
    have g3 := cell_of_heap hbe3 3
    have k3 := cell_of_heap q3.box 3
    have hpl3 := (q3.lt lp (.inl rfl)).2
    have hbl3 := (Array.getElem?_eq_some_iff.1 hbe3).1
    have hi := pe_Put (base := base) ((W3.alloc (.cells #[.int .i64 (all.length + 1), .int .i64 x, .int .i64 y, .int .i64 7] 71)).drew) p 67 ao cap wt ltE before_less (PileAt.chg (PileAt.chg q3.pile (Chg.alloc (fun _ => False) W3 _) (fun _ _ h => h)) (Chg.drew (fun _ => False) _) (fun _ _ h => h))
      (.slice (some ⟨W3.heap.size, 0, none⟩) 1 1) [⟨all.length + 1, x, y, 7⟩] (by exact Rd_lit W3 #[.int .i64 (all.length + 1), .int .i64 x, .int .i64 y, .int .i64 7] 71 1) (fun b hb _ => by cases hb; exact ⟨fun h => by have h2 := (PileAt.lt q3.pile _ h).2; exact absurd h2 (Nat.lt_irrefl _), by show W3.heap.size < (W3.alloc _).heap.size; simp⟩) (by have := HW.out; simp; omega)
    have HI := hide (hi.mono (R' := fun e w4 => ∃ v, e = .returned v ∧ v = .tuple #[] ∧ w4.heap[wv.heap.size]? = some (.cells #[.int .i64 (all.length + 1), .int .i64 x, .int .i64 y, .int .i64 7] 71 (0, 0)) ∧ pe_Grew base W3 p 67 ao (ins ltE wt ⟨all.length + 1, x, y, 7⟩) w4) (fun e w4 hp => by
      obtain ⟨rfl, hp⟩ := hp
      have hg := grew_trans (w := W3) (ao := ao) (((Chg.alloc (fun _ => False) W3 (.cells #[.int .i64 (all.length + 1), .int .i64 x, .int .i64 y, .int .i64 7] 71)).trans (Chg.drew (fun _ => False) _) (fun _ _ h => h) (fun _ _ h => h)).mono (fun _ _ h => h.elim)) (fun _ h => .inl h) hp
      refine ⟨_, rfl, rfl, ?_, hg⟩
      obtain ⟨ao', cap', _, hc, _⟩ := hg
      exact hc.heap HBE3.out (fun h => by have h2 := (PileAt.lt HV.out.pile _ h).2; omega)))
    clear q3 q4 hi hbe3
    go_wp2_with fail
    go_region_law (refine step_call (by rfl) (f := 68) (by rfl) (enters_of Try.func68 (by kernel_rfl) rfl) (by simp [Act.eval]) HI.out ?_; rintro v2 w4 ⟨rfl, hb4, hgr⟩; have HGR := hide hgr; have HB4 := hide hb4; clear hgr)
    all_goals
      have r0 := cell_of_heap HB4.out 0
      clear hb4
      go_wp2_with fail
      refine bodyPost_ret (v := .tuple #[.int .i64 (all.length + 1), .int .i64 0]) (by simp [results, Try.results40, go_sem, *]) rfl ?_
      refine ⟨rfl, lgrew_trans (aa1 := ao1) (p1 := p) (ao1 := ao) ((HCV.out.trans HC1.out (fun _ _ h => h) (fun _ _ h => h)).trans Q4.out (fun _ _ h => h.elim) (fun _ _ h => h)) (fun k hk => ?_) (lane_put Q3.out HGR.out)⟩
      have hz1 := HC1.out.size
      have hzv := HCV.out.size
      rcases hk with h1 | h1 | h1
      · exact .inl (.inl h1)
      · rcases Q5.out k h1 with h2 | h2
        · exact .inl (.inr (.inl h2))
        · rw [World.size_alloc] at h2; exact .inr (by omega)
      · exact .inl (.inr (.inr h1))
end
end Go.Proofs.Ytjgcicpclojfgaa
