/- Lanes: what is told; Waits. Conditions: none. -/
import Derived.Test.YtjgcicpclojfgaaLaneAd
namespace Go.Proofs.Ytjgcicpclojfgaa
open Go.RowKit Go.Shelf
attribute [local go_sem] Oper.semAt_some

/-- A sequence of entries tells zs. -/
def Tells (X : Nat → Prop) (zs : List En) (v : Value) (W : World) : Prop :=
  ∃ (gf : Nat) (lb : Array Value) (R : Nat → Prop), v = .func (.func gf) #[] lb ∧ (∀ args w, (callFunc gf args).run Try.prog w = .ok (.enter gf args) w) ∧
    SeqD Fence.wide 8 Try.prog gf lb (fun x : En => #[.agg #[.int .i64 x.number, .int .i64 x.commit, .int .i64 x.lane, .int .i64 x.code]]) R zs W ∧ ∀ k, R k → k < W.heap.size ∧ ¬ X k
theorem Tells.chg {X : Nat → Prop} {zs : List En} {v : Value} {w w' : World} (h : Tells X zs v w) (c : Chg (fun _ => False) w w') : Tells X zs v w' := by
  obtain ⟨gf, lb, R, h1, h2, h3, h4⟩ := h
  exact ⟨gf, lb, R, h1, h2, h3.later (Kpt.of_chg c (fun _ _ _ h => h)), fun k hk => ⟨Nat.lt_of_lt_of_le (h4 k hk).1 c.size, (h4 k hk).2⟩⟩
theorem entries_told {X : Nat → Prop} (w : World) (zs : List En) (v : Value) (h : Tells X zs v w) (hz : zs.length ≤ 1000) (most : Int) (hm : most ≤ 1000000) :
    Calls Try.prog 43 #[v, .int .i64 most] w fun e w' => ∃ ao cap, e = .returned (.slice ao (zs.take most.toNat).length cap) ∧
      w'.ownsRow w.heap.size 71 4 (.slice ao (zs.take most.toNat).length cap) (zs.take most.toNat).length (flat pe_enc (zs.take most.toNat)) ∧ Below w.heap.size w w' := by
  obtain ⟨gf, lb, R, rfl, h2, h3, h4⟩ := h
  exact Entries_ok w gf lb R zs h2 h3 (fun k hk => (h4 k hk).1) (by omega) most hm

section
variable {base : Nat} {lp : Nat} {pend lanes : Int} {aa : Option Addr} {acap : Nat} {all : List En} {p : Nat} {ao : Option Addr} {cap : Nat} {wt : List En}
theorem lane_pending_tells (X : Nat → Prop) (w : World) (h : LaneAt base w lp pend lanes aa acap all p ao cap wt) (hX : ∀ k, X k → k < w.heap.size ∧ ¬ PSet p ao k) : Calls Try.prog 44 #[.pointer (some ⟨lp, 0, none⟩)] w fun e w' => ∃ v, e = .returned v ∧ Tells X wt v w' ∧ Below w.heap.size w w' := by
  refine (lane_Pending w h).mono ?_
  rintro e w' ⟨rfl, rfl⟩
  have h' := h.pile.chg (Chg.alloc (fun _ => False) w (.cells #[.pointer (some ⟨p, 0, none⟩)] 101)) (fun _ _ h => h)
  have hs := pe_all_seqd _ w.heap.size p _ ao cap wt h' (by rw [cell_of_heap (heap_alloc_new w _)]; rfl)
  refine ⟨_, rfl, ⟨_, _, _, rfl, enters_of Try.func89 (by kernel_rfl) rfl, hs, fun k hk => ?_⟩, (Below.refl _ w).alloc (Nat.le_refl _) _⟩
  rcases hk with rfl | hk
  · exact ⟨by simp, fun h => absurd (hX _ h).1 (Nat.lt_irrefl _)⟩
  · exact ⟨(PileAt.lt h' k hk).2, fun h => (hX _ h).2 hk⟩
end
theorem lane_pending_nil (X : Nat → Prop) (w : World) (hX : ∀ k, X k → k < w.heap.size) : Calls Try.prog 44 #[.pointer none] w fun e w' => ∃ v, e = .returned v ∧ Tells X [] v w' ∧ Below w.heap.size w w' := by
  go_enter Try.func44, Try.ntmps44
  go_wp2_with fail
  refine (pe_of w _ 0 [] (Rd.nil w) rfl (by simp) (by omega)).mono ?_
  rintro e w1 ⟨B, rfl, hs, hb⟩
  have HS := hide hs
  have HB := hide hb
  clear hs hb
  go_wp2_with fail
  go_ret
  exact ⟨_, rfl, ⟨_, _, _, rfl, enters_of Try.func99 (by kernel_rfl) rfl, pe_seqd w.heap.size w1.heap.size B [] w1 (by simp) (Nat.le_refl _) HS.out, fun k hk => ⟨hk.2, fun h => by have := hX _ h; omega⟩⟩, HB.out⟩
theorem lane_all_nil (X : Nat → Prop) (w : World) (hX : ∀ k, X k → k < w.heap.size) : Calls Try.prog 55 #[.pointer none] w fun e w' => ∃ v, e = .returned v ∧ Tells X [] v w' ∧ Below w.heap.size w w' := by
  refine (lane_All w none).mono ?_
  rintro e w' ⟨rfl, rfl⟩
  have hB : (w.alloc (.cells #[.pointer none] 60)).cell? ⟨w.heap.size, 0, none⟩ = some (.pointer none) := by rw [cell_of_heap (heap_alloc_new w _)]; rfl
  refine ⟨_, rfl, ⟨_, _, fun k => k = w.heap.size, rfl, enters_of Try.func74 (by kernel_rfl) rfl, ?_, fun k hk => by rw [hk]; exact ⟨by simp, fun h => absurd (hX _ h) (Nat.lt_irrefl _)⟩⟩, (Below.refl _ w).alloc (Nat.le_refl _) _⟩
  generalize hBB : w.heap.size = B at hB ⊢
  generalize w.alloc (.cells #[.pointer none] 60) = w1 at hB ⊢
  intro ll J Jx W hW hJ hJx hY h0
  have hBl : B < w1.heap.size := World.block_lt_of_cell? w1 _ hB
  have hBW : W.cell? ⟨B, 0, none⟩ = some (.pointer none) := (World.cell?_of_block (hW.2 B hBl rfl)).trans hB
  have HJ := hide hJ
  have H0 := hide h0
  have hBl2 : B < W.heap.size := Nat.lt_of_lt_of_le hBl hW.1
  clear hJ hJx hY h0 hB hW hBl hBB hX
  refine callsIn_wide.2 ((callsIn_wide (n := 9)).1 ?_)
  refine callsIn_of_wp_marks Try.func74 rfl trivial ?_ rfl
  simp only [Try.ntmps74, List.size_toArray, List.length_cons, List.length_nil, Nat.reduceAdd, Nat.reduceSub, Array.replicate_succ, Array.replicate_zero, List.push_toArray, List.append_toArray, List.nil_append, List.cons_append]
  gi_wp2
  exact ⟨_, results_none rfl _ _ _, ⟨_, rfl⟩, .inl ⟨_, HJ.out _ [] W _ _ H0.out (Chg.alloc (fun _ => False) W _) (fun _ _ h => h)⟩⟩

def WaitD (c : Int) (n0 B : Nat) (w0 : World) (b : Bool) (D : Nat → Prop) (W : World) : Prop :=
  W.heap[n0]? = some (.cells #[.int .i64 c] 3 (0, 0)) ∧ W.heap[n0 + 1]? = some (.cells #[.bool b] 4 (0, 0)) ∧ Below n0 w0 W ∧ (∀ k, D k → B + 2 ≤ k ∧ k < W.heap.size) ∧ B + 2 ≤ W.heap.size
theorem WaitD.chg {c : Int} {n0 B : Nat} {w0 : World} {b : Bool} {D S : Nat → Prop} {A A' : World} (h : WaitD c n0 B w0 b D A) (hc : Chg S A A') (hS : ∀ j, j < A.heap.size → S j → D j ∨ ((j = B ∨ j = B + 1) ∧ NonC A j)) (hn : n0 + 1 < B) : WaitD c n0 B w0 b (Plus D A A') A' := by
  obtain ⟨g1, g2, g3, g4, g5⟩ := h
  refine ⟨apart_heap g1 hc hS (fun k hk => (g4 k hk).1) (by omega), apart_heap g2 hc hS (fun k hk => (g4 k hk).1) hn, g3.trans (hc.below (by omega) (fun k hk hs => ?_)), fun k hk => ?_, Nat.le_trans g5 hc.size⟩
  · rcases hS k (by omega) hs with h1 | h1
    · have := (g4 k h1).1; omega
    · omega
  · have := hc.size
    rcases hk with h1 | h1
    · have := g4 k h1; omega
    · omega

set_option maxRecDepth 100000 in
set_option maxHeartbeats 4000000 in
theorem lane_waits (w : World) (lv : Value) (c : Int) (zs : List En)
    (hp : Calls Try.prog 44 #[lv] ((w.alloc (.cells #[.int .i64 c] 3)).alloc (.cells #[.bool false] 4)) fun e w' => ∃ v, e = .returned v ∧ Tells (fun k => k = w.heap.size + 1) zs v w' ∧ Below ((w.alloc (.cells #[.int .i64 c] 3)).alloc (.cells #[.bool false] 4)).heap.size ((w.alloc (.cells #[.int .i64 c] 3)).alloc (.cells #[.bool false] 4)) w') :
    Calls Try.prog 42 #[lv, .int .i64 c] w fun e w' => e = .returned (.bool (zs.any fun e => e.commit == c)) ∧ Below w.heap.size w w' := by
  have HP := hide hp
  clear hp
  refine (callsIn_wide (n := 9)).1 ?_
  refine callsIn_of_wp_marks Try.func42 rfl trivial ?_ rfl
  simp only [Try.ntmps42, List.size_toArray, List.length_cons, List.length_nil, Nat.reduceAdd, Nat.reduceSub, Array.replicate_succ, Array.replicate_zero, List.push_toArray, List.append_toArray, List.nil_append, List.cons_append]
  gi_wp2_with (first
    | (refine ⟨trivial, ?_⟩; gi_at_call 44; refine (callsIn_wide.2 HP.out).mono ?_; rintro e W0 ⟨v, rfl, ht, hb⟩; have HT := hide ht; have HB := hide hb; clear ht hb))
  obtain ⟨gf, lb, R, rfl, eg, hs, hR⟩ := HT.out
  have HEG := hide eg
  have HS := hide hs
  have HRR := hide hR
  clear eg hs hR HT
  have hz0 : w.heap.size + 2 ≤ W0.heap.size := by have := HB.out.size; simpa using this
  have hb0 : Below w.heap.size w W0 := (((Below.refl _ w).alloc (Nat.le_refl _) _).alloc (by simp) _).trans (HB.out.mono (by simp; omega))
  have hx0 : W0.heap[w.heap.size]? = some (.cells #[.int .i64 c] 3 (0, 0)) := (Chg.of_below0 (S := fun _ => False) HB.out).heap ((Chg.alloc (fun _ => False) _ _).heap (heap_alloc_new w _) (fun h => h)) (fun h => h)
  have hx1 : W0.heap[w.heap.size + 1]? = some (.cells #[.bool false] 4 (0, 0)) := (Chg.of_below0 (S := fun _ => False) HB.out).heap (by have := heap_alloc_new (w.alloc (.cells #[.int .i64 c] 3)) (.cells #[.bool false] 4); rwa [World.size_alloc] at this) (fun h => h)
  have HZ0 := hide hz0
  have HB0 := hide hb0
  have HX0 := hide hx0
  have HX1 := hide hx1
  clear hz0 hb0 hx0 hx1
  refine wpIn_range_D (α := En) rfl (by omega) (gf := gf) (lb := lb) rfl trivial HEG.out
    HS.out (Kpt.refl _ _) (fun k hk => (HRR.out k hk).1) (fun _ => rfl)
    (fun D pre Wr => WaitD c w.heap.size W0.heap.size w false D Wr ∧ pre.any (fun e => e.commit == c) = false)
    (fun cd D pre Wr => cd = .ret ∧ WaitD c w.heap.size W0.heap.size w true D Wr ∧ zs.any (fun e => e.commit == c) = true) ?hI ?hIx ?h0
    (fun x a' Wr => ∃ Bx, W0.heap.size + 2 ≤ Bx ∧ Wr.heap[Bx]? = some (.cells #[.int .i64 x.number, .int .i64 x.commit, .int .i64 x.lane, .int .i64 x.code] 71 (0, 0)) ∧ ∃ u0 u1 u2 u6 u7 u8 u9 u10 u11 u12, a' = { tmps := #[u0, u1, u2, .pointer (some ⟨w.heap.size, 0, none⟩), .pointer (some ⟨w.heap.size + 1, 0, none⟩), .pointer (some ⟨Bx, 0, none⟩), u6, u7, u8, u9, u10, u11, u12], defers := [] })
    (fun x a' A A' h c _ => by obtain ⟨Bx, h1, h2, h3⟩ := h; exact ⟨Bx, h1, c.heap h2 (fun e => by omega), h3⟩) ?assign ?body ?done ?stop
  case hI =>
    have hz0 := HZ0.out
    rintro D s A A' S ⟨h1, h2⟩ hc hS
    exact ⟨h1.chg hc hS (by omega), h2⟩
  case hIx =>
    have hz0 := HZ0.out
    rintro cd D s A A' S ⟨rfl, h2, h3⟩ hc hS
    exact ⟨rfl, h2.chg hc hS (by omega), h3⟩
  case h0 =>
    have hz0 := HZ0.out
    intro W' hc' hz'
    exact ⟨⟨hc'.heap HX0.out (fun h => h), hc'.heap HX1.out (fun h => h), HB0.out.trans (hc'.below (by omega) (fun _ _ h => h)), fun _ h => h.elim, by omega⟩, rfl⟩
  case assign =>
    rintro lr D pre x W1 K ⟨⟨g1, g2, g3, g4, g5⟩, h2⟩ hpre hsz hK
    have G1 := hide g1
    have G2 := hide g2
    have G3 := hide g3
    have G4 := hide g4
    have G5 := hide g5
    have H2 := hide h2
    have HK := hide hK
    have HPRE := hide hpre
    clear g1 g2 g3 g4 g5 h2 hK hpre
    gi_wp2
    have hc := Chg.alloc (fun _ => False) W1 (.cells #[.int .i64 x.number, .int .i64 x.commit, .int .i64 x.lane, .int .i64 x.code] 71)
    exact HK.out _ _ (Kpt.of_chg hc (fun _ _ _ h => h)) ⟨⟨hc.heap G1.out (fun h => h), hc.heap G2.out (fun h => h), G3.out.trans (hc.below G3.out.size (fun _ _ h => h)), fun k hk => ⟨(G4.out k hk).1, Nat.lt_of_lt_of_le (G4.out k hk).2 hc.size⟩, Nat.le_trans G5.out hc.size⟩, H2.out⟩ ⟨W1.heap.size, hsz, heap_alloc_new W1 _, _, _, _, _, _, _, _, _, _, _, rfl⟩
  case body =>
    rintro lr D pre x a' W1 hlr ⟨r, hr⟩ hnc ⟨⟨g1, g2, g3, g4, g5⟩, h2⟩ ⟨Bx, hbx, hbc, u0, u1, u2, u6, u7, u8, u9, u10, u11, u12, rfl⟩ hpre hnd hnd1
    have hv1 := cell_of_heap hbc 1
    have hcm := cell_of_heap g1 0
    have hcr := cell_of_heap g2 0
    have hfr := free_of_heap g2 0
    have HPRE := hide hpre
    have G1 := hide g1
    have G2 := hide g2
    have G3 := hide g3
    have G4 := hide g4
    have G5 := hide g5
    have H2 := hide h2
    clear hr hnc hbc g1 g2 g3 g4 g5 h2 hnd hnd1 hpre
    by_cases hxc : x.commit = c
    · have hb : (x.commit == c) = true := by simp [hxc]
      gi_wp2
      have hz0 := HZ0.out
      have c2 := Chg.setCell W1 ⟨w.heap.size + 1, 0, none⟩ (.bool true)
      refine ⟨Kpt.of_chg c2 (fun k _ hk e => ?_), rfl, ⟨c2.heap G1.out (fun e => absurd e (by simp)), ?_, G3.out.trans (c2.below G3.out.size (fun k hk e => by subst e; exact absurd hk (by simp))), fun k hk => ⟨(G4.out k hk).1, Nat.lt_of_lt_of_le (G4.out k hk).2 c2.size⟩, Nat.le_trans G5.out c2.size⟩, ?_⟩
      · have e' : k = w.heap.size + 1 := e
        rcases hk with h1 | h1 | h1 | h1
        · exact (HRR.out k h1).2 e'
        · have := (G4.out k h1).1; omega
        · omega
        · omega
      · exact heap_setCell_same G2.out _
      · obtain ⟨t, ht⟩ := HPRE.out
        rw [← ht]; exact ⟨x, by simp, hxc⟩
    · have hb : (x.commit == c) = false := by simp [hxc]
      gi_wp2
      refine ⟨Kpt.refl _ _, ⟨G1.out, G2.out, G3.out, G4.out, G5.out⟩, ?_⟩
      have h2 : ∀ y ∈ pre, ¬ y.commit = c := by simpa using H2.out
      intro y hy
      rcases List.mem_append.1 hy with h | h
      · exact h2 y h
      · rw [List.mem_singleton.1 h]; exact hxc
  case done =>
    rintro D Wd ⟨⟨g1, g2, g3, g4, g5⟩, h2⟩ hdef hnd
    have hcr := cell_of_heap g2 0
    have hfr := free_of_heap g2 0
    have G2 := hide g2
    have G3 := hide g3
    have H2 := hide h2
    clear g1 g2 g3 g4 g5 h2
    gi_wp2
    have hz0 := HZ0.out
    have hd3 := (Chg.setCell Wd ⟨w.heap.size + 1, 0, none⟩ (.bool false)).heap hdef (fun e => absurd (show W0.heap.size = w.heap.size + 1 from e) (by omega))
    have hr3 := heap_setCell_same G2.out (i := 0) (.bool false)
    have G3' := G3.out.trans ((Chg.setCell Wd ⟨w.heap.size + 1, 0, none⟩ (.bool false)).below G3.out.size (fun k hk e => by have e' : k = w.heap.size + 1 := e; omega))
    have hp := chg_putObj (Wd.setCell ⟨w.heap.size + 1, 0, none⟩ (.bool false)) W0.heap.size (.deferred none)
    have hr4 := cell_of_heap (hp.heap hr3 (fun e => by omega)) 0
    refine ⟨by simp, .inl ⟨_, _, rfl, run_takeDeferred hd3, ?_⟩⟩
    refine ⟨_, by simp [results, Try.results42, go_sem, hr4]; rfl, by rw [H2.out], ?_⟩
    exact G3'.trans (hp.below G3'.size (fun k hk e => by omega))
  case stop =>
    rintro D cd pre Wd hpre ⟨rfl, ⟨g1, g2, g3, g4, g5⟩, h2⟩ hdef hnd
    have hcr := cell_of_heap g2 0
    have hfr := free_of_heap g2 0
    have G2 := hide g2
    have G3 := hide g3
    have H2 := hide h2
    clear g1 g2 g3 g4 g5 h2
    gi_wp2
    have hz0 := HZ0.out
    have hd3 := hdef
    have hr3 := G2.out
    have G3' := G3.out
    have hp := chg_putObj Wd W0.heap.size (.deferred none)
    have hr4 := cell_of_heap (hp.heap hr3 (fun e => by omega)) 0
    refine ⟨by simp, .inl ⟨_, _, rfl, run_takeDeferred hd3, ?_⟩⟩
    refine ⟨_, by simp [results, Try.results42, go_sem, hr4]; rfl, by rw [H2.out], ?_⟩
    exact G3'.trans (hp.below G3'.size (fun k hk e => by omega))
section
variable {base : Nat} {lp : Nat} {pend lanes : Int} {aa : Option Addr} {acap : Nat} {all : List En} {p : Nat} {ao : Option Addr} {cap : Nat} {wt : List En}
theorem lane_Waits (w : World) (c : Int) (h : LaneAt base w lp pend lanes aa acap all p ao cap wt) : Calls Try.prog 42 #[.pointer (some ⟨lp, 0, none⟩), .int .i64 c] w fun e w' => e = .returned (.bool (wt.any fun e => e.commit == c)) ∧ Below w.heap.size w w' := by
  refine lane_waits w _ c wt (lane_pending_tells _ _ ((h.chg (Chg.alloc (fun _ => False) w _) (fun _ _ h => h)).chg (Chg.alloc (fun _ => False) _ _) (fun _ _ h => h)) (fun k hk => ?_))
  rw [hk]
  exact ⟨by simp, fun h' => by have := (PileAt.lt h.pile _ h').2; omega⟩
end
theorem lane_Waits_nil (w : World) (c : Int) : Calls Try.prog 42 #[.pointer none, .int .i64 c] w fun e w' => e = .returned (.bool false) ∧ Below w.heap.size w w' :=
  lane_waits w _ c [] (lane_pending_nil _ _ (fun k hk => by rw [hk]; simp))
end Go.Proofs.Ytjgcicpclojfgaa
