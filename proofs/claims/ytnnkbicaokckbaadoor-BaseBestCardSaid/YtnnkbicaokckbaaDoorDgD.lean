/- dag.Is. Conditions: none. -/
import Derived.Test.YtnnkbicaokckbaaDoorDgC
namespace Go.Proofs.YtnnkbicaokckbaaDoor
open Go.RowKit Go.Shelf
attribute [local go_sem] Oper.semAt_some

def IsD (c : Int) (n0 B : Nat) (w0 : World) (b : Bool) (D : Nat → Prop) (W : World) : Prop :=
  W.heap[n0]? = some (.cells #[.int .i64 c] 3 (0, 0)) ∧ W.heap[n0 + 1]? = some (.cells #[.bool b] 4 (0, 0)) ∧ Below n0 w0 W ∧ (∀ k, D k → B + 2 ≤ k ∧ k < W.heap.size) ∧ B + 2 ≤ W.heap.size
theorem IsD.chg {c : Int} {n0 B : Nat} {w0 : World} {b : Bool} {D S : Nat → Prop} {A A' : World} (h : IsD c n0 B w0 b D A) (hc : Chg S A A') (hS : ∀ j, j < A.heap.size → S j → D j ∨ ((j = B ∨ j = B + 1) ∧ NonC A j)) (hn : n0 + 1 < B) : IsD c n0 B w0 b (Plus D A A') A' := by
  obtain ⟨g1, g2, g3, g4, g5⟩ := h
  refine ⟨apart_heap g1 hc hS (fun k hk => (g4 k hk).1) (by omega), apart_heap g2 hc hS (fun k hk => (g4 k hk).1) hn, g3.trans (hc.below (by omega) (fun k hk hs => ?_)), fun k hk => ?_, Nat.le_trans g5 hc.size⟩
  · rcases hS k (by omega) hs with h1 | h1
    · have := (g4 k h1).1; omega
    · omega
  · have := hc.size
    rcases hk with h1 | h1
    · have := g4 k h1; omega
    · omega

set_option maxRecDepth 100000 in
set_option maxHeartbeats 4000000 in
theorem dag_Is (w : World) {v : Value} {cs : List Cm} (hd : DagOk cs) (hg : Gets w v cs) (a b : Int) (hb : I64 b) :
    Calls Tryd.prog 42 #[v, .int .i64 a, .int .i64 b] w fun e w' => e = .returned (.bool ((aheadN cs b).contains a)) ∧ Below w.heap.size w w' := by
  obtain ⟨hv, R0, hg⟩ := hg
  have HP : Hid (∀ (Wx : World) (m : Nat), Chg (fun _ => False) w Wx → Wx.heap.size = m → Calls Tryd.prog 40 #[v, .int .i64 b] Wx fun e w' =>
      e = .returned (.func (.func 69) #[] #[.pointer (some ⟨m, 0, none⟩), .pointer (some ⟨m + 1, 0, none⟩)]) ∧ SeqD Fence.wide 8 Tryd.prog 69 #[.pointer (some ⟨m, 0, none⟩), .pointer (some ⟨m + 1, 0, none⟩)] (fun x : Int => #[.int .i64 x]) (fun k => k = m ∨ k = m + 1 ∨ R0 k) (aheadN cs b) w' ∧ w'.heap.size = m + 2 ∧ Below m Wx w') :=
    hide (fun Wx m hc hm => by subst hm; exact dag_Ahead_0 Wx hv (hg.later (Kpt.of_chg hc (fun _ _ _ h => h))) b hb hd)
  have HR0 := hide hg.1
  obtain ⟨zs, hzs⟩ : ∃ zs, zs = aheadN cs b := ⟨_, rfl⟩
  rw [← hzs] at HP ⊢
  clear hg hb hd hzs
  obtain ⟨av, rfl⟩ := hv
  refine (callsIn_wide (n := 9)).1 ?_
  refine callsIn_of_wp_marks Tryd.func42 rfl trivial ?_ rfl
  simp only [Tryd.ntmps42, List.size_toArray, List.length_cons, List.length_nil, Nat.reduceAdd, Nat.reduceSub, Array.replicate_succ, Array.replicate_zero, List.push_toArray, List.append_toArray, List.nil_append, List.cons_append]
  gi_wp2_with (first
    | (refine ⟨trivial, ?_⟩; gi_at_call 40; refine (callsIn_wide.2 (HP.out _ (w.heap.size + 2) ((Chg.alloc (fun _ => False) w _).trans (Chg.alloc (fun _ => False) _ _) (fun _ _ h => h) (fun _ _ h => h)) (by simp))).mono ?_; rintro e W0 ⟨rfl, hs, hz, hb⟩; have HS := hide hs; have HZ := hide hz; have HB := hide hb; clear hs hz hb))
  have hz0 : W0.heap.size = w.heap.size + 4 := HZ.out
  have hb0 : Below w.heap.size w W0 := (((Below.refl _ w).alloc (Nat.le_refl _) _).alloc (by simp) _).trans (HB.out.mono (by omega))
  have hx0 : W0.heap[w.heap.size]? = some (.cells #[.int .i64 a] 3 (0, 0)) := (Chg.of_below0 (S := fun _ => False) (show Below ((w.alloc (.cells #[.int .i64 a] 3)).alloc (.cells #[.bool false] 4)).heap.size _ W0 by rw [World.size_alloc, World.size_alloc]; exact HB.out)).heap ((Chg.alloc (fun _ => False) _ _).heap (heap_alloc_new w _) (fun h => h)) (fun h => h)
  have hx1 : W0.heap[w.heap.size + 1]? = some (.cells #[.bool false] 4 (0, 0)) := (Chg.of_below0 (S := fun _ => False) (show Below ((w.alloc (.cells #[.int .i64 a] 3)).alloc (.cells #[.bool false] 4)).heap.size _ W0 by rw [World.size_alloc, World.size_alloc]; exact HB.out)).heap (by have := heap_alloc_new (w.alloc (.cells #[.int .i64 a] 3)) (.cells #[.bool false] 4); rwa [World.size_alloc] at this) (fun h => h)
  have HZ0 := hide hz0
  have HB0 := hide hb0
  have HX0 := hide hx0
  have HX1 := hide hx1
  have hRl : ∀ k, (k = w.heap.size + 2 ∨ k = w.heap.size + 2 + 1 ∨ R0 k) → k < W0.heap.size ∧ k ≠ w.heap.size + 1 := fun k hk => by
    rcases hk with rfl | rfl | hk
    · omega
    · omega
    · have := HR0.out k hk; omega
  have HRR := hide hRl
  clear hz0 hb0 hx0 hx1 hRl
  refine wpIn_range_D (α := Int) rfl (by omega) (gf := 69) (lb := #[.pointer (some ⟨w.heap.size + 2, 0, none⟩), .pointer (some ⟨w.heap.size + 2 + 1, 0, none⟩)]) rfl trivial (enters_of Tryd.func69 (by kernel_rfl) rfl)
    HS.out (Kpt.refl _ _) (fun k hk => (HRR.out k hk).1) (fun _ => rfl)
    (fun D pre Wr => IsD a w.heap.size W0.heap.size w false D Wr ∧ pre.contains a = false)
    (fun cd D pre Wr => cd = .ret ∧ IsD a w.heap.size W0.heap.size w true D Wr ∧ zs.contains a = true) ?hI ?hIx ?h0
    (fun x a' _ => ∃ u0 u1 u2 u3 u5 u8 u9 u10 u11 u12 u13 u14, a' = { tmps := #[u0, u1, u2, u3, .pointer (some ⟨w.heap.size, 0, none⟩), u5, .pointer (some ⟨w.heap.size + 1, 0, none⟩), .int .i64 x, u8, u9, u10, u11, u12, u13, u14], defers := [] })
    (fun _ _ _ _ h _ _ => h) ?assign ?body ?done ?stop
  case hI =>
    have hz0 := HZ0.out
    rintro D s A A' S ⟨h1, h2⟩ hc hS
    exact ⟨h1.chg hc hS (by omega), h2⟩
  case hIx =>
    have hz0 := HZ0.out
    rintro cd D s A A' S ⟨rfl, h2, h3⟩ hc hS
    exact ⟨rfl, h2.chg hc hS (by omega), h3⟩
  case h0 =>
    have hz0 := HZ0.out
    intro W' hc' hz'
    exact ⟨⟨hc'.heap HX0.out (fun h => h), hc'.heap HX1.out (fun h => h), HB0.out.trans (hc'.below (by omega) (fun _ _ h => h)), fun _ h => h.elim, by omega⟩, rfl⟩
  case assign =>
    rintro lr D pre x W1 K hi hpre hsz hK
    gi_wp2
    exact hK _ _ (Kpt.refl _ _) hi ⟨_, _, _, _, _, _, _, _, _, _, _, _, rfl⟩
  case body =>
    rintro lr D pre x a' W1 hlr ⟨r, hr⟩ hnc ⟨⟨g1, g2, g3, g4, g5⟩, h2⟩ ⟨u0, u1, u2, u3, u5, u8, u9, u10, u11, u12, u13, u14, rfl⟩ hpre hnd hnd1
    have hcm := cell_of_heap g1 0
    have hcr := cell_of_heap g2 0
    have hfr := free_of_heap g2 0
    have HPRE := hide hpre
    have G1 := hide g1
    have G2 := hide g2
    have G3 := hide g3
    have G4 := hide g4
    have G5 := hide g5
    have H2 := hide h2
    clear hr hnc g1 g2 g3 g4 g5 h2 hnd hnd1 hpre
    by_cases hxc : x = a
    · have hb : (x == a) = true := by simp [hxc]
      gi_wp2
      have hz0 := HZ0.out
      have c2 := Chg.setCell W1 ⟨w.heap.size + 1, 0, none⟩ (.bool true)
      refine ⟨Kpt.of_chg c2 (fun k _ hk e => ?_), rfl, ⟨c2.heap G1.out (fun e => absurd e (by simp)), ?_, G3.out.trans (c2.below G3.out.size (fun k hk e => by subst e; exact absurd hk (by simp))), fun k hk => ⟨(G4.out k hk).1, Nat.lt_of_lt_of_le (G4.out k hk).2 c2.size⟩, Nat.le_trans G5.out c2.size⟩, ?_⟩
      · have e' : k = w.heap.size + 1 := e
        rcases hk with h1 | h1 | h1 | h1
        · exact (HRR.out k h1).2 e'
        · have := (G4.out k h1).1; omega
        · omega
        · omega
      · exact heap_setCell_same G2.out _
      · obtain ⟨t, ht⟩ := HPRE.out
        rw [← ht]; simp [hxc]
    · have hb : (x == a) = false := by simp [hxc]
      gi_wp2
      refine ⟨Kpt.refl _ _, ⟨G1.out, G2.out, G3.out, G4.out, G5.out⟩, ?_⟩
      have h2 := H2.out
      simp only [List.contains_eq_mem, decide_eq_false_iff_not, List.mem_append, List.mem_singleton, not_or] at h2 ⊢
      exact ⟨h2, fun e => hxc e.symm⟩
  case done =>
    rintro D Wd ⟨⟨g1, g2, g3, g4, g5⟩, h2⟩ hdef hnd
    have hcr := cell_of_heap g2 0
    have hfr := free_of_heap g2 0
    have G2 := hide g2
    have G3 := hide g3
    have H2 := hide h2
    clear g1 g2 g3 g4 g5 h2
    gi_wp2
    have hz0 := HZ0.out
    have hd3 := (Chg.setCell Wd ⟨w.heap.size + 1, 0, none⟩ (.bool false)).heap hdef (fun e => absurd (show W0.heap.size = w.heap.size + 1 from e) (by omega))
    have hr3 := heap_setCell_same G2.out (i := 0) (.bool false)
    have G3' := G3.out.trans ((Chg.setCell Wd ⟨w.heap.size + 1, 0, none⟩ (.bool false)).below G3.out.size (fun k hk e => by have e' : k = w.heap.size + 1 := e; omega))
    have hp := chg_putObj (Wd.setCell ⟨w.heap.size + 1, 0, none⟩ (.bool false)) W0.heap.size (.deferred none)
    have hr4 := cell_of_heap (hp.heap hr3 (fun e => by omega)) 0
    refine ⟨by simp, .inl ⟨_, _, rfl, run_takeDeferred hd3, ?_⟩⟩
    refine ⟨_, by simp [results, Tryd.results42, go_sem, hr4]; rfl, by rw [H2.out], ?_⟩
    exact G3'.trans (hp.below G3'.size (fun k hk e => by omega))
  case stop =>
    rintro D cd pre Wd hpre ⟨rfl, ⟨g1, g2, g3, g4, g5⟩, h2⟩ hdef hnd
    have hcr := cell_of_heap g2 0
    have hfr := free_of_heap g2 0
    have G2 := hide g2
    have G3 := hide g3
    have H2 := hide h2
    clear g1 g2 g3 g4 g5 h2
    gi_wp2
    have hz0 := HZ0.out
    have hp := chg_putObj Wd W0.heap.size (.deferred none)
    have hr4 := cell_of_heap (hp.heap G2.out (fun e => by omega)) 0
    refine ⟨by simp, .inl ⟨_, _, rfl, run_takeDeferred hdef, ?_⟩⟩
    refine ⟨_, by simp [results, Tryd.results42, go_sem, hr4]; rfl, by rw [H2.out], ?_⟩
    exact G3.out.trans (hp.below G3.out.size (fun k hk e => by omega))
end Go.Proofs.YtnnkbicaokckbaaDoor
