/- seq.Fold at ints. Conditions: none. -/
import Derived.Test.YtnnkbicaokckbaaDoorDgA
namespace Go.Proofs.YtnnkbicaokckbaaDoor
open Go.RowKit Go.Shelf
attribute [local go_sem] Oper.semAt_some

set_option maxRecDepth 100000 in
set_option maxHeartbeats 4000000 in
theorem fold_ok (w : World) (gf : Nat) (lb : Array Value) (R : Nat → Prop) (zs : List Int) (eg : ∀ args w, (callFunc gf args).run Tryd.prog w = .ok (.enter gf args) w)
    (hs : SeqD Fence.wide 8 Tryd.prog gf lb (fun x => #[.int .i64 x]) R zs w) (hR : ∀ k, R k → k < w.heap.size) (a0 : Int) (fg : Nat) (lbf : Array Value) (egf : ∀ args w, (callFunc fg args).run Tryd.prog w = .ok (.enter fg args) w) (F : Int → Int → Int)
    (hf : ∀ (W : World) (pre : List Int) (x : Int), Below w.heap.size w W → pre ++ [x] <+: zs → Calls Tryd.prog fg (#[.int .i64 (pre.foldl F a0), .int .i64 x] ++ lbf) W fun e W' => e = .returned (.int .i64 (F (pre.foldl F a0) x)) ∧ W' = W) :
    Calls Tryd.prog 77 #[.func (.func gf) #[] lb, .int .i64 a0, .func (.func fg) #[] lbf] w fun e w' => e = .returned (.int .i64 (zs.foldl F a0)) ∧ Below w.heap.size w w' := by
  have hnn : ∀ w', Sem.run Tryd.prog (binOp BinOp.eql 59 (.func (.func gf) #[] lb) .nilFunc) w' = .ok (.bool false) w' := by intro w'; kernel_rfl
  have hnf : ∀ w', Sem.run Tryd.prog (binOp BinOp.eql 38 (.func (.func fg) #[] lbf) .nilFunc) w' = .ok (.bool false) w' := by intro w'; kernel_rfl
  have HS := hide hs
  have HRR := hide hR
  have HEG := hide eg
  have HF := hide hf
  clear hs hR eg hf
  refine (callsIn_wide (n := 9)).1 ?_
  refine callsIn_of_wp_marks Tryd.func77 rfl trivial ?_ rfl
  simp only [Tryd.ntmps77, List.size_toArray, List.length_cons, List.length_nil, Nat.reduceAdd, Nat.reduceSub, Array.replicate_succ, Array.replicate_zero, List.push_toArray, List.append_toArray, List.nil_append, List.cons_append]
  gi_wp2
  obtain ⟨W0, hW0⟩ : ∃ W0, (w.alloc (.cells #[.int .i64 a0] 3)).alloc (.cells #[.func (.func fg) #[] lbf] 38) = W0 := ⟨_, rfl⟩
  have hz0 : W0.heap.size = w.heap.size + 2 := by rw [← hW0]; simp
  have hb0 : Below w.heap.size w W0 := by rw [← hW0]; exact ((Below.refl _ w).alloc (Nat.le_refl _) _).alloc (by simp) _
  have hx0 : W0.heap[w.heap.size]? = some (.cells #[.int .i64 a0] 3 (0, 0)) := by rw [← hW0]; exact (Chg.alloc (fun _ => False) _ _).heap (heap_alloc_new w _) (fun h => h)
  have hx1 : W0.heap[w.heap.size + 1]? = some (.cells #[.func (.func fg) #[] lbf] 38 (0, 0)) := by rw [← hW0]; have := heap_alloc_new (w.alloc (.cells #[.int .i64 a0] 3)) (.cells #[.func (.func fg) #[] lbf] 38); rwa [World.size_alloc] at this
  rw [hW0]
  have HZ0 := hide hz0
  have HX0 := hide hx0
  have HX1 := hide hx1
  have HB0 := hide hb0
  clear hW0 hz0 hx0 hx1 hb0
  refine wpIn_range_D (α := Int) rfl (by omega) (gf := gf) (lb := lb) rfl trivial HEG.out
    HS.out (Kpt.of_chg (Chg.of_below0 (S := fun _ => False) HB0.out) (fun _ _ _ h => h)) (fun k hk => by have := HRR.out k hk; have := HZ0.out; omega) (fun _ => rfl)
    (fun D pre Wr => Wr.heap[w.heap.size]? = some (.cells #[.int .i64 (pre.foldl F a0)] 3 (0, 0)) ∧ Wr.heap[w.heap.size + 1]? = some (.cells #[.func (.func fg) #[] lbf] 38 (0, 0)) ∧ Below w.heap.size w Wr ∧ (∀ k, D k → W0.heap.size + 2 ≤ k ∧ k < Wr.heap.size) ∧ W0.heap.size + 2 ≤ Wr.heap.size)
    (fun _ _ _ _ => False) ?hI ?hIx ?h0
    (fun x a' _ => ∃ u0 u1 u2 u3 u6 u8 u9 u10 u11 u12 u13 u14 u15 u16 u17 u18 u19 u20 u21, a' = { tmps := #[u0, u1, u2, u3, .pointer (some ⟨w.heap.size, 0, none⟩), .pointer (some ⟨w.heap.size + 1, 0, none⟩), u6, .int .i64 x, u8, u9, u10, u11, u12, u13, u14, u15, u16, u17, u18, u19, u20, u21], defers := [] })
    (fun _ _ _ _ h _ _ => h) ?assign ?body ?done ?stop
  case hI =>
    have hz0 := HZ0.out
    rintro D s A A' S ⟨g1, g2, g3, g4, g5⟩ hc hS
    refine ⟨apart_heap g1 hc hS (fun k hk => (g4 k hk).1) (by omega), apart_heap g2 hc hS (fun k hk => (g4 k hk).1) (by omega), g3.trans (hc.below (by omega) (fun k hk hs => ?_)), fun k hk => ?_, Nat.le_trans g5 hc.size⟩
    · rcases hS k (by omega) hs with h1 | h1
      · have := (g4 k h1).1; omega
      · omega
    · have := hc.size
      rcases hk with h1 | h1
      · have := g4 k h1; omega
      · omega
  case hIx => exact fun _ _ _ _ _ _ h _ _ => h.elim
  case h0 =>
    have hz0 := HZ0.out
    intro W' hc' hz'
    exact ⟨hc'.heap HX0.out (fun h => h), hc'.heap HX1.out (fun h => h), HB0.out.trans (hc'.below (by omega) (fun _ _ h => h)), fun _ h => h.elim, by omega⟩
  case assign =>
    rintro lr D pre x W1 K hi hpre hsz hK
    gi_wp2
    exact hK _ _ (Kpt.refl _ _) hi ⟨_, _, _, _, _, _, _, _, _, _, _, _, _, _, _, _, _, _, _, rfl⟩
  case body =>
    rintro lr D pre x a' W1 hlr ⟨r, hr⟩ hnc ⟨g1, g2, g3, g4, g5⟩ ⟨u0, u1, u2, u3, u6, u8, u9, u10, u11, u12, u13, u14, u15, u16, u17, u18, u19, u20, u21, rfl⟩ hpre hnd hnd1
    have hc1 := cell_of_heap g1 0
    have hf1 := free_of_heap g1 0
    have hc2 := cell_of_heap g2 0
    have HC := hide (HF.out W1 pre x g3 hpre)
    have egf' := egf
    have G1 := hide g1
    have G2 := hide g2
    have G3 := hide g3
    have G4 := hide g4
    have G5 := hide g5
    clear hr hnc g1 g2 g3 g4 g5 hnd hnd1 hpre
    gi_wp2_with fail
    refine ⟨trivial, (CallsIn.inRound _ (callsIn_wide.2 HC.out)).mono ?_⟩
    rintro e w2 ⟨rfl, rfl⟩
    gi_wp2_with fail
    have c2 := Chg.setCell w2 ⟨w.heap.size, 0, none⟩ (.int .i64 (F (pre.foldl F a0) x))
    have hz0 := HZ0.out
    refine ⟨Kpt.of_chg c2 (fun k _ hk e => ?_), ?_, c2.heap G2.out (fun e => absurd (show w.heap.size + 1 = w.heap.size from e) (by omega)), G3.out.trans (c2.below G3.out.size (fun k hk e => by have e' : k = w.heap.size := e; omega)), fun k hk => ⟨(G4.out k hk).1, Nat.lt_of_lt_of_le (G4.out k hk).2 c2.size⟩, Nat.le_trans G5.out c2.size⟩
    · have e' : k = w.heap.size := e
      rcases hk with h1 | h1 | h1 | h1
      · have := HRR.out k h1; omega
      · have := (G4.out k h1).1; omega
      · omega
      · omega
    · rw [List.foldl_append]; exact heap_setCell_same G1.out _
  case done =>
    rintro D Wd ⟨g1, g2, g3, g4, g5⟩ hdef hnd
    have hcr := cell_of_heap g1 0
    have G3 := hide g3
    clear g1 g2 g3 g4 g5
    gi_wp2
    have hz0 := HZ0.out
    have hp := chg_putObj Wd W0.heap.size (.deferred none)
    refine ⟨by simp, .inl ⟨_, _, rfl, run_takeDeferred hdef, ?_⟩⟩
    exact ⟨_, results_tmp rfl _ _ _, rfl, G3.out.trans (hp.below G3.out.size (fun k hk e => by omega))⟩
  case stop => exact fun _ _ _ _ _ h => h.elim
end Go.Proofs.YtnnkbicaokckbaaDoor
