/- A commit is copied: repo.own. Conditions: none. -/
import Derived.Test.YtnnkbicaokckbaaDoorCmS
import Derived.Laws.AppendOwnNone
import Derived.Laws.Rows
namespace Go.Proofs.YtnnkbicaokckbaaDoor
open Go.RowKit Go.Shelf

theorem int_slT : SlT Tryd.prog 27 3 (.int .i64 0) 1 8 := ⟨Tryd.underlying27, by kernel_rfl, rfl, by decide⟩
/-- slices.Clone at this type: nil of nil; else a row of its own. -/
theorem Clone_int (w : World) (va : Value) (n : Nat) (cs : List Value) (ha : Rd w va n cs) (hl : cs.length = n * 1) (h1 : ∀ u ∈ cs, u.oneCell' = true) (hm : n * 8 ≤ 140737488351232) :
    Calls Tryd.prog 87 #[va] w fun e w' => ∃ ao cap, e = .returned (.slice ao n cap) ∧ w'.ownsRow w.heap.size 3 1 (.slice ao n cap) n cs ∧ Below w.heap.size w w' ∧ (ao = none ↔ va = .slice none 0 0) := by
  have hR := hide ha
  have hn := fun (w : World) (a : Option Addr) (n c n' c' : Nat) => Lib.run_eql_slice_nil (P := Tryd.prog) w 27 3 a n c n' c' int_slT.under
  rcases ha with ⟨rfl, rfl, rfl⟩ | ⟨ad, cap, rfl, hc, hcs⟩
  · go_enter Tryd.func87, Tryd.ntmps87
    go_wp2
    go_ret
    exact ⟨none, 0, rfl, World.ownsRow_nil _ _ _ _, Below.refl _ _, by simp⟩
  · clear hcs
    go_enter Tryd.func87, Tryd.ntmps87
    go_wp2_with (at_builtin; refine wpl_append0 rfl _ _ _ rfl int_slT w.heap.size (ownsRow_empty 1 (heap_alloc_new w _) (Nat.le_refl _)) (hR.out.chg (Chg.alloc (fun _ => False) w _) (fun _ _ _ => id)) rfl rfl hl h1 (by omega) (by unfold maxLen; omega) (by simp) ?_; intro ao cap' w1 hown hg hat hnil)
    go_ret
    refine ⟨ao, cap', rfl, hown, (Below.alloc (Below.refl _ w) (Nat.le_refl _) _).trans (hg.below (by simp) (fun k hk e => by simp [Value.ownBlock] at e; omega)), ?_⟩
    rw [hnil]; simp
/-- slices.Clone at this type: nil of nil; else a row of its own. -/
theorem Clone_fl (w : World) (va : Value) (n : Nat) (cs : List Value) (ha : Rd w va n cs) (hl : cs.length = n * 2) (h1 : ∀ u ∈ cs, u.oneCell' = true) (hm : n * 32 ≤ 140737488351232) :
    Calls Tryd.prog 88 #[va] w fun e w' => ∃ ao cap, e = .returned (.slice ao n cap) ∧ w'.ownsRow w.heap.size 106 2 (.slice ao n cap) n cs ∧ Below w.heap.size w w' ∧ (ao = none ↔ va = .slice none 0 0) := by
  have hR := hide ha
  have hn := fun (w : World) (a : Option Addr) (n c n' c' : Nat) => Lib.run_eql_slice_nil (P := Tryd.prog) w 31 106 a n c n' c' fl_slT.under
  rcases ha with ⟨rfl, rfl, rfl⟩ | ⟨ad, cap, rfl, hc, hcs⟩
  · go_enter Tryd.func88, Tryd.ntmps88
    go_wp2
    go_ret
    exact ⟨none, 0, rfl, World.ownsRow_nil _ _ _ _, Below.refl _ _, by simp⟩
  · clear hcs
    go_enter Tryd.func88, Tryd.ntmps88
    go_wp2_with (at_builtin; refine wpl_append0 rfl _ _ _ rfl fl_slT w.heap.size (ownsRow_empty 2 (heap_alloc_new w _) (Nat.le_refl _)) (hR.out.chg (Chg.alloc (fun _ => False) w _) (fun _ _ _ => id)) rfl rfl hl h1 (by omega) (by unfold maxLen; omega) (by simp) ?_; intro ao cap' w1 hown hg hat hnil)
    go_ret
    refine ⟨ao, cap', rfl, hown, (Below.alloc (Below.refl _ w) (Nat.le_refl _) _).trans (hg.below (by simp) (fun k hk e => by simp [Value.ownBlock] at e; omega)), ?_⟩
    rw [hnil]; simp

/-- A commit that lies in rows of its own, from a block on. -/
structure Own (w : World) (base : Nat) (x : CmV) : Prop where
  ps : w.ownsRow base 3 1 x.vp x.c.parents.length (flat int_enc x.c.parents)
  ts : w.ownsRow base 106 2 x.vt x.c.tree.length (flat fl_enc x.c.tree)
theorem Own.at {w : World} {base : Nat} {x : CmV} (h : Own w base x) : CmAt w x :=
  ⟨Rd.of_owns h.ps, Rd.of_owns h.ts, fun b hb _ => (ownsRow_lt h.ps b hb).2, fun b hb _ => (ownsRow_lt h.ts b hb).2⟩
theorem Own.chg {S : Nat → Prop} {w w' : World} {base : Nat} {x : CmV} (h : Own w base x) (c : Chg S w w') (hS : ∀ b, base ≤ b → b < w.heap.size → ¬ S b) : Own w' base x :=
  ⟨c.owns h.ps (fun b hb => hS b (ownsRow_lt h.ps b hb).1 (ownsRow_lt h.ps b hb).2), c.owns h.ts (fun b hb => hS b (ownsRow_lt h.ts b hb).1 (ownsRow_lt h.ts b hb).2)⟩
theorem Own.base {w : World} {base base' : Nat} {x : CmV} (h : Own w base x) (hb : base' ≤ base) : Own w base' x :=
  ⟨ownsRow_base h.ps (fun k hk => Nat.le_trans hb (ownsRow_lt h.ps k hk).1), ownsRow_base h.ts (fun k hk => Nat.le_trans hb (ownsRow_lt h.ts k hk).1)⟩

set_option maxHeartbeats 1000000 in
set_option maxRecDepth 100000 in
theorem repo_own (w : World) (x : CmV) (hx : CmAt w x) (fx : Few x.c) :
    Calls Tryd.prog 58 #[x.val] w fun e w' => ∃ vp vt, e = .returned (CmV.val ⟨x.c, vp, vt⟩) ∧ Own w' w.heap.size ⟨x.c, vp, vt⟩ ∧ Below w.heap.size w w' := by
  obtain ⟨⟨xps, xts, xn⟩, xp, xt⟩ := x
  unfold CmV.val
  have HX := hide hx
  have FX := hide fx
  clear hx fx
  have hB1 : Below w.heap.size w (w.alloc (.cells #[xp, xt, .string xn] 33)) := (Below.refl _ w).alloc (Nat.le_refl _) _
  have hx1 := heap_alloc_new w (.cells #[xp, xt, .string xn] 33)
  have hs1 : (w.alloc (.cells #[xp, xt, .string xn] 33)).heap.size = w.heap.size + 1 := World.size_alloc _ _
  go_enter Tryd.func58, Tryd.ntmps58
  go_wp2_with fail
  generalize w.alloc (.cells #[xp, xt, .string xn] 33) = w1 at hB1 hx1 hs1 ⊢
  have hB2 := hB1.alloc hB1.size (.cells #[Value.slice none 0 0, Value.slice none 0 0, Value.string { data := #[] }] 33)
  have hx2 := (Chg.alloc (fun _ => False) w1 (.cells #[Value.slice none 0 0, Value.slice none 0 0, Value.string { data := #[] }] 33)).heap hx1 (fun h => h)
  have hy2 := heap_alloc_new w1 (.cells #[Value.slice none 0 0, Value.slice none 0 0, Value.string { data := #[] }] 33)
  rw [hs1] at hy2
  have hs2 : (w1.alloc (.cells #[Value.slice none 0 0, Value.slice none 0 0, Value.string { data := #[] }] 33)).heap.size = w.heap.size + 2 := by rw [World.size_alloc, hs1]
  generalize w1.alloc (.cells #[Value.slice none 0 0, Value.slice none 0 0, Value.string { data := #[] }] 33) = w2 at hB2 hx2 hy2 hs2 ⊢
  have hx20 := cell_of_heap hx2 0
  have hx21 := cell_of_heap hx2 1
  simp at hx20 hx21
  have HX2 := hide (HX.out.same (Chg.of_below0 hB2))
  have HB2 := hide hB2
  have HS2 := hide hs2
  have HXX := hide hx2
  have HYY := hide hy2
  clear hx1 hB1 hB2 hs1 hs2 hx2 hy2 HX
  refine reg_start (Chg (fun _ => False) w2) 10 7 (by rfl) (by kernel_rfl) (Chg.drew _ _) ?_
  intro hS0
  have hSc := hS0
  refine reg_take (i := 0) (v := ?g2v) rfl (by kernel_rfl) (by kernel_rfl) (by kernel_rfl) (by kernel_rfl) (fun _ _ _ h => h) (by rfl) ?g2y (by assumption) ?g2r
  case g2y => (intro W hS; first | (go_simp; done) | (go_simp; with_reducible rfl))
  simp only [Act.put, List.setIfInBounds_toArray, List.set_cons_zero, List.set_cons_succ]
  refine reg_take (i := 1) (v := ?g3v) rfl (by kernel_rfl) (by kernel_rfl) (by kernel_rfl) (by kernel_rfl) (fun _ _ _ h => h) (by rfl) ?g3y (by assumption) ?g3r
  case g3y => (intro W hS; have f0 := hS.cell hx20 (fun h => h); have f1 := hS.cell hx21 (fun h => h); first | (go_simp; done) | (go_simp; with_reducible rfl))
  simp only [Act.put, List.setIfInBounds_toArray, List.set_cons_zero, List.set_cons_succ]
  refine reg_take (i := 3) (v := ?g4v) rfl (by kernel_rfl) (by kernel_rfl) (by kernel_rfl) (by kernel_rfl) (fun _ _ _ h => h) (by rfl) ?g4y (by assumption) ?g4r
  case g4y => (intro W hS; first | (go_simp; done) | (go_simp; with_reducible rfl))
  simp only [Act.put, List.setIfInBounds_toArray, List.set_cons_zero, List.set_cons_succ]
  refine reg_take (i := 4) (v := ?g5v) rfl (by kernel_rfl) (by kernel_rfl) (by kernel_rfl) (by kernel_rfl) (fun _ _ _ h => h) (by rfl) ?g5y (by assumption) ?g5r
  case g5y => (intro W hS; have f0 := hS.cell hx20 (fun h => h); have f1 := hS.cell hx21 (fun h => h); first | (go_simp; done) | (go_simp; with_reducible rfl))
  simp only [Act.put, List.setIfInBounds_toArray, List.set_cons_zero, List.set_cons_succ]
  refine reg_one (i := 2) (by kernel_rfl) ?_
  refine op_call (i := 2) (#[xp]) rfl (by rfl) (enters_of Tryd.func87 (by kernel_rfl) rfl) (by first | (simp [Act.eval]; done) | rfl | (simp only [List.map_toArray, List.map_cons, List.map_nil, Act.eval]; rfl) | (simp [Act.eval]; trace_state; done)) ?_
  refine (Clone_int _ xp _ _ (HX2.out.same hSc).ps (flat_length int_len _) (flat_one' int_one _) (by have h : xps.length ≤ 1000000 := FX.out.1; show xps.length * 8 ≤ _; omega)).mono ?_
  rintro e W3 ⟨ao3, cap3, rfl, hown3, hb3, -⟩
  have HO3 := hide (ownsRow_base hown3 (fun k hk => Nat.le_trans hSc.size (ownsRow_lt hown3 k hk).1))
  have hSc := hSc.trans (Chg.of_below0 (S := fun _ => False) hb3) (S'' := fun _ => False) (fun _ _ h => h) (fun _ _ h => h)
  clear hown3 hb3
  refine ⟨_, rfl, hSc, ?_⟩
  simp only [Act.put, List.setIfInBounds_toArray, List.set_cons_zero, List.set_cons_succ]
  refine reg_take (i := 6) (v := ?g6v) rfl (by kernel_rfl) (by kernel_rfl) (by kernel_rfl) (by kernel_rfl) (fun _ _ _ h => h) (by rfl) ?g6y (by assumption) ?g6r
  case g6y => (intro W hS; first | (go_simp; done) | (go_simp; with_reducible rfl))
  simp only [Act.put, List.setIfInBounds_toArray, List.set_cons_zero, List.set_cons_succ]
  refine reg_one (i := 5) (by kernel_rfl) ?_
  refine op_call (i := 5) (#[xt]) rfl (by rfl) (enters_of Tryd.func88 (by kernel_rfl) rfl) (by first | (simp [Act.eval]; done) | rfl | (simp only [List.map_toArray, List.map_cons, List.map_nil, Act.eval]; rfl) | (simp [Act.eval]; trace_state; done)) ?_
  refine (Clone_fl _ xt _ _ (HX2.out.same hSc).ts (flat_length fl_len _) (flat_one' fl_one _) (by have h : xts.length ≤ 1000000 := FX.out.2; show xts.length * 32 ≤ _; omega)).mono ?_
  rintro e W4 ⟨ao4, cap4, rfl, hown4, hb4, -⟩
  have HO4 := hide (ownsRow_base hown4 (fun k hk => Nat.le_trans hSc.size (ownsRow_lt hown4 k hk).1))
  have HO3 := hide ((Chg.of_below0 (S := fun _ => False) hb4).owns HO3.out (fun _ _ h => h))
  have hSc := hSc.trans (Chg.of_below0 (S := fun _ => False) hb4) (S'' := fun _ => False) (fun _ _ h => h) (fun _ _ h => h)
  have hx4 := hSc.heap HXX.out (fun h => h)
  have f0 := cell_of_heap hx4 0
  have f1 := cell_of_heap hx4 1
  have f2 := cell_of_heap hx4 2
  have e0 := free_of_heap hx4 0
  have e1 := free_of_heap hx4 1
  clear hown4 hb4
  refine ⟨_, rfl, hSc, ?_⟩
  simp only [Act.put, List.setIfInBounds_toArray, List.set_cons_zero, List.set_cons_succ]
  refine reg_late (i := 7) (by kernel_rfl) (by decide) ?_
  refine op_store (i := 7) rfl (by rfl) (w' := W4.setCell ⟨w.heap.size, 0, none⟩ (.slice ao3 xps.length cap3)) (by simp at f0; go_simp) ?_
  simp only [Act.put]
  refine reg_late (i := 8) (by kernel_rfl) (by decide) ?_
  refine op_val (i := 8) (v := .pointer (some ⟨w.heap.size, 1, none⟩)) (w' := W4.setCell ⟨w.heap.size, 0, none⟩ (.slice ao3 xps.length cap3)) rfl (by rfl) (by go_simp) ?_
  simp only [Act.put, List.setIfInBounds_toArray, List.set_cons_zero, List.set_cons_succ]
  refine reg_late (i := 9) (by kernel_rfl) (by decide) ?_
  refine op_store (i := 9) rfl (by rfl) (w' := (W4.setCell ⟨w.heap.size, 0, none⟩ (.slice ao3 xps.length cap3)).setCell ⟨w.heap.size, 1, none⟩ (.slice ao4 xts.length cap4)) (by simp at f1; go_simp) ?_
  simp only [Act.put]
  refine wpAnyG_done (by kernel_rfl) ?_ _
  have hx4 := hSc.heap HXX.out (fun h => h)
  have hy4 := hSc.heap HYY.out (fun h => h)
  have hx5 := heap_setCell_same (heap_setCell_same hx4 (i := 0) (.slice ao3 xps.length cap3)) (i := 1) (.slice ao4 xts.length cap4)
  have hc5 : Chg (fun k => k = w.heap.size) W4 ((W4.setCell ⟨w.heap.size, 0, none⟩ (.slice ao3 xps.length cap3)).setCell ⟨w.heap.size, 1, none⟩ (.slice ao4 xts.length cap4)) :=
    (Chg.setCell W4 _ _).trans (Chg.setCell _ _ _) (fun _ _ h => h) (fun _ _ h => h)
  have hy5 := hc5.heap hy4 (fun h => by omega)
  generalize (W4.setCell ⟨w.heap.size, 0, none⟩ (.slice ao3 xps.length cap3)).setCell ⟨w.heap.size, 1, none⟩ (.slice ao4 xts.length cap4) = W5 at hx5 hc5 hy5 ⊢
  have HC5 := hide hc5
  have HX5 := hide hx5
  have HY5 := hide hy5
  have HSC := hide hSc
  simp at hx5
  have f0 := cell_of_heap hx5 0
  have f1 := cell_of_heap hx5 1
  have f2 := cell_of_heap hx5 2
  have g0 := cell_of_heap hy5 0
  have g1 := cell_of_heap hy5 1
  have g2 := cell_of_heap hy5 2
  have e0 := free_of_heap hy5 0
  have e1 := free_of_heap hy5 1
  have e2 := free_of_heap hy5 2
  simp at f0 f1 f2 g0 g1 g2
  clear hx4 hy4 hx5 hc5 hy5 hS0 hSc hx20 hx21
  go_wp2_with fail
  have hc6 : Chg (fun k => k = w.heap.size + 1) W5 (((W5.setCell ⟨w.heap.size + 1, 0, none⟩ (.slice ao3 xps.length cap3)).setCell ⟨w.heap.size + 1, 1, none⟩ (.slice ao4 xts.length cap4)).setCell ⟨w.heap.size + 1, 2, none⟩ (.string xn)) :=
    ((Chg.setCell W5 _ _).trans (Chg.setCell _ _ _) (S'' := fun k => k = w.heap.size + 1) (fun _ _ h => h) (fun _ _ h => h)).trans (Chg.setCell _ _ _) (fun _ _ h => h) (fun _ _ h => h)
  have hy6 := heap_setCell_same (heap_setCell_same (heap_setCell_same HY5.out (i := 0) (.slice ao3 xps.length cap3)) (i := 1) (.slice ao4 xts.length cap4)) (i := 2) (.string xn)
  clear f0 f1 f2 g0 g1 g2 e0 e1 e2
  generalize ((W5.setCell ⟨w.heap.size + 1, 0, none⟩ (.slice ao3 xps.length cap3)).setCell ⟨w.heap.size + 1, 1, none⟩ (.slice ao4 xts.length cap4)).setCell ⟨w.heap.size + 1, 2, none⟩ (.string xn) = W6 at hc6 hy6 ⊢
  simp at hy6
  refine bodyPost_ret (results_cell_row rfl _ W6 (w.heap.size + 1) _ _ _ _ rfl hy6 Tryd.underlying33 rfl (by kernel_rfl)) rfl ?_
  have hS2 : w2.heap.size = w.heap.size + 2 := HS2.out
  have hc : Chg (fun k => k = w.heap.size ∨ k = w.heap.size + 1) W4 W6 := HC5.out.trans hc6 (fun _ _ h => .inl h) (fun _ _ h => .inr h)
  refine ⟨_, _, rfl, ⟨ownsRow_base (hc.owns HO3.out (fun b hb h => ?_)) (fun b hb => ?_), ownsRow_base (hc.owns HO4.out (fun b hb h => ?_)) (fun b hb => ?_)⟩, ?_⟩
  · have := (ownsRow_lt HO3.out b hb).1; omega
  · have := (ownsRow_lt HO3.out b hb).1; omega
  · have := (ownsRow_lt HO4.out b hb).1; omega
  · have := (ownsRow_lt HO4.out b hb).1; omega
  · exact (HB2.out.trans ((HSC.out.below (Nat.le_refl _) (fun _ _ h => h)).mono HB2.out.size)).trans (hc.below (Nat.le_trans HB2.out.size HSC.out.size) (fun k hk h => by omega))
end Go.Proofs.YtnnkbicaokckbaaDoor
