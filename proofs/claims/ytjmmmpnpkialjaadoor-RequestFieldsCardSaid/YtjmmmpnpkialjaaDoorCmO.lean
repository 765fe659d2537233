/- A commit is copied: repo.own. Conditions: none. -/
import Derived.Test.YtjmmmpnpkialjaaDoorCmS
import Derived.Laws.AppendOwnNone
import Derived.Laws.Rows
namespace Go.Proofs.YtjmmmpnpkialjaaDoor
open Go.RowKit Go.Shelf

theorem int_slT : SlT Tryd.prog 22 3 (.int .i64 0) 1 8 := ⟨Tryd.underlying22, by kernel_rfl, rfl, by decide⟩
/-- slices.Clone at this type: nil of nil; else a row of its own. -/
theorem Clone_int (w : World) (va : Value) (n : Nat) (cs : List Value) (ha : Rd w va n cs) (hl : cs.length = n * 1) (h1 : ∀ u ∈ cs, u.oneCell' = true) (hm : n * 8 ≤ 140737488351232) :
    Calls Tryd.prog 84 #[va] w fun e w' => ∃ ao cap, e = .returned (.slice ao n cap) ∧ w'.ownsRow w.heap.size 3 1 (.slice ao n cap) n cs ∧ Below w.heap.size w w' ∧ (ao = none ↔ va = .slice none 0 0) := by
  have hR := hide ha
  have hn := fun (w : World) (a : Option Addr) (n c n' c' : Nat) => Lib.run_eql_slice_nil (P := Tryd.prog) w 22 3 a n c n' c' int_slT.under
  rcases ha with ⟨rfl, rfl, rfl⟩ | ⟨ad, cap, rfl, hc, hcs⟩
  · go_enter Tryd.func84, Tryd.ntmps84
    go_wp2
    go_ret
    exact ⟨none, 0, rfl, World.ownsRow_nil _ _ _ _, Below.refl _ _, by simp⟩
  · clear hcs
    go_enter Tryd.func84, Tryd.ntmps84
    go_wp2_with (at_builtin; refine wpl_append0 rfl _ _ _ rfl int_slT w.heap.size (ownsRow_empty 1 (heap_alloc_new w _) (Nat.le_refl _)) (hR.out.chg (Chg.alloc (fun _ => False) w _) (fun _ _ _ => id)) rfl rfl hl h1 (by omega) (by unfold maxLen; omega) (by simp) ?_; intro ao cap' w1 hown hg hat hnil)
    go_ret
    refine ⟨ao, cap', rfl, hown, (Below.alloc (Below.refl _ w) (Nat.le_refl _) _).trans (hg.below (by simp) (fun k hk e => by simp [Value.ownBlock] at e; omega)), ?_⟩
    rw [hnil]; simp
/-- slices.Clone at this type: nil of nil; else a row of its own. -/
theorem Clone_fl (w : World) (va : Value) (n : Nat) (cs : List Value) (ha : Rd w va n cs) (hl : cs.length = n * 2) (h1 : ∀ u ∈ cs, u.oneCell' = true) (hm : n * 32 ≤ 140737488351232) :
    Calls Tryd.prog 86 #[va] w fun e w' => ∃ ao cap, e = .returned (.slice ao n cap) ∧ w'.ownsRow w.heap.size 68 2 (.slice ao n cap) n cs ∧ Below w.heap.size w w' ∧ (ao = none ↔ va = .slice none 0 0) := by
  have hR := hide ha
  have hn := fun (w : World) (a : Option Addr) (n c n' c' : Nat) => Lib.run_eql_slice_nil (P := Tryd.prog) w 23 68 a n c n' c' fl_slT.under
  rcases ha with ⟨rfl, rfl, rfl⟩ | ⟨ad, cap, rfl, hc, hcs⟩
  · go_enter Tryd.func86, Tryd.ntmps86
    go_wp2
    go_ret
    exact ⟨none, 0, rfl, World.ownsRow_nil _ _ _ _, Below.refl _ _, by simp⟩
  · clear hcs
    go_enter Tryd.func86, Tryd.ntmps86
    go_wp2_with (at_builtin; refine wpl_append0 rfl _ _ _ rfl fl_slT w.heap.size (ownsRow_empty 2 (heap_alloc_new w _) (Nat.le_refl _)) (hR.out.chg (Chg.alloc (fun _ => False) w _) (fun _ _ _ => id)) rfl rfl hl h1 (by omega) (by unfold maxLen; omega) (by simp) ?_; intro ao cap' w1 hown hg hat hnil)
    go_ret
    refine ⟨ao, cap', rfl, hown, (Below.alloc (Below.refl _ w) (Nat.le_refl _) _).trans (hg.below (by simp) (fun k hk e => by simp [Value.ownBlock] at e; omega)), ?_⟩
    rw [hnil]; simp

/-- A commit that lies in rows of its own, from a block on. -/
structure Own (w : World) (base : Nat) (x : CmV) : Prop where
  ps : w.ownsRow base 3 1 x.vp x.c.parents.length (flat int_enc x.c.parents)
  ts : w.ownsRow base 68 2 x.vt x.c.tree.length (flat fl_enc x.c.tree)
theorem Own.at {w : World} {base : Nat} {x : CmV} (h : Own w base x) : CmAt w x :=
  ⟨Rd.of_owns h.ps, Rd.of_owns h.ts, fun b hb _ => (ownsRow_lt h.ps b hb).2, fun b hb _ => (ownsRow_lt h.ts b hb).2⟩
theorem Own.chg {S : Nat → Prop} {w w' : World} {base : Nat} {x : CmV} (h : Own w base x) (c : Chg S w w') (hS : ∀ b, base ≤ b → b < w.heap.size → ¬ S b) : Own w' base x :=
  ⟨c.owns h.ps (fun b hb => hS b (ownsRow_lt h.ps b hb).1 (ownsRow_lt h.ps b hb).2), c.owns h.ts (fun b hb => hS b (ownsRow_lt h.ts b hb).1 (ownsRow_lt h.ts b hb).2)⟩
theorem Own.base {w : World} {base base' : Nat} {x : CmV} (h : Own w base x) (hb : base' ≤ base) : Own w base' x :=
  ⟨ownsRow_base h.ps (fun k hk => Nat.le_trans hb (ownsRow_lt h.ps k hk).1), ownsRow_base h.ts (fun k hk => Nat.le_trans hb (ownsRow_lt h.ts k hk).1)⟩

end Go.Proofs.YtjmmmpnpkialjaaDoor
