/- The law of a range over an iterator, in a round of another one's loop. Conditions: none. -/
import Derived.Test.YtnnkbicaokckbaaDoorIterB
import Derived.RangeFuncNested
namespace Go.Proofs.YtnnkbicaokckbaaDoor
open Go.RowKit Go.Shelf

/-- How a round within a round may be left. -/
def postN {α : Type} (R D : Nat → Prop) (B : Nat) (I : (Nat → Prop) → List α → World → Prop) (Ix : Code → (Nat → Prop) → List α → World → Prop) (xs : List α) (W : World) : Exit → Act → World → Prop
  | .normal, _, W' => Kpt (fun k => R k ∨ D k ∨ k = B) W W' ∧ I D xs W'
  | .ret, _, W' => Kpt (fun k => R k ∨ D k ∨ k = B) W W' ∧ Ix .ret D xs W'
  | .exit id, _, W' => Kpt (fun k => R k ∨ D k ∨ k = B) W W' ∧ Ix (.exit id) D xs W'
  | .goto t, _, W' => Kpt (fun k => R k ∨ D k ∨ k = B) W W' ∧ Ix (.goto t) D xs W'
  | .panic _, _, _ => False
  | .outgrown, _, _ => False
theorem wpIn_range_DN {F : Fence} {n : Nat} {P : Program} {α : Type} {g : Operand} {ps : Array Tmp} {assign body : Code} {Q : Exit → Act → World → Prop} {a : Act} {w : World}
    {l0 : Nat} {r0 : Loop} (hro : F.round = some l0) (hl0 : w.heap[l0]? = some (.loop r0)) (h1 : 1 ≤ n) {gf : Nat} {lb : Array Value} (hg : a.eval g = .func (.func gf) #[] lb) (hFg : F.fn gf) (eg : ∀ args w, (callFunc gf args).run P w = .ok (.enter gf args) w)
    {encs : α → Array Value} {R : Nat → Prop} {zs : List α} {w0 : World} (hseq : SeqD F (n - 1) P gf lb encs R zs w0) (hw0 : Kpt R w0 w) (hR : ∀ k, R k → k < w.heap.size) (hps : ∀ x, (encs x).size = ps.size)
    (I : (Nat → Prop) → List α → World → Prop) (Ix : Code → (Nat → Prop) → List α → World → Prop) (hI : AbdD w.heap.size I) (hIx : ∀ c, AbdD w.heap.size (Ix c))
    (h0 : ∀ W, Chg (fun _ => False) w W → W.heap.size = w.heap.size + 1 → I (fun _ => False) [] W)
    (Ax : α → Act → World → Prop) (hAx : ∀ x a' W W', Ax x a' W → Chg (fun k => k = w.heap.size) W W' → NonC W w.heap.size → Ax x a' W')
    (hassign : ∀ (l : Nat) (D : Nat → Prop) (pre : List α) (x : α) (W : World) (K : Act → World → Prop), I D pre W → (pre ++ [x]) <+: zs → w.heap.size + 1 ≤ W.heap.size →
      (∀ a' W', Kpt (fun k => R k ∨ D k ∨ k = w.heap.size) W W' → I D pre W' → Ax x a' W' → K a' W') →
      assign.wpIn (F.inRound l) (n - 1 - 1) P (Exit.then K (fun _ _ _ => False)) { tmps := (ps.zip (encs x)).foldl (fun t (p, v) => t.setIfInBounds p v) a.tmps, defers := [] } W)
    (hbody : ∀ (l : Nat) (D : Nat → Prop) (pre : List α) (x : α) (a' : Act) (W : World), l = w.heap.size → (∃ r, W.heap[l]? = some (.loop r)) → I D pre W → Ax x a' W → (pre ++ [x]) <+: zs → ¬ D w.heap.size →
      body.wpIn (F.inRound l) (n - 1 - 1) P (postN R D w.heap.size I Ix (pre ++ [x]) W) a' W)
    (hdone : ∀ (D : Nat → Prop) (W : World), I D zs W → ¬ D w.heap.size → Q .normal a W)
    (hstop : ∀ (D : Nat → Prop) (c : Code) (pre : List α) (W : World), pre <+: zs → Ix c D pre W → ¬ D w.heap.size → c.wpIn F n P Q a W) :
    (Code.rangeFunc g ps assign body).wpIn F n P Q a w := by
  refine wpIn_rangeFunc ?_
  intro fn hfn
  rw [hro]
  obtain ⟨rec, hrec⟩ : ∃ rec : LoopState → Option Code → Loop, rec = fun st pe => { state := st, pending := pe, fn, tmps := a.tmps, params := ps, assign, body, defers := r0.defers } := ⟨_, rfl⟩
  obtain ⟨W1, hW1⟩ : ∃ W1, w.alloc (.loop (rec .ready none)) = W1 := ⟨_, rfl⟩
  have hL1 : W1.heap[w.heap.size]? = some (.loop (rec .ready none)) := by rw [← hW1]; exact World.alloc_heap_new w _
  have hc1 : Chg (fun _ => False) w W1 := by rw [← hW1]; exact Chg.alloc (fun _ => False) w _
  have hz1 : W1.heap.size = w.heap.size + 1 := by rw [← hW1]; simp
  refine ⟨w.heap.size, [], W1, { target := .fn (.func gf) lb, args := #[.func (.yield w.heap.size) #[] #[]] }, W1, gf,
    #[.func (.yield w.heap.size) #[] #[]] ++ lb, W1, ?_, ?_, ?_, ?_, fun _ => h1, ?_⟩
  · rw [← hW1, hrec]; exact run_enterLoop_inner hl0 _ _ _ _ _
  · simp only [resolve, hg]
    simp [go_sem]
  · intro f' hf'; simp [Target.leads] at hf'; subst hf'; exact hFg
  · simp [invoke, go_sem, eg]
  · refine (hseq w.heap.size
      (fun D pre W => I D pre W ∧ W.heap[w.heap.size]? = some (.loop (rec .ready none)) ∧ ¬ D w.heap.size)
      (fun D pre W => ∃ c, Ix c D pre W ∧ W.heap[w.heap.size]? = some (.loop (rec .done (some c))) ∧ ¬ D w.heap.size)
      W1 (hw0.trans (Kpt.of_chg hc1 (fun _ _ _ h => h))) ?_ ?_ ?_ ⟨h0 W1 hc1 hz1, hL1, fun h => h⟩).mono ?_
    · rintro D s A A' S ⟨hi, hl, hd⟩ hc hS
      have hlt := (Array.getElem?_eq_some_iff.1 hl).1
      exact ⟨hI.s D s A A' S hi hc hS, hc.heap hl (fun h => hd (hS _ hlt h)), fun h => h.elim hd (fun h => by omega)⟩
    · rintro D s A A' S ⟨c, hi, hl, hd⟩ hc hS
      have hlt := (Array.getElem?_eq_some_iff.1 hl).1
      exact ⟨c, (hIx c).s D s A A' S hi hc hS, hc.heap hl (fun h => hd (hS _ hlt h)), fun h => h.elim hd (fun h => by omega)⟩
    · rintro D pre x W ⟨hi, hl, hd⟩ hpre
      have hlt : w.heap.size < W.heap.size := (Array.getElem?_eq_some_iff.1 hl).1
      have hy := run_yield (P := P) (args := encs x) hl (by rw [hrec]; exact hps x)
      rw [hrec] at hy
      refine ⟨fn, _, assign, body, hy, roundIn_of_wpIn hfn (hassign _ D pre x W _ hi hpre (by omega) ?_)⟩
      clear hy
      intro a' Wa hca hia hax
      have hla := hca.heap hl (.inr (.inr rfl))
      have hlta : w.heap.size < Wa.heap.size := (Array.getElem?_eq_some_iff.1 hla).1
      refine ⟨_, run_beginRound hla (by rw [hrec]), ?_⟩
      have hl2 : (Wa.putObj w.heap.size (.loop { rec .ready none with state := .busy })).heap[w.heap.size]? = some (.loop { rec .ready none with state := .busy }) := World.putObj_heap_same hlta
      have hc2 := chg_putObj Wa w.heap.size (.loop { rec .ready none with state := .busy })
      refine wpIn_mono (hbody _ D pre x a' _ rfl ⟨_, hl2⟩ (hI.put hia (.inl rfl) hla rfl _) (hAx x a' _ _ hax hc2 ⟨_, hla, rfl⟩) hpre hd) ?_
      have fin : ∀ (jump : Option Code) (W3 : World), Kpt (fun k => R k ∨ D k ∨ k = w.heap.size) (Wa.putObj w.heap.size (.loop { rec .ready none with state := .busy })) W3 →
          (Instr.endRound w.heap.size jump).run P W3 = .ok (.bool jump.isNone) (W3.putObj w.heap.size (.loop (rec (if jump.isNone then .ready else .done) jump))) ∧
          W3.heap[w.heap.size]? = some (.loop { rec .ready none with state := .busy }) ∧
          (W3.putObj w.heap.size (.loop (rec (if jump.isNone then .ready else .done) jump))).heap[w.heap.size]? = some (.loop (rec (if jump.isNone then .ready else .done) jump)) ∧
          Kpt (fun k => R k ∨ D k) W (W3.putObj w.heap.size (.loop (rec (if jump.isNone then .ready else .done) jump))) := fun jump W3 hc3 => by
        have hl3 := hc3.heap hl2 (.inr (.inr rfl))
        have := run_endRound (P := P) jump hl3
        rw [hrec] at this ⊢
        refine ⟨this, by rw [hrec] at hl3; exact hl3, World.putObj_heap_same (Array.getElem?_eq_some_iff.1 hl3).1, ?_⟩
        have e1 : ∀ k, (R k ∨ D k) → k ≠ w.heap.size := fun k hr e => hr.elim (fun h => by have := hR k h; omega) (fun h => hd (e ▸ h))
        exact ((hca.mono (fun k hr => hr.elim .inl (fun h => .inr (.inl h)))).trans (Kpt.of_chg hc2 (fun k _ hr e => e1 k hr e))).trans ((hc3.mono (fun k hr => hr.elim .inl (fun h => .inr (.inl h)))).trans (Kpt.of_chg (chg_putObj W3 _ _) (fun k _ hr e => e1 k hr e)))
      rintro e a3 W3 hp
      cases e with
      | normal =>
        obtain ⟨hc3, hi3⟩ := hp
        obtain ⟨hr, hl3, hl4, hkp⟩ := fin none W3 hc3
        exact ⟨_, _, hr, .inl ⟨rfl, ⟨hI.put hi3 (.inl rfl) hl3 rfl _, hl4, hd⟩, hkp⟩⟩
      | ret =>
        obtain ⟨hc3, hi3⟩ := hp
        obtain ⟨hr, hl3, hl4, hkp⟩ := fin (some .ret) W3 hc3
        exact ⟨_, _, hr, .inr ⟨rfl, ⟨.ret, (hIx _).put hi3 (.inl rfl) hl3 rfl _, hl4, hd⟩, hkp⟩⟩
      | exit id =>
        obtain ⟨hc3, hi3⟩ := hp
        obtain ⟨hr, hl3, hl4, hkp⟩ := fin (some (.exit id)) W3 hc3
        exact ⟨_, _, hr, .inr ⟨rfl, ⟨.exit id, (hIx _).put hi3 (.inl rfl) hl3 rfl _, hl4, hd⟩, hkp⟩⟩
      | goto t =>
        obtain ⟨hc3, hi3⟩ := hp
        obtain ⟨hr, hl3, hl4, hkp⟩ := fin (some (.goto t)) W3 hc3
        exact ⟨_, _, hr, .inr ⟨rfl, ⟨.goto t, (hIx _).put hi3 (.inl rfl) hl3 rfl _, hl4, hd⟩, hkp⟩⟩
      | panic ch => exact hp.elim
      | outgrown => exact hp.elim
    · rintro e W2 ⟨⟨v, rfl⟩, (⟨D, hi, hl, hd⟩ | ⟨D, pre, hpre, c, hi, hl, hd⟩)⟩
      · exact ⟨none, _, by have := run_endLoop (P := P) hl (by rw [hrec]; simp); rw [hrec] at this; exact this, hdone D _ (hI.put hi (.inl rfl) hl rfl _) hd⟩
      · exact ⟨some c, _, by have := run_endLoop (P := P) hl (by rw [hrec]; simp); rw [hrec] at this; exact this, hstop D c pre _ hpre ((hIx c).put hi (.inl rfl) hl rfl _) hd⟩
end Go.Proofs.YtnnkbicaokckbaaDoor
