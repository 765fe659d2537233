/- Iterators that have memory of their own: what one promises (SeqD), and the law of a range over one. Conditions: none. -/
import Derived.Test.YtjmmmpnpkialjaaDoorSeq
import Derived.Test.YtjmmmpnpkialjaaDoorCopy
namespace Go.Proofs.YtjmmmpnpkialjaaDoor
open Go.RowKit Go.Shelf

/-- The blocks D, and those that were laid from W to W'. -/
def Plus (D : Nat → Prop) (W W' : World) (k : Nat) : Prop := D k ∨ (W.heap.size ≤ k ∧ k < W'.heap.size)
theorem plus_same {D : Nat → Prop} {W W' : World} (h : W'.heap.size = W.heap.size) : Plus D W W' = D := by
  funext k
  refine propext ⟨fun h1 => h1.elim id (fun h2 => by omega), .inl⟩
/-- What a caller's word abides: an iterator's turns of its own blocks, and of the loop's two. -/
def AbdD {α : Type} (B : Nat) (J : (Nat → Prop) → List α → World → Prop) : Prop :=
  ∀ D s W W' S, J D s W → Chg S W W' → (∀ k, k < W.heap.size → S k → D k ∨ ((k = B ∨ k = B + 1) ∧ NonC W k)) → J (Plus D W W') s W'
def AbdS {α : Type} (J : (Nat → Prop) → List α → World → Prop) : Prop := ∀ D s W W' S, J D s W → Chg S W W' → (∀ k, k < W.heap.size → S k → D k) → J (Plus D W W') s W'
theorem AbdD.s {α : Type} {B : Nat} {J : (Nat → Prop) → List α → World → Prop} (h : AbdD B J) : AbdS J := fun D s W W' S hj hc hs => h D s W W' S hj hc (fun k hk hS => .inl (hs k hk hS))
/-- The blocks R lie as they lay. -/
def Kpt (R : Nat → Prop) (W W' : World) : Prop := W.heap.size ≤ W'.heap.size ∧ ∀ k, k < W.heap.size → R k → W'.heap[k]? = W.heap[k]?
theorem Kpt.refl (R : Nat → Prop) (W : World) : Kpt R W W := ⟨Nat.le_refl _, fun _ _ _ => rfl⟩
theorem Kpt.trans {R : Nat → Prop} {A B C : World} (h : Kpt R A B) (k : Kpt R B C) : Kpt R A C := ⟨Nat.le_trans h.1 k.1, fun i hi hr => (k.2 i (Nat.lt_of_lt_of_le hi h.1) hr).trans (h.2 i hi hr)⟩
theorem Kpt.of_chg {R S : Nat → Prop} {W W' : World} (c : Chg S W W') (h : ∀ k, k < W.heap.size → R k → ¬ S k) : Kpt R W W' := ⟨c.size, fun k hk hr => c.block k hk (h k hk hr)⟩
theorem Kpt.mono {R R' : Nat → Prop} {W W' : World} (h : Kpt R W W') (hs : ∀ k, R' k → R k) : Kpt R' W W' := ⟨h.1, fun k hk hr => h.2 k hk (hs k hr)⟩
theorem Kpt.heap {R : Nat → Prop} {W W' : World} (h : Kpt R W W') {k : Nat} {o : Obj} (ho : W.heap[k]? = some o) (hr : R k) : W'.heap[k]? = some o := (h.2 k (Array.getElem?_eq_some_iff.1 ho).1 hr).trans ho

/-- THE PROMISE OF AN ITERATOR that tells zs, reads the blocks R, and turns none but those that it lays itself. -/
def SeqD {α : Type} (F : Fence) (n : Nat) (P : Program) (g : Nat) (lb : Array Value) (encs : α → Array Value) (R : Nat → Prop) (zs : List α) (w : World) : Prop :=
  ∀ (l : Nat) (J Jx : (Nat → Prop) → List α → World → Prop) (W : World), Kpt R w W → AbdS J → AbdS Jx →
    (∀ D pre x W1, J D pre W1 → (pre ++ [x]) <+: zs → YieldAt F (n - 1) P l (encs x) W1 fun e W' =>
      (e = .returned (.bool true) ∧ J D (pre ++ [x]) W' ∧ Kpt (fun k => R k ∨ D k) W1 W') ∨ (e = .returned (.bool false) ∧ Jx D (pre ++ [x]) W' ∧ Kpt (fun k => R k ∨ D k) W1 W')) →
    J (fun _ => False) [] W →
    CallsIn F n P g (#[.func (.yield l) #[] #[]] ++ lb) W fun e W' => (∃ v, e = .returned v) ∧ ((∃ D, J D zs W') ∨ (∃ D pre, pre <+: zs ∧ Jx D pre W'))
theorem SeqD.later {α : Type} {F : Fence} {n : Nat} {P : Program} {g : Nat} {lb : Array Value} {encs : α → Array Value} {R : Nat → Prop} {zs : List α} {w w' : World} (h : SeqD F n P g lb encs R zs w) (k : Kpt R w w') : SeqD F n P g lb encs R zs w' :=
  fun l J Jx W hW hJ hJx hY h0 => h l J Jx W (k.trans hW) hJ hJx hY h0
theorem SeqD.inRound {α : Type} {F : Fence} {n : Nat} {P : Program} {g : Nat} {lb : Array Value} {encs : α → Array Value} {R : Nat → Prop} {zs : List α} {w : World} (l : Nat) (h : SeqD F n P g lb encs R zs w) : SeqD (F.inRound l) n P g lb encs R zs w := h

theorem room_none {F : Fence} (hd : F.depth = none) (k : Nat) : F.room k := fun d h => by rw [hd] at h; cases h
theorem YieldAt.any {F : Fence} (hd : F.depth = none) {m : Nat} (m' : Nat) {P : Program} {l : Nat} {args : Array Value} {W : World} {R : Ending → World → Prop} (h : YieldAt F m P l args W R) : YieldAt F m' P l args W R := by
  obtain ⟨fn, tmps, assign, body, hy, hR⟩ := h
  exact ⟨fn, tmps, assign, body, hy, hR.1, fun c cs _ => hR.2 c cs (room_none hd _)⟩
theorem SeqD.any {α : Type} {n : Nat} (m : Nat) {P : Program} {g : Nat} {lb : Array Value} {encs : α → Array Value} {R : Nat → Prop} {zs : List α} {w : World} (h : SeqD Fence.wide n P g lb encs R zs w) : SeqD Fence.wide m P g lb encs R zs w :=
  fun l J Jx W hW hJ hJx hY h0 => callsIn_wide.2 (callsIn_wide.1 (h l J Jx W hW hJ hJx (fun D pre x W1 h1 h2 => YieldAt.any rfl _ (hY D pre x W1 h1 h2)) h0))

/-- How a round may be left. -/
def postD {α : Type} (R D : Nat → Prop) (B : Nat) (I : (Nat → Prop) → List α → World → Prop) (Ix : Code → (Nat → Prop) → List α → World → Prop) (xs : List α) (W : World) : Exit → Act → World → Prop
  | .normal, _, W' => Kpt (fun k => R k ∨ D k ∨ k = B ∨ k = B + 1) W W' ∧ I D xs W'
  | .ret, _, W' => Kpt (fun k => R k ∨ D k ∨ k = B ∨ k = B + 1) W W' ∧ Ix .ret D xs W'
  | .exit id, _, W' => Kpt (fun k => R k ∨ D k ∨ k = B ∨ k = B + 1) W W' ∧ Ix (.exit id) D xs W'
  | .goto t, _, W' => Kpt (fun k => R k ∨ D k ∨ k = B ∨ k = B + 1) W W' ∧ Ix (.goto t) D xs W'
  | .panic _, _, _ => False
  | .outgrown, _, _ => False

theorem chg_putObj (W : World) (l : Nat) (o : Obj) : Chg (fun k => k = l) W (W.putObj l o) := (Chg.grown (grownBy_putObj' W l o)).mono (fun k _ h => by cases h; rfl)
theorem AbdD.put {α : Type} {B : Nat} {J : (Nat → Prop) → List α → World → Prop} (h : AbdD B J) {D : Nat → Prop} {s : List α} {W : World} (hj : J D s W) {l : Nat} {o : Obj} (hl : l = B ∨ l = B + 1) (ho : W.heap[l]? = some o) (hc : o.isCells = false) (o' : Obj) : J D s (W.putObj l o') := by
  have := h D s W _ _ hj (chg_putObj W l o') (fun k _ e => by subst e; exact .inr ⟨hl, o, ho, hc⟩)
  rwa [plus_same (by simp [World.putObj])] at this

/-- THE LAW OF A RANGE OVER SUCH AN ITERATOR (the loop stands in no other one's round). -/
theorem wpIn_range_D {F : Fence} {n : Nat} {P : Program} {α : Type} {g : Operand} {ps : Array Tmp} {assign body : Code} {Q : Exit → Act → World → Prop} {a : Act} {w : World}
    (hro : F.round = none) (h1 : 1 ≤ n) {gf : Nat} {lb : Array Value} (hg : a.eval g = .func (.func gf) #[] lb) (hFg : F.fn gf) (eg : ∀ args w, (callFunc gf args).run P w = .ok (.enter gf args) w)
    {encs : α → Array Value} {R : Nat → Prop} {zs : List α} {w0 : World} (hseq : SeqD F (n - 1) P gf lb encs R zs w0) (hw0 : Kpt R w0 w) (hR : ∀ k, R k → k < w.heap.size) (hps : ∀ x, (encs x).size = ps.size)
    (I : (Nat → Prop) → List α → World → Prop) (Ix : Code → (Nat → Prop) → List α → World → Prop) (hI : AbdD w.heap.size I) (hIx : ∀ c, AbdD w.heap.size (Ix c))
    (h0 : ∀ W, Chg (fun _ => False) w W → W.heap.size = w.heap.size + 2 → I (fun _ => False) [] W)
    (Ax : α → Act → World → Prop) (hAx : ∀ x a' W W', Ax x a' W → Chg (fun k => k = w.heap.size + 1) W W' → NonC W (w.heap.size + 1) → Ax x a' W')
    (hassign : ∀ (l : Nat) (D : Nat → Prop) (pre : List α) (x : α) (W : World) (K : Act → World → Prop), I D pre W → (pre ++ [x]) <+: zs → w.heap.size + 2 ≤ W.heap.size →
      (∀ a' W', Kpt (fun k => R k ∨ D k ∨ k = w.heap.size ∨ k = w.heap.size + 1) W W' → I D pre W' → Ax x a' W' → K a' W') →
      assign.wpIn (F.inRound l) (n - 1 - 1) P (Exit.then K (fun _ _ _ => False)) { tmps := (ps.zip (encs x)).foldl (fun t (p, v) => t.setIfInBounds p v) a.tmps, defers := [] } W)
    (hbody : ∀ (l : Nat) (D : Nat → Prop) (pre : List α) (x : α) (a' : Act) (W : World), l = w.heap.size + 1 → (∃ r, W.heap[l]? = some (.loop r)) → NonC W w.heap.size → I D pre W → Ax x a' W → (pre ++ [x]) <+: zs → ¬ D w.heap.size → ¬ D (w.heap.size + 1) →
      body.wpIn (F.inRound l) (n - 1 - 1) P (postD R D w.heap.size I Ix (pre ++ [x]) W) a' W)
    (hdone : ∀ (D : Nat → Prop) (W : World), I D zs W → W.heap[w.heap.size]? = some (.deferred (some [])) → ¬ D w.heap.size → Q .normal { a with defers := { target := .collected w.heap.size, args := #[] } :: a.defers } W)
    (hstop : ∀ (D : Nat → Prop) (c : Code) (pre : List α) (W : World), pre <+: zs → Ix c D pre W → W.heap[w.heap.size]? = some (.deferred (some [])) → ¬ D w.heap.size → c.wpIn F n P Q { a with defers := { target := .collected w.heap.size, args := #[] } :: a.defers } W) :
    (Code.rangeFunc g ps assign body).wpIn F n P Q a w := by
  refine wpIn_rangeFunc ?_
  intro fn hfn
  rw [hro]
  obtain ⟨rec, hrec⟩ : ∃ rec : LoopState → Option Code → Loop, rec = fun st pe => { state := st, pending := pe, fn, tmps := a.tmps, params := ps, assign, body, defers := w.heap.size } := ⟨_, rfl⟩
  obtain ⟨W1, hW1⟩ : ∃ W1, (w.alloc (.deferred (some []))).alloc (.loop (rec .ready none)) = W1 := ⟨_, rfl⟩
  have hL1 : W1.heap[w.heap.size + 1]? = some (.loop (rec .ready none)) := by
    rw [← hW1]; have := World.alloc_heap_new (w.alloc (.deferred (some []))) (.loop (rec .ready none)); rwa [World.size_alloc] at this
  have hK1 : W1.heap[w.heap.size]? = some (.deferred (some [])) := by
    rw [← hW1]; exact (Below.heap_alloc _ _ _ (by simp)).trans (World.alloc_heap_new w _)
  have hc1 : Chg (fun _ => False) w W1 := by rw [← hW1]; exact (Chg.alloc (fun _ => False) w _).trans (Chg.alloc (fun _ => False) _ _) (fun _ _ h => h) (fun _ _ h => h)
  have hz1 : W1.heap.size = w.heap.size + 2 := by rw [← hW1]; simp
  refine ⟨w.heap.size + 1, [{ target := .collected w.heap.size, args := #[] }], W1, { target := .fn (.func gf) lb, args := #[.func (.yield (w.heap.size + 1)) #[] #[]] }, W1, gf,
    #[.func (.yield (w.heap.size + 1)) #[] #[]] ++ lb, W1, ?_, ?_, ?_, ?_, fun _ => h1, ?_⟩
  · rw [← hW1, hrec]; exact run_enterLoop_outer _ _ _ _ _
  · simp only [resolve, hg]
    simp [go_sem]
  · intro f' hf'; simp [Target.leads] at hf'; subst hf'; exact hFg
  · simp [invoke, go_sem, eg]
  · refine (hseq (w.heap.size + 1)
      (fun D pre W => I D pre W ∧ W.heap[w.heap.size + 1]? = some (.loop (rec .ready none)) ∧ W.heap[w.heap.size]? = some (.deferred (some [])) ∧ ¬ D w.heap.size ∧ ¬ D (w.heap.size + 1))
      (fun D pre W => ∃ c, Ix c D pre W ∧ W.heap[w.heap.size + 1]? = some (.loop (rec .done (some c))) ∧ W.heap[w.heap.size]? = some (.deferred (some [])) ∧ ¬ D w.heap.size ∧ ¬ D (w.heap.size + 1))
      W1 (hw0.trans (Kpt.of_chg hc1 (fun _ _ _ h => h))) ?_ ?_ ?_ ⟨h0 W1 hc1 hz1, hL1, hK1, fun h => h, fun h => h⟩).mono ?_
    · rintro D s A A' S ⟨hi, hl, hk, hd, hd1⟩ hc hS
      have hlt := (Array.getElem?_eq_some_iff.1 hl).1
      exact ⟨hI.s D s A A' S hi hc hS, hc.heap hl (fun h => hd1 (hS _ hlt h)), hc.heap hk (fun h => hd (hS _ (by omega) h)), fun h => h.elim hd (fun h => by omega), fun h => h.elim hd1 (fun h => by omega)⟩
    · rintro D s A A' S ⟨c, hi, hl, hk, hd, hd1⟩ hc hS
      have hlt := (Array.getElem?_eq_some_iff.1 hl).1
      exact ⟨c, (hIx c).s D s A A' S hi hc hS, hc.heap hl (fun h => hd1 (hS _ hlt h)), hc.heap hk (fun h => hd (hS _ (by omega) h)), fun h => h.elim hd (fun h => by omega), fun h => h.elim hd1 (fun h => by omega)⟩
    · rintro D pre x W ⟨hi, hl, hk, hd, hd1⟩ hpre
      have hlt : w.heap.size + 1 < W.heap.size := (Array.getElem?_eq_some_iff.1 hl).1
      have hy := run_yield (P := P) (args := encs x) hl (by rw [hrec]; exact hps x)
      rw [hrec] at hy
      refine ⟨fn, _, assign, body, hy, roundIn_of_wpIn hfn (hassign _ D pre x W _ hi hpre (by omega) ?_)⟩
      clear hy
      intro a' Wa hca hia hax
      have hla := hca.heap hl (.inr (.inr (.inr rfl)))
      have hka := hca.heap hk (.inr (.inr (.inl rfl)))
      have hlta : w.heap.size + 1 < Wa.heap.size := (Array.getElem?_eq_some_iff.1 hla).1
      refine ⟨_, run_beginRound hla (by rw [hrec]), ?_⟩
      have hl2 : (Wa.putObj (w.heap.size + 1) (.loop { rec .ready none with state := .busy })).heap[w.heap.size + 1]? = some (.loop { rec .ready none with state := .busy }) := World.putObj_heap_same hlta
      have hk2 : (Wa.putObj (w.heap.size + 1) (.loop { rec .ready none with state := .busy })).heap[w.heap.size]? = some (.deferred (some [])) := (World.putObj_heap_other (by omega)).trans hka
      have hc2 := chg_putObj Wa (w.heap.size + 1) (.loop { rec .ready none with state := .busy })
      refine wpIn_mono (hbody _ D pre x a' _ rfl ⟨_, hl2⟩ ⟨_, hk2, rfl⟩ (hI.put hia (.inr rfl) hla rfl _) (hAx x a' _ _ hax hc2 ⟨_, hla, rfl⟩) hpre hd hd1) ?_
      have fin : ∀ (jump : Option Code) (W3 : World), Kpt (fun k => R k ∨ D k ∨ k = w.heap.size ∨ k = w.heap.size + 1) (Wa.putObj (w.heap.size + 1) (.loop { rec .ready none with state := .busy })) W3 →
          (Instr.endRound (w.heap.size + 1) jump).run P W3 = .ok (.bool jump.isNone) (W3.putObj (w.heap.size + 1) (.loop (rec (if jump.isNone then .ready else .done) jump))) ∧
          W3.heap[w.heap.size + 1]? = some (.loop { rec .ready none with state := .busy }) ∧
          (W3.putObj (w.heap.size + 1) (.loop (rec (if jump.isNone then .ready else .done) jump))).heap[w.heap.size + 1]? = some (.loop (rec (if jump.isNone then .ready else .done) jump)) ∧
          (W3.putObj (w.heap.size + 1) (.loop (rec (if jump.isNone then .ready else .done) jump))).heap[w.heap.size]? = some (.deferred (some [])) ∧
          Kpt (fun k => R k ∨ D k) W (W3.putObj (w.heap.size + 1) (.loop (rec (if jump.isNone then .ready else .done) jump))) := fun jump W3 hc3 => by
        have hl3 := hc3.heap hl2 (.inr (.inr (.inr rfl)))
        have := run_endRound (P := P) jump hl3
        rw [hrec] at this ⊢
        refine ⟨this, by rw [hrec] at hl3; exact hl3, World.putObj_heap_same (Array.getElem?_eq_some_iff.1 hl3).1, (World.putObj_heap_other (by omega)).trans (hc3.heap hk2 (.inr (.inr (.inl rfl)))), ?_⟩
        have e1 : ∀ k, (R k ∨ D k) → k ≠ w.heap.size + 1 := fun k hr e => hr.elim (fun h => by have := hR k h; omega) (fun h => hd1 (e ▸ h))
        exact ((hca.mono (fun k hr => hr.elim .inl (fun h => .inr (.inl h)))).trans (Kpt.of_chg hc2 (fun k _ hr e => e1 k hr e))).trans ((hc3.mono (fun k hr => hr.elim .inl (fun h => .inr (.inl h)))).trans (Kpt.of_chg (chg_putObj W3 _ _) (fun k _ hr e => e1 k hr e)))
      rintro e a3 W3 hp
      cases e with
      | normal =>
        obtain ⟨hc3, hi3⟩ := hp
        obtain ⟨hr, hl3, hl4, hk4, hkp⟩ := fin none W3 hc3
        exact ⟨_, _, hr, .inl ⟨rfl, ⟨hI.put hi3 (.inr rfl) hl3 rfl _, hl4, hk4, hd, hd1⟩, hkp⟩⟩
      | ret =>
        obtain ⟨hc3, hi3⟩ := hp
        obtain ⟨hr, hl3, hl4, hk4, hkp⟩ := fin (some .ret) W3 hc3
        exact ⟨_, _, hr, .inr ⟨rfl, ⟨.ret, (hIx _).put hi3 (.inr rfl) hl3 rfl _, hl4, hk4, hd, hd1⟩, hkp⟩⟩
      | exit id =>
        obtain ⟨hc3, hi3⟩ := hp
        obtain ⟨hr, hl3, hl4, hk4, hkp⟩ := fin (some (.exit id)) W3 hc3
        exact ⟨_, _, hr, .inr ⟨rfl, ⟨.exit id, (hIx _).put hi3 (.inr rfl) hl3 rfl _, hl4, hk4, hd, hd1⟩, hkp⟩⟩
      | goto t =>
        obtain ⟨hc3, hi3⟩ := hp
        obtain ⟨hr, hl3, hl4, hk4, hkp⟩ := fin (some (.goto t)) W3 hc3
        exact ⟨_, _, hr, .inr ⟨rfl, ⟨.goto t, (hIx _).put hi3 (.inr rfl) hl3 rfl _, hl4, hk4, hd, hd1⟩, hkp⟩⟩
      | panic ch => exact hp.elim
      | outgrown => exact hp.elim
    · rintro e W2 ⟨⟨v, rfl⟩, (⟨D, hi, hl, hk, hd, hd1⟩ | ⟨D, pre, hpre, c, hi, hl, hk, hd, hd1⟩)⟩
      · exact ⟨none, _, by have := run_endLoop (P := P) hl (by rw [hrec]; simp); rw [hrec] at this; exact this, hdone D _ (hI.put hi (.inr rfl) hl rfl _) ((World.putObj_heap_other (by omega)).trans hk) hd⟩
      · exact ⟨some c, _, by have := run_endLoop (P := P) hl (by rw [hrec]; simp); rw [hrec] at this; exact this, hstop D c pre _ hpre ((hIx c).put hi (.inr rfl) hl rfl _) ((World.putObj_heap_other (by omega)).trans hk) hd⟩


/-- A box ahead of a loop's two blocks lies apart from an iterator's. -/
theorem apart_heap {S D : Nat → Prop} {A A' : World} {B k : Nat} {o : Obj} (ho : A.heap[k]? = some o) (c : Chg S A A') (hS : ∀ j, j < A.heap.size → S j → D j ∨ ((j = B ∨ j = B + 1) ∧ NonC A j)) (hD : ∀ j, D j → B + 2 ≤ j) (hk : k < B) : A'.heap[k]? = some o := by
  refine c.heap ho (fun h => ?_)
  rcases hS k (Array.getElem?_eq_some_iff.1 ho).1 h with h1 | h1
  · have := hD k h1; omega
  · omega
theorem apart_plus {D : Nat → Prop} {A A' : World} {B : Nat} (hD : ∀ j, D j → B + 2 ≤ j) (hz : B + 2 ≤ A.heap.size) : ∀ j, Plus D A A' j → B + 2 ≤ j := fun j h => h.elim (hD j) (fun h => by omega)

/-- 'out' (its box lies at bo) holds a row of the call's own, apart from the iterator's blocks. -/
def OutD (T e : TypeId) (size n0 bo B : Nat) (w0 : World) (D : Nat → Prop) (n : Nat) (cs : List Value) (W : World) : Prop :=
  ∃ ao cap, W.heap[bo]? = some (.cells #[.slice ao n cap] T (0, 0)) ∧ W.ownsRow n0 e size (.slice ao n cap) n cs ∧ (∀ k, (Value.slice ao n cap).ownBlock = some k → ¬ D k ∧ B + 2 ≤ k) ∧ Below n0 w0 W ∧ (∀ k, D k → B + 2 ≤ k ∧ k < W.heap.size) ∧ B + 2 ≤ W.heap.size
theorem OutD.far {T e : TypeId} {size n0 bo B : Nat} {w0 : World} {D : Nat → Prop} {n : Nat} {cs : List Value} {A : World} (h : OutD T e size n0 bo B w0 D n cs A) : ∀ k, D k → B + 2 ≤ k := by
  obtain ⟨ao, cap, g1, g2, g3, g4, g5, g6⟩ := h
  exact fun k hk => (g5 k hk).1
theorem OutD.chg {T e : TypeId} {size n0 bo B : Nat} {w0 : World} {D S : Nat → Prop} {n : Nat} {cs : List Value} {A A' : World} (h : OutD T e size n0 bo B w0 D n cs A) (c : Chg S A A') (hS : ∀ j, j < A.heap.size → S j → D j ∨ ((j = B ∨ j = B + 1) ∧ NonC A j)) (hbo : bo < B) (hn : n0 ≤ B) :
    OutD T e size n0 bo B w0 (Plus D A A') n cs A' := by
  obtain ⟨ao, cap, g1, g2, g3, g4, g5, g6⟩ := h
  refine ⟨ao, cap, apart_heap g1 c hS (fun k hk => (g5 k hk).1) hbo, c.owns g2 (fun k hk hs => ?_), fun k hk => ⟨fun hp => ?_, (g3 k hk).2⟩, ?_, fun k hk => ?_, Nat.le_trans g6 c.size⟩
  · rcases hS k (ownsRow_lt g2 k hk).2 hs with h1 | h1
    · exact (g3 k hk).1 h1
    · exact NonC.not_owns g2 hk h1.2
  · rcases hp with h1 | h1
    · exact (g3 k hk).1 h1
    · have := (ownsRow_lt g2 k hk).2; omega
  · refine g4.trans (c.below (by omega) (fun k hk hs => ?_))
    rcases hS k (by omega) hs with h1 | h1
    · have := (g5 k h1).1; omega
    · omega
  · have := c.size
    rcases hk with h1 | h1
    · have := g5 k h1; omega
    · omega
/-- Behind 'out = append(out, ..)'. -/
theorem outD_app {T e : TypeId} {size n0 bo B : Nat} {w0 : World} {D : Nat → Prop} {n m cap cap1 : Nat} {ao ao1 : Option Addr} {cs' : List Value} {W w1 : World} (hT : T ≠ e) (g1 : W.heap[bo]? = some (.cells #[.slice ao n cap] T (0, 0)))
    (g3 : ∀ k, (Value.slice ao n cap).ownBlock = some k → ¬ D k ∧ B + 2 ≤ k) (g4 : Below n0 w0 W) (g5 : ∀ k, D k → B + 2 ≤ k ∧ k < W.heap.size) (g6 : B + 2 ≤ W.heap.size)
    (hg : Chg (fun k => (Value.slice ao n cap).ownBlock = some k) W w1) (hown : w1.ownsRow n0 e size (.slice ao1 m cap1) m cs') (hat : ∀ k, (Value.slice ao1 m cap1).ownBlock = some k → (Value.slice ao n cap).ownBlock = some k ∨ W.heap.size ≤ k)
    (hbo : bo < B) (hn : n0 ≤ bo) :
    OutD T e size n0 bo B w0 D m cs' (w1.setCell ⟨bo, 0, none⟩ (.slice ao1 m cap1)) ∧ Kpt (fun k => k < n0 ∨ D k ∨ k = B ∨ k = B + 1) W (w1.setCell ⟨bo, 0, none⟩ (.slice ao1 m cap1)) := by
  have hb1 : w1.heap[bo]? = some (.cells #[.slice ao n cap] T (0, 0)) := hg.heap g1 (fun e => by have := (g3 _ e).2; omega)
  have c2 : Chg (fun k => (Value.slice ao n cap).ownBlock = some k ∨ k = bo) W (w1.setCell ⟨bo, 0, none⟩ (.slice ao1 m cap1)) := hg.trans (Chg.setCell w1 _ _) (fun _ _ h => .inl h) (fun _ _ h => .inr h)
  refine ⟨⟨ao1, cap1, heap_setCell_same hb1 _, (Chg.setCell w1 ⟨bo, 0, none⟩ _).owns hown (fun k hk e => by subst e; exact ownsRow_ne hown hb1 hT hk), fun k hk => ?_, ?_, fun k hk => ⟨(g5 k hk).1, Nat.lt_of_lt_of_le (g5 k hk).2 c2.size⟩, Nat.le_trans g6 c2.size⟩, ?_⟩
  · rcases hat k hk with h1 | h1
    · exact g3 k h1
    · exact ⟨fun h => by have := (g5 k h).2; omega, by omega⟩
  · refine g4.trans (c2.below (by omega) (fun k hk h => ?_))
    rcases h with h | h
    · have := (g3 k h).2; omega
    · omega
  · refine Kpt.of_chg c2 (fun k _ hr h => ?_)
    rcases h with h | h
    · have h3 := g3 k h
      rcases hr with h1 | h1 | h1 | h1
      · omega
      · exact h3.1 h1
      · omega
      · omega
    · rcases hr with h1 | h1 | h1 | h1
      · omega
      · have := (g5 k h1).1; omega
      · omega
      · omega
end Go.Proofs.YtjmmmpnpkialjaaDoor
