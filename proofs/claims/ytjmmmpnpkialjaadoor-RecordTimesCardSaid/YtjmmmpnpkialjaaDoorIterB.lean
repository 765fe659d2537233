/- A range over an iterator, where the loop's variable has a block of its own in each round, or none. Iterators whose things have rows of their own: what one promises (SeqE), and the law of a range over one. Conditions: the bytes read as said. -/
import Derived.Test.YtjmmmpnpkialjaaDoorIter
namespace Go.Proofs.YtjmmmpnpkialjaaDoor
open Go.RowKit Go.Shelf

/-- The frame at a round's beginning: what is told lies in the loop's parameters. -/
def told (ps : Array Tmp) (vs : Array Value) (t : Array Value) : Array Value := (ps.zip vs).foldl (fun t (p, v) => t.setIfInBounds p v) t

theorem told_one (p : Tmp) (v : Value) (t : Array Value) : told #[p] #[v] t = t.setIfInBounds p v := by simp [told]
theorem told_two (p q : Tmp) (v u : Value) (t : Array Value) : told #[p, q] #[v, u] t = (t.setIfInBounds p v).setIfInBounds q u := by simp [told]
theorem wpIn_range_box {F : Fence} {n : Nat} {P : Program} {α : Type} {g : Operand} {ps : Array Tmp} {assign body : Code} {Q : Exit → Act → World → Prop} {a : Act} {w : World}
    (hro : F.round = none) (h1 : 1 ≤ n) {gf : Nat} {lb : Array Value} (hg : a.eval g = .func (.func gf) #[] lb) (hFg : F.fn gf) (eg : ∀ args w, (callFunc gf args).run P w = .ok (.enter gf args) w)
    {encs : α → Array Value} {R : Nat → Prop} {zs : List α} {w0 : World} (hseq : SeqD F (n - 1) P gf lb encs R zs w0) (hw0 : Kpt R w0 w) (hR : ∀ k, R k → k < w.heap.size) (hps : ∀ x, (encs x).size = ps.size)
    (bs : Tmp) (T : TypeId) (cx : α → Array Value)
    (I : (Nat → Prop) → List α → World → Prop) (Ix : Code → (Nat → Prop) → List α → World → Prop) (hI : AbdD w.heap.size I) (hIx : ∀ c, AbdD w.heap.size (Ix c))
    (h0 : ∀ W, Chg (fun _ => False) w W → W.heap.size = w.heap.size + 2 → I (fun _ => False) [] W)
    (hIa : ∀ D s W o, I D s W → I D s (W.alloc o))
    (hassign : ∀ (l : Nat) (x : α) (W : World) (K : Act → World → Prop), K { tmps := (told ps (encs x) a.tmps).setIfInBounds bs (.pointer (some ⟨W.heap.size, 0, none⟩)), defers := [] } (W.alloc (.cells (cx x) T)) →
      assign.wpIn (F.inRound l) (n - 1 - 1) P (Exit.then K (fun _ _ _ => False)) { tmps := told ps (encs x) a.tmps, defers := [] } W)
    (hbody : ∀ (l : Nat) (D : Nat → Prop) (pre : List α) (x : α) (Bx : Nat) (W : World), l = w.heap.size + 1 → w.heap.size + 2 ≤ Bx → W.heap[Bx]? = some (.cells (cx x) T (0, 0)) → I D pre W → (pre ++ [x]) <+: zs → ¬ D w.heap.size → ¬ D (w.heap.size + 1) → NonC W w.heap.size → NonC W (w.heap.size + 1) →
      body.wpIn (F.inRound l) (n - 1 - 1) P (postD R D w.heap.size I Ix (pre ++ [x]) W) { tmps := (told ps (encs x) a.tmps).setIfInBounds bs (.pointer (some ⟨Bx, 0, none⟩)), defers := [] } W)
    (hdone : ∀ (D : Nat → Prop) (W : World), I D zs W → W.heap[w.heap.size]? = some (.deferred (some [])) → ¬ D w.heap.size → Q .normal { a with defers := { target := .collected w.heap.size, args := #[] } :: a.defers } W)
    (hstop : ∀ (D : Nat → Prop) (c : Code) (pre : List α) (W : World), pre <+: zs → Ix c D pre W → W.heap[w.heap.size]? = some (.deferred (some [])) → ¬ D w.heap.size → c.wpIn F n P Q { a with defers := { target := .collected w.heap.size, args := #[] } :: a.defers } W) :
    (Code.rangeFunc g ps assign body).wpIn F n P Q a w := by
  refine wpIn_range_D hro h1 hg hFg eg hseq hw0 hR hps I Ix hI hIx h0
    (fun x a' W => ∃ Bx, w.heap.size + 2 ≤ Bx ∧ W.heap[Bx]? = some (.cells (cx x) T (0, 0)) ∧ a' = { tmps := (told ps (encs x) a.tmps).setIfInBounds bs (.pointer (some ⟨Bx, 0, none⟩)), defers := [] })
    (fun x a' W W' h c _ => by obtain ⟨Bx, h1, h2, h3⟩ := h; exact ⟨Bx, h1, c.heap h2 (fun e => by omega), h3⟩) ?_ ?_ hdone hstop
  · intro l D pre x W K hi hpre hsz hK
    exact hassign l x W K (hK _ _ (Kpt.of_chg (Chg.alloc (fun _ => False) W _) (fun _ _ _ h => h)) (hIa _ _ _ _ hi) ⟨W.heap.size, hsz, heap_alloc_new W _, rfl⟩)
  · rintro l D pre x a' W hl ⟨r, hr⟩ hnc hi ⟨Bx, h1, h2, rfl⟩ hpre hd hd1
    exact hbody l D pre x Bx W hl h1 h2 hi hpre hd hd1 hnc ⟨_, hl ▸ hr, rfl⟩

theorem wpIn_range_plain {F : Fence} {n : Nat} {P : Program} {α : Type} {g : Operand} {ps : Array Tmp} {assign body : Code} {Q : Exit → Act → World → Prop} {a : Act} {w : World}
    (hro : F.round = none) (h1 : 1 ≤ n) {gf : Nat} {lb : Array Value} (hg : a.eval g = .func (.func gf) #[] lb) (hFg : F.fn gf) (eg : ∀ args w, (callFunc gf args).run P w = .ok (.enter gf args) w)
    {encs : α → Array Value} {R : Nat → Prop} {zs : List α} {w0 : World} (hseq : SeqD F (n - 1) P gf lb encs R zs w0) (hw0 : Kpt R w0 w) (hR : ∀ k, R k → k < w.heap.size) (hps : ∀ x, (encs x).size = ps.size)
    (fr : α → Array Value → Array Value)
    (I : (Nat → Prop) → List α → World → Prop) (Ix : Code → (Nat → Prop) → List α → World → Prop) (hI : AbdD w.heap.size I) (hIx : ∀ c, AbdD w.heap.size (Ix c))
    (h0 : ∀ W, Chg (fun _ => False) w W → W.heap.size = w.heap.size + 2 → I (fun _ => False) [] W)
    (hassign : ∀ (l : Nat) (x : α) (W : World) (K : Act → World → Prop), K { tmps := fr x (told ps (encs x) a.tmps), defers := [] } W →
      assign.wpIn (F.inRound l) (n - 1 - 1) P (Exit.then K (fun _ _ _ => False)) { tmps := told ps (encs x) a.tmps, defers := [] } W)
    (hbody : ∀ (l : Nat) (D : Nat → Prop) (pre : List α) (x : α) (W : World), l = w.heap.size + 1 → I D pre W → (pre ++ [x]) <+: zs → ¬ D w.heap.size → ¬ D (w.heap.size + 1) → NonC W w.heap.size → NonC W (w.heap.size + 1) →
      body.wpIn (F.inRound l) (n - 1 - 1) P (postD R D w.heap.size I Ix (pre ++ [x]) W) { tmps := fr x (told ps (encs x) a.tmps), defers := [] } W)
    (hdone : ∀ (D : Nat → Prop) (W : World), I D zs W → W.heap[w.heap.size]? = some (.deferred (some [])) → ¬ D w.heap.size → Q .normal { a with defers := { target := .collected w.heap.size, args := #[] } :: a.defers } W)
    (hstop : ∀ (D : Nat → Prop) (c : Code) (pre : List α) (W : World), pre <+: zs → Ix c D pre W → W.heap[w.heap.size]? = some (.deferred (some [])) → ¬ D w.heap.size → c.wpIn F n P Q { a with defers := { target := .collected w.heap.size, args := #[] } :: a.defers } W) :
    (Code.rangeFunc g ps assign body).wpIn F n P Q a w := by
  refine wpIn_range_D hro h1 hg hFg eg hseq hw0 hR hps I Ix hI hIx h0
    (fun x a' _ => a' = { tmps := fr x (told ps (encs x) a.tmps), defers := [] })
    (fun x a' W W' h _ _ => h) ?_ ?_ hdone hstop
  · intro l D pre x W K hi hpre hsz hK
    exact hassign l x W K (hK _ _ (Kpt.refl _ _) hi rfl)
  · rintro l D pre x a' W hl ⟨r, hr⟩ hnc hi rfl hpre hd hd1
    exact hbody l D pre x W hl hi hpre hd hd1 hnc ⟨_, hl ▸ hr, rfl⟩
end Go.Proofs.YtjmmmpnpkialjaaDoor
namespace Go.Proofs.YtjmmmpnpkialjaaDoor
open Go.RowKit Go.Shelf

/-- What a caller's word abides; the iterator says which of the blocks that it laid stay its own. -/
def AbdDE {α : Type} (B : Nat) (J : (Nat → Prop) → List α → World → Prop) : Prop :=
  ∀ D s W W' S D', J D s W → Chg S W W' → (∀ k, k < W.heap.size → S k → D k ∨ ((k = B ∨ k = B + 1) ∧ NonC W k)) → (∀ k, D k → D' k) → (∀ k, D' k → Plus D W W' k) → J D' s W'
def AbdE {α : Type} (J : (Nat → Prop) → List α → World → Prop) : Prop :=
  ∀ D s W W' S D', J D s W → Chg S W W' → (∀ k, k < W.heap.size → S k → D k) → (∀ k, D k → D' k) → (∀ k, D' k → Plus D W W' k) → J D' s W'
theorem AbdDE.s {α : Type} {B : Nat} {J : (Nat → Prop) → List α → World → Prop} (h : AbdDE B J) : AbdE J := fun D s W W' S D' hj hc hs h1 h2 => h D s W W' S D' hj hc (fun k hk hS => .inl (hs k hk hS)) h1 h2
theorem AbdE.s {α : Type} {J : (Nat → Prop) → List α → World → Prop} (h : AbdE J) : AbdS J := fun D s W W' S hj hc hs => h D s W W' S _ hj hc hs (fun _ h => .inl h) (fun _ h => h)
theorem AbdDE.put {α : Type} {B : Nat} {J : (Nat → Prop) → List α → World → Prop} (h : AbdDE B J) {D : Nat → Prop} {s : List α} {W : World} (hj : J D s W) {l : Nat} {o : Obj} (hl : l = B ∨ l = B + 1) (ho : W.heap[l]? = some o) (hc : o.isCells = false) (o' : Obj) : J D s (W.putObj l o') :=
  h D s W _ _ D hj (chg_putObj W l o') (fun k _ e => by subst e; exact .inr ⟨hl, o, ho, hc⟩) (fun _ h => h) (fun _ h => .inl h)
/-- THE PROMISE OF AN ITERATOR that tells zs (Enc: how a thing is told, D the blocks that stay its own), reads the blocks R, and turns none but those that it lays itself. -/
def SeqE {α : Type} (F : Fence) (n : Nat) (P : Program) (g : Nat) (lb : Array Value) (Enc : (Nat → Prop) → α → Array Value → World → Prop) (R : Nat → Prop) (zs : List α) (w : World) : Prop :=
  ∀ (l : Nat) (J Jx : (Nat → Prop) → List α → World → Prop) (W : World), Kpt R w W → AbdE J → AbdE Jx →
    (∀ D pre x args W1, J D pre W1 → Enc D x args W1 → (pre ++ [x]) <+: zs → YieldAt F (n - 1) P l args W1 fun e W' =>
      (e = .returned (.bool true) ∧ J D (pre ++ [x]) W' ∧ Kpt (fun k => R k ∨ D k) W1 W') ∨ (e = .returned (.bool false) ∧ Jx D (pre ++ [x]) W' ∧ Kpt (fun k => R k ∨ D k) W1 W')) →
    J (fun _ => False) [] W →
    CallsIn F n P g (#[.func (.yield l) #[] #[]] ++ lb) W fun e W' => (∃ v, e = .returned v) ∧ ((∃ D, J D zs W') ∨ (∃ D pre, pre <+: zs ∧ Jx D pre W'))
theorem SeqE.later {α : Type} {F : Fence} {n : Nat} {P : Program} {g : Nat} {lb : Array Value} {Enc : (Nat → Prop) → α → Array Value → World → Prop} {R : Nat → Prop} {zs : List α} {w w' : World} (h : SeqE F n P g lb Enc R zs w) (k : Kpt R w w') : SeqE F n P g lb Enc R zs w' :=
  fun l J Jx W hW hJ hJx hY h0 => h l J Jx W (k.trans hW) hJ hJx hY h0
theorem SeqE.any {α : Type} {n : Nat} (m : Nat) {P : Program} {g : Nat} {lb : Array Value} {Enc : (Nat → Prop) → α → Array Value → World → Prop} {R : Nat → Prop} {zs : List α} {w : World} (h : SeqE Fence.wide n P g lb Enc R zs w) : SeqE Fence.wide m P g lb Enc R zs w :=
  fun l J Jx W hW hJ hJx hY h0 => callsIn_wide.2 (callsIn_wide.1 (h l J Jx W hW hJ hJx (fun D pre x args W1 h1 h2 h3 => YieldAt.any rfl _ (hY D pre x args W1 h1 h2 h3)) h0))

/-- THE LAW OF A RANGE OVER SUCH AN ITERATOR (the loop stands in no other one's round). -/
theorem wpIn_range_E {F : Fence} {n : Nat} {P : Program} {α : Type} {g : Operand} {ps : Array Tmp} {assign body : Code} {Q : Exit → Act → World → Prop} {a : Act} {w : World}
    (hro : F.round = none) (h1 : 1 ≤ n) {gf : Nat} {lb : Array Value} (hg : a.eval g = .func (.func gf) #[] lb) (hFg : F.fn gf) (eg : ∀ args w, (callFunc gf args).run P w = .ok (.enter gf args) w)
    {Enc : (Nat → Prop) → α → Array Value → World → Prop} {R : Nat → Prop} {zs : List α} {w0 : World} (hseq : SeqE F (n - 1) P gf lb Enc R zs w0) (hw0 : Kpt R w0 w) (hR : ∀ k, R k → k < w.heap.size) (hps : ∀ D x args W, Enc D x args W → args.size = ps.size)
    (I : (Nat → Prop) → List α → World → Prop) (Ix : Code → (Nat → Prop) → List α → World → Prop) (hI : AbdDE w.heap.size I) (hIx : ∀ c, AbdDE w.heap.size (Ix c))
    (h0 : ∀ W, Chg (fun _ => False) w W → W.heap.size = w.heap.size + 2 → I (fun _ => False) [] W)
    (Ax : (Nat → Prop) → α → Act → World → Prop) (hAx : ∀ D x a' W W', Ax D x a' W → Chg (fun k => k = w.heap.size + 1) W W' → NonC W (w.heap.size + 1) → Ax D x a' W')
    (hassign : ∀ (l : Nat) (D : Nat → Prop) (pre : List α) (x : α) (args : Array Value) (W : World) (K : Act → World → Prop), I D pre W → Enc D x args W → (pre ++ [x]) <+: zs → w.heap.size + 2 ≤ W.heap.size →
      (∀ a' W', Kpt (fun k => R k ∨ D k ∨ k = w.heap.size ∨ k = w.heap.size + 1) W W' → I D pre W' → Ax D x a' W' → K a' W') →
      assign.wpIn (F.inRound l) (n - 1 - 1) P (Exit.then K (fun _ _ _ => False)) { tmps := (ps.zip args).foldl (fun t (p, v) => t.setIfInBounds p v) a.tmps, defers := [] } W)
    (hbody : ∀ (l : Nat) (D : Nat → Prop) (pre : List α) (x : α) (a' : Act) (W : World), l = w.heap.size + 1 → (∃ r, W.heap[l]? = some (.loop r)) → NonC W w.heap.size → I D pre W → Ax D x a' W → (pre ++ [x]) <+: zs → ¬ D w.heap.size → ¬ D (w.heap.size + 1) →
      body.wpIn (F.inRound l) (n - 1 - 1) P (postD R D w.heap.size I Ix (pre ++ [x]) W) a' W)
    (hdone : ∀ (D : Nat → Prop) (W : World), I D zs W → W.heap[w.heap.size]? = some (.deferred (some [])) → ¬ D w.heap.size → Q .normal { a with defers := { target := .collected w.heap.size, args := #[] } :: a.defers } W)
    (hstop : ∀ (D : Nat → Prop) (c : Code) (pre : List α) (W : World), pre <+: zs → Ix c D pre W → W.heap[w.heap.size]? = some (.deferred (some [])) → ¬ D w.heap.size → c.wpIn F n P Q { a with defers := { target := .collected w.heap.size, args := #[] } :: a.defers } W) :
    (Code.rangeFunc g ps assign body).wpIn F n P Q a w := by
  refine wpIn_rangeFunc ?_
  intro fn hfn
  rw [hro]
  obtain ⟨rec, hrec⟩ : ∃ rec : LoopState → Option Code → Loop, rec = fun st pe => { state := st, pending := pe, fn, tmps := a.tmps, params := ps, assign, body, defers := w.heap.size } := ⟨_, rfl⟩
  obtain ⟨W1, hW1⟩ : ∃ W1, (w.alloc (.deferred (some []))).alloc (.loop (rec .ready none)) = W1 := ⟨_, rfl⟩
  have hL1 : W1.heap[w.heap.size + 1]? = some (.loop (rec .ready none)) := by
    rw [← hW1]; have := World.alloc_heap_new (w.alloc (.deferred (some []))) (.loop (rec .ready none)); rwa [World.size_alloc] at this
  have hK1 : W1.heap[w.heap.size]? = some (.deferred (some [])) := by
    rw [← hW1]; exact (Below.heap_alloc _ _ _ (by simp)).trans (World.alloc_heap_new w _)
  have hc1 : Chg (fun _ => False) w W1 := by rw [← hW1]; exact (Chg.alloc (fun _ => False) w _).trans (Chg.alloc (fun _ => False) _ _) (fun _ _ h => h) (fun _ _ h => h)
  have hz1 : W1.heap.size = w.heap.size + 2 := by rw [← hW1]; simp
  refine ⟨w.heap.size + 1, [{ target := .collected w.heap.size, args := #[] }], W1, { target := .fn (.func gf) lb, args := #[.func (.yield (w.heap.size + 1)) #[] #[]] }, W1, gf,
    #[.func (.yield (w.heap.size + 1)) #[] #[]] ++ lb, W1, ?_, ?_, ?_, ?_, fun _ => h1, ?_⟩
  · rw [← hW1, hrec]; exact run_enterLoop_outer _ _ _ _ _
  · simp only [resolve, hg]
    simp [go_sem]
  · intro f' hf'; simp [Target.leads] at hf'; subst hf'; exact hFg
  · simp [invoke, go_sem, eg]
  · refine (hseq (w.heap.size + 1)
      (fun D pre W => I D pre W ∧ W.heap[w.heap.size + 1]? = some (.loop (rec .ready none)) ∧ W.heap[w.heap.size]? = some (.deferred (some [])) ∧ ¬ D w.heap.size ∧ ¬ D (w.heap.size + 1))
      (fun D pre W => ∃ c, Ix c D pre W ∧ W.heap[w.heap.size + 1]? = some (.loop (rec .done (some c))) ∧ W.heap[w.heap.size]? = some (.deferred (some [])) ∧ ¬ D w.heap.size ∧ ¬ D (w.heap.size + 1))
      W1 (hw0.trans (Kpt.of_chg hc1 (fun _ _ _ h => h))) ?_ ?_ ?_ ⟨h0 W1 hc1 hz1, hL1, hK1, fun h => h, fun h => h⟩).mono ?_
    · rintro D s A A' S D' ⟨hi, hl, hk, hd, hd1⟩ hc hS hs1 hs2
      have hlt := (Array.getElem?_eq_some_iff.1 hl).1
      exact ⟨hI.s D s A A' S D' hi hc hS hs1 hs2, hc.heap hl (fun h => hd1 (hS _ hlt h)), hc.heap hk (fun h => hd (hS _ (by omega) h)), fun h => (hs2 _ h).elim hd (fun h => by omega), fun h => (hs2 _ h).elim hd1 (fun h => by omega)⟩
    · rintro D s A A' S D' ⟨c, hi, hl, hk, hd, hd1⟩ hc hS hs1 hs2
      have hlt := (Array.getElem?_eq_some_iff.1 hl).1
      exact ⟨c, (hIx c).s D s A A' S D' hi hc hS hs1 hs2, hc.heap hl (fun h => hd1 (hS _ hlt h)), hc.heap hk (fun h => hd (hS _ (by omega) h)), fun h => (hs2 _ h).elim hd (fun h => by omega), fun h => (hs2 _ h).elim hd1 (fun h => by omega)⟩
    · rintro D pre x args W ⟨hi, hl, hk, hd, hd1⟩ henc hpre
      have hlt : w.heap.size + 1 < W.heap.size := (Array.getElem?_eq_some_iff.1 hl).1
      have hy := run_yield (P := P) (args := args) hl (by rw [hrec]; exact hps D x args W henc)
      rw [hrec] at hy
      refine ⟨fn, _, assign, body, hy, roundIn_of_wpIn hfn (hassign _ D pre x args W _ hi henc hpre (by omega) ?_)⟩
      clear hy
      intro a' Wa hca hia hax
      have hla := hca.heap hl (.inr (.inr (.inr rfl)))
      have hka := hca.heap hk (.inr (.inr (.inl rfl)))
      have hlta : w.heap.size + 1 < Wa.heap.size := (Array.getElem?_eq_some_iff.1 hla).1
      refine ⟨_, run_beginRound hla (by rw [hrec]), ?_⟩
      have hl2 : (Wa.putObj (w.heap.size + 1) (.loop { rec .ready none with state := .busy })).heap[w.heap.size + 1]? = some (.loop { rec .ready none with state := .busy }) := World.putObj_heap_same hlta
      have hk2 : (Wa.putObj (w.heap.size + 1) (.loop { rec .ready none with state := .busy })).heap[w.heap.size]? = some (.deferred (some [])) := (World.putObj_heap_other (by omega)).trans hka
      have hc2 := chg_putObj Wa (w.heap.size + 1) (.loop { rec .ready none with state := .busy })
      refine wpIn_mono (hbody _ D pre x a' _ rfl ⟨_, hl2⟩ ⟨_, hk2, rfl⟩ (hI.put hia (.inr rfl) hla rfl _) (hAx D x a' _ _ hax hc2 ⟨_, hla, rfl⟩) hpre hd hd1) ?_
      have fin : ∀ (jump : Option Code) (W3 : World), Kpt (fun k => R k ∨ D k ∨ k = w.heap.size ∨ k = w.heap.size + 1) (Wa.putObj (w.heap.size + 1) (.loop { rec .ready none with state := .busy })) W3 →
          (Instr.endRound (w.heap.size + 1) jump).run P W3 = .ok (.bool jump.isNone) (W3.putObj (w.heap.size + 1) (.loop (rec (if jump.isNone then .ready else .done) jump))) ∧
          W3.heap[w.heap.size + 1]? = some (.loop { rec .ready none with state := .busy }) ∧
          (W3.putObj (w.heap.size + 1) (.loop (rec (if jump.isNone then .ready else .done) jump))).heap[w.heap.size + 1]? = some (.loop (rec (if jump.isNone then .ready else .done) jump)) ∧
          (W3.putObj (w.heap.size + 1) (.loop (rec (if jump.isNone then .ready else .done) jump))).heap[w.heap.size]? = some (.deferred (some [])) ∧
          Kpt (fun k => R k ∨ D k) W (W3.putObj (w.heap.size + 1) (.loop (rec (if jump.isNone then .ready else .done) jump))) := fun jump W3 hc3 => by
        have hl3 := hc3.heap hl2 (.inr (.inr (.inr rfl)))
        have := run_endRound (P := P) jump hl3
        rw [hrec] at this ⊢
        refine ⟨this, by rw [hrec] at hl3; exact hl3, World.putObj_heap_same (Array.getElem?_eq_some_iff.1 hl3).1, (World.putObj_heap_other (by omega)).trans (hc3.heap hk2 (.inr (.inr (.inl rfl)))), ?_⟩
        have e1 : ∀ k, (R k ∨ D k) → k ≠ w.heap.size + 1 := fun k hr e => hr.elim (fun h => by have := hR k h; omega) (fun h => hd1 (e ▸ h))
        exact ((hca.mono (fun k hr => hr.elim .inl (fun h => .inr (.inl h)))).trans (Kpt.of_chg hc2 (fun k _ hr e => e1 k hr e))).trans ((hc3.mono (fun k hr => hr.elim .inl (fun h => .inr (.inl h)))).trans (Kpt.of_chg (chg_putObj W3 _ _) (fun k _ hr e => e1 k hr e)))
      rintro e a3 W3 hp
      cases e with
      | normal =>
        obtain ⟨hc3, hi3⟩ := hp
        obtain ⟨hr, hl3, hl4, hk4, hkp⟩ := fin none W3 hc3
        exact ⟨_, _, hr, .inl ⟨rfl, ⟨hI.put hi3 (.inr rfl) hl3 rfl _, hl4, hk4, hd, hd1⟩, hkp⟩⟩
      | ret =>
        obtain ⟨hc3, hi3⟩ := hp
        obtain ⟨hr, hl3, hl4, hk4, hkp⟩ := fin (some .ret) W3 hc3
        exact ⟨_, _, hr, .inr ⟨rfl, ⟨.ret, (hIx _).put hi3 (.inr rfl) hl3 rfl _, hl4, hk4, hd, hd1⟩, hkp⟩⟩
      | exit id =>
        obtain ⟨hc3, hi3⟩ := hp
        obtain ⟨hr, hl3, hl4, hk4, hkp⟩ := fin (some (.exit id)) W3 hc3
        exact ⟨_, _, hr, .inr ⟨rfl, ⟨.exit id, (hIx _).put hi3 (.inr rfl) hl3 rfl _, hl4, hk4, hd, hd1⟩, hkp⟩⟩
      | goto t =>
        obtain ⟨hc3, hi3⟩ := hp
        obtain ⟨hr, hl3, hl4, hk4, hkp⟩ := fin (some (.goto t)) W3 hc3
        exact ⟨_, _, hr, .inr ⟨rfl, ⟨.goto t, (hIx _).put hi3 (.inr rfl) hl3 rfl _, hl4, hk4, hd, hd1⟩, hkp⟩⟩
      | panic ch => exact hp.elim
      | outgrown => exact hp.elim
    · rintro e W2 ⟨⟨v, rfl⟩, (⟨D, hi, hl, hk, hd, hd1⟩ | ⟨D, pre, hpre, c, hi, hl, hk, hd, hd1⟩)⟩
      · exact ⟨none, _, by have := run_endLoop (P := P) hl (by rw [hrec]; simp); rw [hrec] at this; exact this, hdone D _ (hI.put hi (.inr rfl) hl rfl _) ((World.putObj_heap_other (by omega)).trans hk) hd⟩
      · exact ⟨some c, _, by have := run_endLoop (P := P) hl (by rw [hrec]; simp); rw [hrec] at this; exact this, hstop D c pre _ hpre ((hIx c).put hi (.inr rfl) hl rfl _) ((World.putObj_heap_other (by omega)).trans hk) hd⟩



/-- The same, where the loop's last variable has a block of its own in each round. -/
theorem wpIn_range_Eb {F : Fence} {n : Nat} {P : Program} {α β : Type} {g : Operand} {ps : Array Tmp} {assign body : Code} {Q : Exit → Act → World → Prop} {a : Act} {w : World}
    (hro : F.round = none) (h1 : 1 ≤ n) {gf : Nat} {lb : Array Value} (hg : a.eval g = .func (.func gf) #[] lb) (hFg : F.fn gf) (eg : ∀ args w, (callFunc gf args).run P w = .ok (.enter gf args) w)
    {Enc : (Nat → Prop) → α → Array Value → World → Prop} {R : Nat → Prop} {zs : List α} {w0 : World} (hseq : SeqE F (n - 1) P gf lb Enc R zs w0) (hw0 : Kpt R w0 w) (hR : ∀ k, R k → k < w.heap.size) (hps : ∀ D x args W, Enc D x args W → args.size = ps.size)
    (ag : β → Array Value) (Y : (Nat → Prop) → α → β → World → Prop) (hEnc : ∀ D x args W, Enc D x args W → ∃ y, args = ag y ∧ Y D x y W)
    (hY : ∀ D x y W W', Y D x y W → Chg (fun k => k = w.heap.size + 1) W W' → NonC W (w.heap.size + 1) → Y D x y W') (hYa : ∀ D x y W o, Y D x y W → Y D x y (W.alloc o))
    (T : TypeId) (cx : β → Array Value) (fr : β → Nat → Array Value → Array Value)
    (I : (Nat → Prop) → List α → World → Prop) (Ix : Code → (Nat → Prop) → List α → World → Prop) (hI : AbdDE w.heap.size I) (hIx : ∀ c, AbdDE w.heap.size (Ix c))
    (h0 : ∀ W, Chg (fun _ => False) w W → W.heap.size = w.heap.size + 2 → I (fun _ => False) [] W)
    (hIa : ∀ D s W o, I D s W → I D s (W.alloc o))
    (hassign : ∀ (l : Nat) (y : β) (W : World) (K : Act → World → Prop), K { tmps := fr y W.heap.size (told ps (ag y) a.tmps), defers := [] } (W.alloc (.cells (cx y) T)) →
      assign.wpIn (F.inRound l) (n - 1 - 1) P (Exit.then K (fun _ _ _ => False)) { tmps := told ps (ag y) a.tmps, defers := [] } W)
    (hbody : ∀ (l : Nat) (D : Nat → Prop) (pre : List α) (x : α) (y : β) (Bx : Nat) (W : World), l = w.heap.size + 1 → w.heap.size + 2 ≤ Bx → W.heap[Bx]? = some (.cells (cx y) T (0, 0)) → I D pre W → Y D x y W → (pre ++ [x]) <+: zs → ¬ D w.heap.size → ¬ D (w.heap.size + 1) → NonC W w.heap.size → NonC W (w.heap.size + 1) →
      body.wpIn (F.inRound l) (n - 1 - 1) P (postD R D w.heap.size I Ix (pre ++ [x]) W) { tmps := fr y Bx (told ps (ag y) a.tmps), defers := [] } W)
    (hdone : ∀ (D : Nat → Prop) (W : World), I D zs W → W.heap[w.heap.size]? = some (.deferred (some [])) → ¬ D w.heap.size → Q .normal { a with defers := { target := .collected w.heap.size, args := #[] } :: a.defers } W)
    (hstop : ∀ (D : Nat → Prop) (c : Code) (pre : List α) (W : World), pre <+: zs → Ix c D pre W → W.heap[w.heap.size]? = some (.deferred (some [])) → ¬ D w.heap.size → c.wpIn F n P Q { a with defers := { target := .collected w.heap.size, args := #[] } :: a.defers } W) :
    (Code.rangeFunc g ps assign body).wpIn F n P Q a w := by
  refine wpIn_range_E hro h1 hg hFg eg hseq hw0 hR hps I Ix hI hIx h0
    (fun D x a' W => ∃ y Bx, w.heap.size + 2 ≤ Bx ∧ W.heap[Bx]? = some (.cells (cx y) T (0, 0)) ∧ Y D x y W ∧ a' = { tmps := fr y Bx (told ps (ag y) a.tmps), defers := [] })
    (fun D x a' W W' h c hn => by obtain ⟨y, Bx, h1, h2, h3, h4⟩ := h; exact ⟨y, Bx, h1, c.heap h2 (fun e => by omega), hY _ _ _ _ _ h3 c hn, h4⟩) ?_ ?_ hdone hstop
  · intro l D pre x args W K hi he hpre hsz hK
    obtain ⟨y, rfl, hy⟩ := hEnc D x args W he
    exact hassign l y W K (hK _ _ (Kpt.of_chg (Chg.alloc (fun _ => False) W _) (fun _ _ _ h => h)) (hIa _ _ _ _ hi) ⟨y, W.heap.size, hsz, heap_alloc_new W _, hYa _ _ _ _ _ hy, rfl⟩)
  · rintro l D pre x a' W hl ⟨r, hr⟩ hnc hi ⟨y, Bx, h1, h2, h3, rfl⟩ hpre hd hd1
    exact hbody l D pre x y Bx W hl h1 h2 hi h3 hpre hd hd1 hnc ⟨_, hl ▸ hr, rfl⟩
end Go.Proofs.YtjmmmpnpkialjaaDoor
