/- A range over an iterator, where the loop's variable has a block of its own in each round, or none. Conditions: none. -/
import Derived.Test.YtnnkbicaokckbaaDoorIter
namespace Go.Proofs.YtnnkbicaokckbaaDoor
open Go.RowKit Go.Shelf

/-- The frame at a round's beginning: what is told lies in the loop's parameters. -/
def told (ps : Array Tmp) (vs : Array Value) (t : Array Value) : Array Value := (ps.zip vs).foldl (fun t (p, v) => t.setIfInBounds p v) t

theorem told_one (p : Tmp) (v : Value) (t : Array Value) : told #[p] #[v] t = t.setIfInBounds p v := by simp [told]
theorem told_two (p q : Tmp) (v u : Value) (t : Array Value) : told #[p, q] #[v, u] t = (t.setIfInBounds p v).setIfInBounds q u := by simp [told]
theorem wpIn_range_box {F : Fence} {n : Nat} {P : Program} {α : Type} {g : Operand} {ps : Array Tmp} {assign body : Code} {Q : Exit → Act → World → Prop} {a : Act} {w : World}
    (hro : F.round = none) (h1 : 1 ≤ n) {gf : Nat} {lb : Array Value} (hg : a.eval g = .func (.func gf) #[] lb) (hFg : F.fn gf) (eg : ∀ args w, (callFunc gf args).run P w = .ok (.enter gf args) w)
    {encs : α → Array Value} {R : Nat → Prop} {zs : List α} {w0 : World} (hseq : SeqD F (n - 1) P gf lb encs R zs w0) (hw0 : Kpt R w0 w) (hR : ∀ k, R k → k < w.heap.size) (hps : ∀ x, (encs x).size = ps.size)
    (bs : Tmp) (T : TypeId) (cx : α → Array Value)
    (I : (Nat → Prop) → List α → World → Prop) (Ix : Code → (Nat → Prop) → List α → World → Prop) (hI : AbdD w.heap.size I) (hIx : ∀ c, AbdD w.heap.size (Ix c))
    (h0 : ∀ W, Chg (fun _ => False) w W → W.heap.size = w.heap.size + 2 → I (fun _ => False) [] W)
    (hIa : ∀ D s W o, I D s W → I D s (W.alloc o))
    (hassign : ∀ (l : Nat) (x : α) (W : World) (K : Act → World → Prop), K { tmps := (told ps (encs x) a.tmps).setIfInBounds bs (.pointer (some ⟨W.heap.size, 0, none⟩)), defers := [] } (W.alloc (.cells (cx x) T)) →
      assign.wpIn (F.inRound l) (n - 1 - 1) P (Exit.then K (fun _ _ _ => False)) { tmps := told ps (encs x) a.tmps, defers := [] } W)
    (hbody : ∀ (l : Nat) (D : Nat → Prop) (pre : List α) (x : α) (Bx : Nat) (W : World), l = w.heap.size + 1 → w.heap.size + 2 ≤ Bx → W.heap[Bx]? = some (.cells (cx x) T (0, 0)) → I D pre W → (pre ++ [x]) <+: zs → ¬ D w.heap.size → ¬ D (w.heap.size + 1) → NonC W w.heap.size → NonC W (w.heap.size + 1) →
      body.wpIn (F.inRound l) (n - 1 - 1) P (postD R D w.heap.size I Ix (pre ++ [x]) W) { tmps := (told ps (encs x) a.tmps).setIfInBounds bs (.pointer (some ⟨Bx, 0, none⟩)), defers := [] } W)
    (hdone : ∀ (D : Nat → Prop) (W : World), I D zs W → W.heap[w.heap.size]? = some (.deferred (some [])) → ¬ D w.heap.size → Q .normal { a with defers := { target := .collected w.heap.size, args := #[] } :: a.defers } W)
    (hstop : ∀ (D : Nat → Prop) (c : Code) (pre : List α) (W : World), pre <+: zs → Ix c D pre W → W.heap[w.heap.size]? = some (.deferred (some [])) → ¬ D w.heap.size → c.wpIn F n P Q { a with defers := { target := .collected w.heap.size, args := #[] } :: a.defers } W) :
    (Code.rangeFunc g ps assign body).wpIn F n P Q a w := by
  refine wpIn_range_D hro h1 hg hFg eg hseq hw0 hR hps I Ix hI hIx h0
    (fun x a' W => ∃ Bx, w.heap.size + 2 ≤ Bx ∧ W.heap[Bx]? = some (.cells (cx x) T (0, 0)) ∧ a' = { tmps := (told ps (encs x) a.tmps).setIfInBounds bs (.pointer (some ⟨Bx, 0, none⟩)), defers := [] })
    (fun x a' W W' h c _ => by obtain ⟨Bx, h1, h2, h3⟩ := h; exact ⟨Bx, h1, c.heap h2 (fun e => by omega), h3⟩) ?_ ?_ hdone hstop
  · intro l D pre x W K hi hpre hsz hK
    exact hassign l x W K (hK _ _ (Kpt.of_chg (Chg.alloc (fun _ => False) W _) (fun _ _ _ h => h)) (hIa _ _ _ _ hi) ⟨W.heap.size, hsz, heap_alloc_new W _, rfl⟩)
  · rintro l D pre x a' W hl ⟨r, hr⟩ hnc hi ⟨Bx, h1, h2, rfl⟩ hpre hd hd1
    exact hbody l D pre x Bx W hl h1 h2 hi hpre hd hd1 hnc ⟨_, hl ▸ hr, rfl⟩

theorem wpIn_range_plain {F : Fence} {n : Nat} {P : Program} {α : Type} {g : Operand} {ps : Array Tmp} {assign body : Code} {Q : Exit → Act → World → Prop} {a : Act} {w : World}
    (hro : F.round = none) (h1 : 1 ≤ n) {gf : Nat} {lb : Array Value} (hg : a.eval g = .func (.func gf) #[] lb) (hFg : F.fn gf) (eg : ∀ args w, (callFunc gf args).run P w = .ok (.enter gf args) w)
    {encs : α → Array Value} {R : Nat → Prop} {zs : List α} {w0 : World} (hseq : SeqD F (n - 1) P gf lb encs R zs w0) (hw0 : Kpt R w0 w) (hR : ∀ k, R k → k < w.heap.size) (hps : ∀ x, (encs x).size = ps.size)
    (fr : α → Array Value → Array Value)
    (I : (Nat → Prop) → List α → World → Prop) (Ix : Code → (Nat → Prop) → List α → World → Prop) (hI : AbdD w.heap.size I) (hIx : ∀ c, AbdD w.heap.size (Ix c))
    (h0 : ∀ W, Chg (fun _ => False) w W → W.heap.size = w.heap.size + 2 → I (fun _ => False) [] W)
    (hassign : ∀ (l : Nat) (x : α) (W : World) (K : Act → World → Prop), K { tmps := fr x (told ps (encs x) a.tmps), defers := [] } W →
      assign.wpIn (F.inRound l) (n - 1 - 1) P (Exit.then K (fun _ _ _ => False)) { tmps := told ps (encs x) a.tmps, defers := [] } W)
    (hbody : ∀ (l : Nat) (D : Nat → Prop) (pre : List α) (x : α) (W : World), l = w.heap.size + 1 → I D pre W → (pre ++ [x]) <+: zs → ¬ D w.heap.size → ¬ D (w.heap.size + 1) → NonC W w.heap.size → NonC W (w.heap.size + 1) →
      body.wpIn (F.inRound l) (n - 1 - 1) P (postD R D w.heap.size I Ix (pre ++ [x]) W) { tmps := fr x (told ps (encs x) a.tmps), defers := [] } W)
    (hdone : ∀ (D : Nat → Prop) (W : World), I D zs W → W.heap[w.heap.size]? = some (.deferred (some [])) → ¬ D w.heap.size → Q .normal { a with defers := { target := .collected w.heap.size, args := #[] } :: a.defers } W)
    (hstop : ∀ (D : Nat → Prop) (c : Code) (pre : List α) (W : World), pre <+: zs → Ix c D pre W → W.heap[w.heap.size]? = some (.deferred (some [])) → ¬ D w.heap.size → c.wpIn F n P Q { a with defers := { target := .collected w.heap.size, args := #[] } :: a.defers } W) :
    (Code.rangeFunc g ps assign body).wpIn F n P Q a w := by
  refine wpIn_range_D hro h1 hg hFg eg hseq hw0 hR hps I Ix hI hIx h0
    (fun x a' _ => a' = { tmps := fr x (told ps (encs x) a.tmps), defers := [] })
    (fun x a' W W' h _ _ => h) ?_ ?_ hdone hstop
  · intro l D pre x W K hi hpre hsz hK
    exact hassign l x W K (hK _ _ (Kpt.refl _ _) hi rfl)
  · rintro l D pre x a' W hl ⟨r, hr⟩ hnc hi rfl hpre hd hd1
    exact hbody l D pre x W hl hi hpre hd hd1 hnc ⟨_, hl ▸ hr, rfl⟩
end Go.Proofs.YtnnkbicaokckbaaDoor
