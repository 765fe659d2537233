/- General words on worlds: what a call may change (Chg), what a slice reads as; no program is named. Conditions: none. -/
import Derived.WalkKit
import Derived.WalkSpells
import Derived.WalkLawsBesides
import Derived.OneCell
import Derived.Maps.AppendAt
import Derived.Laws.AppendOwnNone
import Derived.KernelRfl
import Derived.RangeFuncRecord
namespace Go.Proofs.YtjmmmpnpkialjaaDoor
open Go.RowKit

theorem hide {p : Prop} (h : p) : Hid p := h

/-- Of the blocks that lay only those in S may have turned. -/
structure Chg (S : Nat → Prop) (w w' : World) : Prop where
  os : w'.os = w.os
  tape : w'.tape = w.tape
  output : w'.output = w.output
  size : w.heap.size ≤ w'.heap.size
  block : ∀ k, k < w.heap.size → ¬ S k → w'.heap[k]? = w.heap[k]?

theorem Chg.refl (S : Nat → Prop) (w : World) : Chg S w w := ⟨rfl, rfl, rfl, Nat.le_refl _, fun _ _ _ => rfl⟩
theorem Chg.trans {S S' S'' : Nat → Prop} {a b c : World} (h : Chg S a b) (k : Chg S' b c) (h1 : ∀ i, i < a.heap.size → S i → S'' i) (h2 : ∀ i, i < a.heap.size → S' i → S'' i) : Chg S'' a c :=
  ⟨k.os.trans h.os, k.tape.trans h.tape, k.output.trans h.output, Nat.le_trans h.size k.size,
   fun i hi hn => (k.block i (Nat.lt_of_lt_of_le hi h.size) (fun s => hn (h2 i hi s))).trans (h.block i hi (fun s => hn (h1 i hi s)))⟩
theorem Chg.mono {S S' : Nat → Prop} {a b : World} (h : Chg S a b) (h1 : ∀ i, i < a.heap.size → S i → S' i) : Chg S' a b := h.trans (Chg.refl S' b) h1 (fun _ _ s => s)
theorem Chg.of_below {n : Nat} {w w' : World} (h : Below n w w') : Chg (fun k => n ≤ k) w w' :=
  ⟨h.os, h.tape, h.output, h.size, fun k _ hn => h.block k (by omega)⟩
theorem Chg.of_below0 {S : Nat → Prop} {w w' : World} (h : Below w.heap.size w w') : Chg S w w' :=
  ⟨h.os, h.tape, h.output, h.size, fun k hk _ => h.block k hk⟩
theorem Chg.below {S : Nat → Prop} {n : Nat} {w w' : World} (h : Chg S w w') (hn : n ≤ w.heap.size) (hs : ∀ k, k < n → ¬ S k) : Below n w w' :=
  ⟨h.os, h.tape, h.output, h.size, fun k hk => h.block k (by omega) (hs k hk)⟩
theorem Chg.grown {row : Option Nat} {w w' : World} (h : w.grownBy w' row) : Chg (fun k => some k = row) w w' := ⟨h.os, h.tape, h.output, h.size, fun k hk hn => h.block k hk hn⟩
theorem Chg.alloc (S : Nat → Prop) (w : World) (o : Obj) : Chg S w (w.alloc o) := ⟨rfl, rfl, rfl, by simp, fun k hk _ => Below.heap_alloc _ _ _ hk⟩
theorem Chg.drew (S : Nat → Prop) (w : World) : Chg S w w.drew := ⟨rfl, rfl, rfl, Nat.le_refl _, fun _ _ _ => rfl⟩
theorem Chg.drewN (S : Nat → Prop) (w : World) (n : Nat) : Chg S w (w.drewN n) := ⟨rfl, rfl, rfl, Nat.le_refl _, fun _ _ _ => rfl⟩
theorem Chg.of_drewN {S : Nat → Prop} {w w' : World} {n : Nat} (h : Chg S (w.drewN n) w') : Chg S w w' := ⟨h.os, h.tape, h.output, h.size, h.block⟩
theorem bdrewN {B : Nat} {w w' : World} (h : Below B w w') (n : Nat) : Below B w (w'.drewN n) := ⟨h.os, h.tape, h.output, h.size, h.block⟩
theorem below_of_drewN {B : Nat} {w w' : World} {n : Nat} (h : Below B (w.drewN n) w') : Below B w w' := ⟨h.os, h.tape, h.output, h.size, h.block⟩
theorem Chg.setCell (w : World) (a : Addr) (v : Value) : Chg (fun k => k = a.block) w (w.setCell a v) :=
  ⟨rfl, rfl, rfl, by simp [World.setCell], fun k _ hn => Below.heap_setCell _ _ _ _ hn⟩
theorem Chg.heap {S : Nat → Prop} {w w' : World} (h : Chg S w w') {b : Nat} {o : Obj} (ho : w.heap[b]? = some o) (hs : ¬ S b) : w'.heap[b]? = some o :=
  (h.block b (Array.getElem?_eq_some_iff.1 ho).1 hs).trans ho
theorem Chg.cell {S : Nat → Prop} {w w' : World} (h : Chg S w w') {a : Addr} {v : Value} (ho : w.cell? a = some v) (hs : ¬ S a.block) : w'.cell? a = some v :=
  (World.cell?_of_block (h.block a.block (World.block_lt_of_cell? w a ho) hs)).trans ho
theorem Chg.owns {S : Nat → Prop} {w w' : World} (h : Chg S w w') {base : Nat} {e : TypeId} {size : Nat} {v : Value} {n : Nat} {xs : List Value} (ho : w.ownsRow base e size v n xs)
    (hs : ∀ b, v.ownBlock = some b → ¬ S b) : w'.ownsRow base e size v n xs := by
  refine ⟨ho.1, ?_⟩
  rcases ho.2 with hn | ⟨g, cap, cur, rfl, hb, hgg, rest⟩
  · exact .inl hn
  · exact .inr ⟨g, cap, cur, rfl, hb, h.heap hgg (hs g rfl), rest⟩

/-- The cells cs lie at block b from off on. -/
def CellsAt (w : World) (b off : Nat) (cs : List Value) : Prop := ∀ j u, cs[j]? = some u → w.cell? ⟨b, off + j, none⟩ = some u
theorem CellsAt.chg {S : Nat → Prop} {w w' : World} {b off : Nat} {cs : List Value} (h : CellsAt w b off cs) (c : Chg S w w') (hs : cs ≠ [] → ¬ S b) : CellsAt w' b off cs :=
  fun j u hu => c.cell (h j u hu) (hs (by rintro rfl; simp at hu))
theorem CellsAt.of_heap {w : World} {b : Nat} {cur : Array Value} {e : TypeId} {fr : Nat × Nat} (h : w.heap[b]? = some (.cells cur e fr)) (off n : Nat) : CellsAt w b off ((cur.toList.drop off).take n) := by
  intro j u hu
  rw [List.getElem?_take] at hu
  split at hu
  · simp only [List.getElem?_drop] at hu
    simp [World.cell?, h]
    simpa using hu
  · cases hu

/-- The value v is a slice of n elements whose cells are cs (nil: of none; of an empty one without room nothing is said where it lies). -/
def Rd (w : World) (v : Value) (n : Nat) (cs : List Value) : Prop :=
  (v = .slice none 0 0 ∧ n = 0 ∧ cs = []) ∨ ∃ a cap, v = .slice (some a) n cap ∧ n ≤ cap ∧ ((a.spot = none ∧ CellsAt w a.block a.off cs) ∨ (n = 0 ∧ cap = 0 ∧ cs = []))
theorem Rd.nil (w : World) : Rd w (.slice none 0 0) 0 [] := .inl ⟨rfl, rfl, rfl⟩
theorem Rd.mk {w : World} {b off n cap : Nat} {cs : List Value} (hc : n ≤ cap) (h : CellsAt w b off cs) : Rd w (.slice (some ⟨b, off, none⟩) n cap) n cs := .inr ⟨_, cap, rfl, hc, .inl ⟨rfl, h⟩⟩
theorem Rd.chg {S : Nat → Prop} {w w' : World} {v : Value} {n : Nat} {cs : List Value} (h : Rd w v n cs) (c : Chg S w w') (hs : ∀ b, v.ownBlock = some b → cs ≠ [] → ¬ S b) : Rd w' v n cs := by
  rcases h with h | ⟨a, cap, rfl, hc, ⟨ha, h⟩ | h⟩
  · exact .inl h
  · exact .inr ⟨a, cap, rfl, hc, .inl ⟨ha, h.chg c (hs a.block rfl)⟩⟩
  · exact .inr ⟨a, cap, rfl, hc, .inr h⟩
theorem Rd.of_owns {w : World} {base : Nat} {e : TypeId} {size : Nat} {v : Value} {n : Nat} {xs : List Value} (h : w.ownsRow base e size v n xs) : Rd w v n xs := by
  rcases h.2 with ⟨rfl, rfl⟩ | ⟨g, cap, cur, rfl, hb, hgg, hnc, _, _, ht⟩
  · exact .inl ⟨rfl, rfl, List.eq_nil_of_length_eq_zero (by simpa using h.1)⟩
  · refine Rd.mk hnc ?_
    have := CellsAt.of_heap hgg 0 (n * size)
    simpa [ht] using this
theorem Rd.shape {w : World} {v : Value} {n : Nat} {cs : List Value} (h : Rd w v n cs) : ∃ ao cap, v = .slice ao n cap ∧ n ≤ cap ∧ (0 < n → ∃ b off, ao = some ⟨b, off, none⟩ ∧ CellsAt w b off cs) := by
  rcases h with ⟨rfl, rfl, rfl⟩ | ⟨⟨b, off, sp⟩, cap, rfl, hc, ⟨ha, h⟩ | ⟨rfl, rfl, rfl⟩⟩
  · exact ⟨none, 0, rfl, Nat.le_refl _, fun h => absurd h (by omega)⟩
  · obtain rfl : sp = none := ha
    exact ⟨_, cap, rfl, hc, fun _ => ⟨b, off, rfl, h⟩⟩
  · exact ⟨_, 0, rfl, hc, fun h => absurd h (by omega)⟩
theorem Rd.drewN {w : World} {v : Value} {n : Nat} {cs : List Value} (h : Rd w v n cs) (k : Nat) : Rd (w.drewN k) v n cs := h
theorem Rd.add {w : World} {a : Addr} {n cap : Nat} {cs : List Value} (h : Rd w (.slice (some a) n cap) n cs) : ∀ j u, cs[j]? = some u → w.cell? (a.add j) = some u := by
  intro j u hu
  rcases h with ⟨e, _⟩ | ⟨⟨b, off, sp⟩, cap, e, hc, ⟨ha, h⟩ | ⟨_, _, rfl⟩⟩
  · cases e
  · cases e
    obtain rfl : sp = none := ha
    rw [Addr.add_lit]
    exact h j u hu
  · simp at hu

/-- The slice type t has elements of type e: their zero value, how many cells, how many bytes. -/
structure SlT (P : Program) (t e : TypeId) (z : Value) (size bytes : Nat) : Prop where
  under : P.underlying t = some (.slice e)
  info : (P.info? e).map (fun i => (i.zero, i.size, i.bytes)) = some (some z, size, bytes)
  zsize : z.cells.size = size
  pos : 0 < size

theorem ownsRow_shape {w : World} {base : Nat} {e : TypeId} {size : Nat} {v : Value} {n : Nat} {xs : List Value} (h : w.ownsRow base e size v n xs) : ∃ ao cap, v = .slice ao n cap := by
  rcases h.2 with ⟨rfl, rfl⟩ | ⟨g, cap, cur, rfl, _⟩
  · exact ⟨_, _, rfl⟩
  · exact ⟨_, _, rfl⟩
theorem ownsRow_cap {w : World} {base : Nat} {e : TypeId} {size : Nat} {ao : Option Addr} {n c cap : Nat} {xs : List Value} (h : w.ownsRow base e size (.slice ao n cap) c xs) : n ≤ cap := by
  rcases h.2 with ⟨e, _⟩ | ⟨g, cap', cur, e, _, _, hnc, _⟩
  · cases e; exact Nat.le_refl _
  · cases e; exact hnc
/-- The first elements of an owned row. -/
theorem ownsRow_take {w : World} {base : Nat} {e : TypeId} {size : Nat} {ao : Option Addr} {n cap : Nat} {xs : List Value} (h : w.ownsRow base e size (.slice ao n cap) n xs) (m : Nat) (hm : m ≤ n) : w.ownsRow base e size (.slice ao m cap) m (xs.take (m * size)) := by
  have hms : m * size ≤ n * size := Nat.mul_le_mul_right _ hm
  refine ⟨by rw [List.length_take, h.1]; omega, ?_⟩
  rcases h.2 with ⟨e, rfl⟩ | ⟨g, cap', cur, e, hb, hg, hnc, hcm, hcs, ht⟩
  · cases e
    obtain rfl : m = 0 := by omega
    exact .inl ⟨rfl, rfl⟩
  · cases e
    exact .inr ⟨g, cap, cur, rfl, hb, hg, by omega, hcm, hcs, by rw [← ht, List.take_take]; congr 1; omega⟩
theorem ownsRow_lt {w : World} {base : Nat} {e : TypeId} {size : Nat} {v : Value} {n : Nat} {xs : List Value} (h : w.ownsRow base e size v n xs) : ∀ k, v.ownBlock = some k → base ≤ k ∧ k < w.heap.size := by
  intro k hk
  rcases h.2 with ⟨rfl, rfl⟩ | ⟨g, cap, cur, rfl, hb, hg, _⟩
  · cases hk
  · cases hk
    exact ⟨hb, (Array.getElem?_eq_some_iff.1 hg).1⟩
theorem ownsRow_base {w : World} {base base' : Nat} {e : TypeId} {size : Nat} {v : Value} {n : Nat} {xs : List Value} (h : w.ownsRow base e size v n xs) (hb : ∀ k, v.ownBlock = some k → base' ≤ k) : w.ownsRow base' e size v n xs := by
  refine ⟨h.1, ?_⟩
  rcases h.2 with hn | ⟨g, cap, cur, rfl, _, rest⟩
  · exact .inl hn
  · exact .inr ⟨g, cap, cur, rfl, hb g rfl, rest⟩
/-- A row of one element type is no block of another. -/
theorem ownsRow_ne {w : World} {base : Nat} {e : TypeId} {size : Nat} {v : Value} {n : Nat} {xs : List Value} (h : w.ownsRow base e size v n xs) {p : Nat} {cs : Array Value} {T : TypeId} {fr : Nat × Nat}
    (hp : w.heap[p]? = some (.cells cs T fr)) (hT : T ≠ e) : v.ownBlock ≠ some p := by
  intro hv
  rcases h.2 with ⟨rfl, rfl⟩ | ⟨g, cap, cur, rfl, hb, hg, _⟩
  · cases hv
  · cases hv
    rw [hp] at hg
    cases hg
    exact hT rfl

/-- append onto a slice that is the call's own, of whatever source: what it gives, and where it lies. -/
theorem wpl_append {P : Program} {w : World} {ops : Array Oper} {rest : List Oper} {o : Oper} {a : Act} {Q : Exit → Act → World → Prop} (hgd : o.guard = none) (s x : Operand) (t : TypeId)
    (ho : o.op = .call { callee := .builtin .append, args := #[s, x], argTypes := #[t, t] })
    {e : TypeId} {z : Value} {size bytes : Nat} (hT : SlT P t e z size bytes) (base : Nat) {v : Value} {n : Nat} {xs : List Value} (hown : w.ownsRow base e size v n xs)
    {vx : Value} {m : Nat} {news : List Value} (hr : Rd w vx m news) (hs : a.eval s = v) (hx : a.eval x = vx) (hl : news.length = m * size) (h1 : ∀ u ∈ news, u.oneCell' = true)
    (h63 : n + m ≤ maxLen) (hbytes : (n + m) * bytes ≤ 140737488355328) (hbase : base ≤ w.heap.size)
    (h : ∀ ao cap w', w'.ownsRow base e size (.slice ao (n + m) cap) (n + m) (xs ++ news) → Chg (fun k => v.ownBlock = some k) w w' → ((Value.slice ao (n + m) cap).ownBlock = v.ownBlock ∨ (Value.slice ao (n + m) cap).ownBlock = some w.heap.size) →
      (ao = none ↔ v = .slice none 0 0 ∧ m = 0) → wpList P ops Q rest (a.put o.dst (.slice ao (n + m) cap)) w') :
    wpList P ops Q (o :: rest) a w := by
  obtain ⟨i, hi, hz, hsz, hby⟩ := info_parts hT.info
  have hra := hr
  rcases hr with ⟨rfl, rfl, rfl⟩ | ⟨ad, cap, rfl, hc, -⟩
  · obtain ⟨ao, cap, rfl⟩ := ownsRow_shape hown
    refine wpList_append_own_none hgd s x t ho base e i size hT.under hi _ n xs hs hown hx ?_
    have := h ao cap w (by simpa using hown) (Chg.refl _ _) (.inl rfl) ?_
    · simpa using this
    · rcases hown.2 with ⟨e1, rfl⟩ | ⟨g, cap', cur, e1, _⟩
      · cases e1; simp
      · cases e1; simp
  · refine wpList_append_own_at w hgd s x t ho base e i z size bytes hT.under hi hz hsz hby hT.zsize hT.pos v n xs hs hown ad m cap news hx hl
      hra.add h1 h63 hbytes hbase ?_
    intro v' w' hown' hg hnil hat
    obtain ⟨ao, cap', rfl⟩ := ownsRow_shape hown'
    refine h ao cap' w' hown' ⟨hg.os, hg.tape, hg.output, hg.size, fun k hk hn => hg.block k hk (fun e => hn e.symm)⟩ hat ?_
    rw [← hnil]
    constructor
    · rintro rfl
      rcases hown'.2 with ⟨e1, _⟩ | ⟨g, cap', cur, e1, _⟩
      · exact e1
      · cases e1
    · intro e1; injection e1

/-- The same onto a slice without elements. -/
theorem wpl_append0 {P : Program} {w : World} {ops : Array Oper} {rest : List Oper} {o : Oper} {a : Act} {Q : Exit → Act → World → Prop} (hgd : o.guard = none) (s x : Operand) (t : TypeId)
    (ho : o.op = .call { callee := .builtin .append, args := #[s, x], argTypes := #[t, t] })
    {e : TypeId} {z : Value} {size bytes : Nat} (hT : SlT P t e z size bytes) (base : Nat) {v : Value} (hown : w.ownsRow base e size v 0 [])
    {vx : Value} {m : Nat} {news : List Value} (hr : Rd w vx m news) (hs : a.eval s = v) (hx : a.eval x = vx) (hl : news.length = m * size) (h1 : ∀ u ∈ news, u.oneCell' = true)
    (hbytes : m * bytes ≤ 140737488355328) (h63 : m ≤ maxLen) (hbase : base ≤ w.heap.size)
    (h : ∀ ao cap w', w'.ownsRow base e size (.slice ao m cap) m news → Chg (fun k => v.ownBlock = some k) w w' → ((Value.slice ao m cap).ownBlock = v.ownBlock ∨ (Value.slice ao m cap).ownBlock = some w.heap.size) →
      (ao = none ↔ v = .slice none 0 0 ∧ m = 0) → wpList P ops Q rest (a.put o.dst (.slice ao m cap)) w') :
    wpList P ops Q (o :: rest) a w := by
  refine wpl_append hgd s x t ho hT base hown hr hs hx hl h1 (by omega) (by simpa using hbytes) hbase ?_
  intro ao cap w' h1 h2 h3 h4
  simp only [Nat.zero_add, List.nil_append] at h1 h3 ⊢
  exact h ao cap w' h1 h2 h3 h4

/-- append within the capacity: the value is known. -/
theorem wpl_append_fits {P : Program} {w : World} {ops : Array Oper} {rest : List Oper} {o : Oper} {a : Act} {Q : Exit → Act → World → Prop} (hgd : o.guard = none) (s x : Operand) (t : TypeId)
    (ho : o.op = .call { callee := .builtin .append, args := #[s, x], argTypes := #[t, t] })
    {e : TypeId} {z : Value} {size bytes : Nat} (hT : SlT P t e z size bytes) (base : Nat) {g n cap : Nat} {xs : List Value} (hown : w.ownsRow base e size (.slice (some ⟨g, 0, none⟩) n cap) n xs)
    {vx : Value} {m : Nat} {news : List Value} (hr : Rd w vx m news) (hs : a.eval s = .slice (some ⟨g, 0, none⟩) n cap) (hx : a.eval x = vx) (hl : news.length = m * size) (h1 : ∀ u ∈ news, u.oneCell' = true)
    (hfit : n + m ≤ cap)
    (h : ∀ w', w'.ownsRow base e size (.slice (some ⟨g, 0, none⟩) (n + m) cap) (n + m) (xs ++ news) → Chg (fun k => k = g) w w' → wpList P ops Q rest (a.put o.dst (.slice (some ⟨g, 0, none⟩) (n + m) cap)) w') :
    wpList P ops Q (o :: rest) a w := by
  obtain ⟨i, hi, hz, hsz, hby⟩ := info_parts hT.info
  have key : ∀ ao c, vx = .slice ao m c → (ao = none → m = 0 ∧ c = 0) → (∀ ad, ao = some ad → ∀ j u, news[j]? = some u → w.cell? (ad.add j) = some u) → wpList P ops Q (o :: rest) a w := by
    intro ao c hv hn hc
    refine wpList_append_fits_any w hgd s x t ho base e i size hT.under hi hsz g n cap xs hs hown ao m c news (hx.trans hv) hl hn hc h1 hfit ?_
    intro w' hown' hg
    exact h w' hown' ⟨hg.os, hg.tape, hg.output, hg.size, fun k hk hn => hg.block k hk (fun e => hn (by cases e; rfl))⟩
  have hra := hr
  rcases hr with ⟨rfl, rfl, rfl⟩ | ⟨ad, c, rfl, hc, -⟩
  · exact key none 0 rfl (fun _ => ⟨rfl, rfl⟩) (fun _ h => by cases h)
  · refine key _ c rfl (fun h => by cases h) (fun ad had => ?_)
    cases had
    exact hra.add

/-- A literal's row reads as its cells. -/
theorem Rd_lit (w : World) (cs : Array Value) (e : TypeId) (n : Nat) : Rd (w.alloc (.cells cs e)) (.slice (some ⟨w.heap.size, 0, none⟩) n n) n cs.toList := by
  refine Rd.mk (Nat.le_refl _) ?_
  have := CellsAt.of_heap (World.alloc_heap_new w (.cells cs e)) 0 cs.size
  rwa [List.drop_zero, List.take_of_length_le (by simp)] at this

/-- A store into a block's cell, as a block. -/
theorem heap_setCell_same {w : World} {b i : Nat} {cs : Array Value} {T : TypeId} {fr : Nat × Nat} (h : w.heap[b]? = some (.cells cs T fr)) (v : Value) :
    (w.setCell ⟨b, i, none⟩ v).heap[b]? = some (.cells (cs.setIfInBounds i v) T fr) := by
  obtain ⟨hlt, hb⟩ := Array.getElem?_eq_some_iff.1 h
  show (w.heap.modify b _)[b]? = _
  rw [Array.getElem?_eq_getElem (by rw [Array.size_modify]; exact hlt), Array.getElem_modify_self, hb]
  simp
theorem cell_of_heap {w : World} {b : Nat} {cs : Array Value} {T : TypeId} {fr : Nat × Nat} (h : w.heap[b]? = some (.cells cs T fr)) (i : Nat) : w.cell? ⟨b, i, none⟩ = cs[i]? := by
  simp [World.cell?, h]
theorem cell_some {w : World} {b : Nat} {cs : Array Value} {T : TypeId} {fr : Nat × Nat} (h : w.heap[b]? = some (.cells cs T fr)) (i : Nat) (hi : i < cs.size) : ∃ u, w.cell? ⟨b, i, none⟩ = some u :=
  ⟨cs[i], by rw [cell_of_heap h, Array.getElem?_eq_getElem hi]⟩
theorem free_of_heap {w : World} {b : Nat} {cs : Array Value} {T : TypeId} (h : w.heap[b]? = some (.cells cs T (0, 0))) (i : Nat) : w.frozen? ⟨b, i, none⟩ = false := by
  simp [World.frozen?, h]
theorem ownsRow_empty {w : World} {b base : Nat} {e : TypeId} (size : Nat) (h : w.heap[b]? = some (.cells #[] e (0, 0))) (hb : base ≤ b) : w.ownsRow base e size (.slice (some ⟨b, 0, none⟩) 0 0) 0 [] :=
  ⟨by simp, .inr ⟨b, 0, #[], rfl, hb, h, by omega, by unfold maxLen; omega, by simp, by simp⟩⟩
theorem heap_alloc_new (w : World) (o : Obj) : (w.alloc o).heap[w.heap.size]? = some o := World.alloc_heap_new w o

theorem take_set_snoc {α : Type} {L M : List α} {n : Nat} {x : α} (h : n < L.length) (ht : L.take n = M) : (L.set n x).take (n + 1) = M ++ [x] := by
  subst ht
  rw [List.take_succ_eq_append_getElem (by simpa using h), List.take_set_of_le (Nat.le_refl _)]
  simp

def u8s (xs : List UInt8) : List Value := xs.map fun x => .int .u8 (x.toNat : Int)
def i64s (xs : List Int) : List Value := xs.map (Value.int .i64)
theorem u8s_length (xs : List UInt8) : (u8s xs).length = xs.length := by simp [u8s]
theorem u8s_len1 (xs : List UInt8) : (u8s xs).length = xs.length * 1 := by simp [u8s]
theorem u8s_take (xs : List UInt8) (n : Nat) : (u8s xs).take n = u8s (xs.take n) := by simp [u8s, List.map_take]
theorem u8s_append (xs ys : List UInt8) : u8s (xs ++ ys) = u8s xs ++ u8s ys := by simp [u8s]
theorem u8s_one (xs : List UInt8) : ∀ u ∈ u8s xs, u.oneCell' = true := by
  intro u hu
  obtain ⟨_, _, rfl⟩ := List.mem_map.1 hu
  rfl
theorem u8s_getElem? (xs : List UInt8) (j : Nat) (h : j < xs.length) : (u8s xs)[j]? = some (.int .u8 (xs[j]).toNat) := by simp [u8s, h]
theorem u8_inj (a b : UInt8) (h : Value.int .u8 (a.toNat : Int) = Value.int .u8 (b.toNat : Int)) : a = b := by
  injection h with _ h
  exact UInt8.toNat_inj.1 (by omega)
theorem u8s_inj {xs ys : List UInt8} (h : u8s xs = u8s ys) : xs = ys := by
  induction xs generalizing ys with
  | nil => cases ys with
    | nil => rfl
    | cons => simp [u8s] at h
  | cons x xs ih => cases ys with
    | nil => simp [u8s] at h
    | cons y ys =>
      simp only [u8s, List.map_cons, List.cons.injEq] at h
      rw [u8_inj _ _ h.1, ih h.2]

theorem ret_bool {a b : Bool} (h : a = b) : Ending.returned (.bool a) = .returned (.bool b) := by rw [h]
theorem ret_int {k : IntKind} {a b : Int} (h : a = b) : Ending.returned (.int k a) = .returned (.int k b) := by rw [h]

end Go.Proofs.YtjmmmpnpkialjaaDoor
