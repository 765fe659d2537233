/- A pile: where it lies, what a method leaves; its row as a list. Conditions: none. -/
import Derived.Test.YtjmmmpnpkialjaaDoorSeq
import Derived.Test.YtjmmmpnpkialjaaDoorCopy
import Derived.Test.YtjmmmpnpkialjaaDoorDec
import Derived.Shelf.SlSortCmp.QuietGrown
namespace Go.Proofs.YtjmmmpnpkialjaaDoor
open Go.RowKit

/-- The cells of a list. -/
def flat {α : Type} (enc : α → List Value) (l : List α) : List Value := (l.map enc).flatten
theorem flat_nil {α : Type} (enc : α → List Value) : flat enc [] = [] := rfl
theorem flat_cons {α : Type} (enc : α → List Value) (x : α) (l : List α) : flat enc (x :: l) = enc x ++ flat enc l := rfl
theorem flat_append {α : Type} (enc : α → List Value) (l m : List α) : flat enc (l ++ m) = flat enc l ++ flat enc m := by simp [flat]
theorem flat_one {α : Type} (f : α → Value) (l : List α) : flat (fun x => [f x]) l = l.map f := by
  induction l with
  | nil => rfl
  | cons x l ih => rw [flat_cons, ih]; rfl
theorem flat_length {α : Type} {enc : α → List Value} {size : Nat} (h : ∀ x, (enc x).length = size) (l : List α) : (flat enc l).length = l.length * size := by
  induction l with
  | nil => simp [flat]
  | cons x l ih => rw [flat_cons, List.length_append, ih, h, List.length_cons, Nat.add_mul]; omega
theorem flat_split {α : Type} {enc : α → List Value} {size : Nat} (h : ∀ x, (enc x).length = size) (l : List α) (i : Nat) (hi : i ≤ l.length) : (flat enc l).take (i * size) = flat enc (l.take i) ∧ (flat enc l).drop (i * size) = flat enc (l.drop i) := by
  have hs : flat enc l = flat enc (l.take i) ++ flat enc (l.drop i) := by rw [← flat_append, List.take_append_drop]
  have hl : (flat enc (l.take i)).length = i * size := by rw [flat_length h, List.length_take, Nat.min_eq_left hi]
  rw [hs]
  exact ⟨List.take_left' hl, List.drop_left' hl⟩
theorem flat_ins {α : Type} {enc : α → List Value} {size : Nat} (h : ∀ x, (enc x).length = size) (l : List α) (i : Nat) (x : α) (hi : i ≤ l.length) : insRow size i (flat enc l) (enc x) = flat enc (l.take i ++ x :: l.drop i) := by
  rw [insRow, (flat_split h l i hi).1, (flat_split h l i hi).2, flat_append, flat_cons]
theorem flat_one' {α : Type} {enc : α → List Value} (h : ∀ x, ∀ u ∈ enc x, u.oneCell' = true) (l : List α) : ∀ u ∈ flat enc l, u.oneCell' = true := by
  intro u hu
  obtain ⟨c, hc, hu⟩ := List.mem_flatten.1 hu
  obtain ⟨x, _, rfl⟩ := List.mem_map.1 hc
  exact h x u hu
theorem flat_get {α : Type} {enc : α → List Value} {size : Nat} (h : ∀ x, (enc x).length = size) (hp : 0 < size) (l : List α) (i j : Nat) (hi : i < l.length) (hj : j < size) : (flat enc l)[i * size + j]? = (enc l[i])[j]? := by
  rw [flat, flatten_getElem? size _ _ (fun c hc => by obtain ⟨x, _, rfl⟩ := List.mem_map.1 hc; exact h x) hp]
  have e1 : (i * size + j) / size = i := by rw [Nat.add_comm, Nat.add_mul_div_right _ _ hp, Nat.div_eq_of_lt hj, Nat.zero_add]
  have e2 : (i * size + j) % size = j := by rw [Nat.add_comm, Nat.add_mul_mod_self_right, Nat.mod_eq_of_lt hj]
  rw [e1, e2]
  simp [hi]

/-- The place of x: behind all that it does not stand ahead of. -/
def placeOf {α : Type} (lt : α → α → Bool) (x : α) (l : List α) : Nat := l.length - (l.reverse.takeWhile (lt x)).length
def ins {α : Type} (lt : α → α → Bool) (l : List α) (x : α) : List α := l.take (placeOf lt x l) ++ x :: l.drop (placeOf lt x l)
theorem ins_length {α : Type} (lt : α → α → Bool) (l : List α) (x : α) : (ins lt l x).length = l.length + 1 := by simp [ins]; omega
theorem placeOf_eq {α : Type} (lt : α → α → Bool) (x : α) (l : List α) (k : Nat) (hk : k ≤ l.length) (h1 : ∀ j (hj : j < l.length), k ≤ j → lt x l[j] = true) (h2 : ∀ (h : 0 < k), lt x (l[k - 1]'(by omega)) = false) : placeOf lt x l = k := by
  have e : (l.reverse.takeWhile (lt x)).length = l.length - k := by
    have hs : l.reverse = (l.drop k).reverse ++ (l.take k).reverse := by rw [← List.reverse_append, List.take_append_drop]
    rw [hs, List.takeWhile_append_of_pos]
    · have : (l.take k).reverse.takeWhile (lt x) = [] := by
        by_cases h0 : 0 < k
        · have : l.take k = l.take (k - 1) ++ [l[k - 1]'(by omega)] := by
            rw [List.take_append_getElem]; congr 1; omega
          rw [this, List.reverse_append, List.reverse_singleton, List.singleton_append, List.takeWhile_cons_of_neg]
          rw [h2 h0]; simp
        · obtain rfl : k = 0 := by omega
          simp
      simp [this]
    · intro a ha
      obtain ⟨j, hj, rfl⟩ := List.getElem_of_mem (List.mem_reverse.1 ha)
      rw [List.getElem_drop]
      exact h1 _ _ (by omega)
  unfold placeOf
  rw [e]; omega

/-- A pile lies at block p: its order, a row of the call's own. -/
def PileAt (T e : TypeId) (size base : Nat) (w : World) (p : Nat) (fv : Value) (ao : Option Addr) (cap n : Nat) (xs : List Value) : Prop :=
  w.heap[p]? = some (.cells #[fv, .slice ao n cap] T (0, 0)) ∧ w.ownsRow base e size (.slice ao n cap) n xs ∧ base ≤ p ∧ n ≤ 1000
def PSet (p : Nat) (ao : Option Addr) (k : Nat) : Prop := k = p ∨ (Value.slice ao 0 0).ownBlock = some k

section
variable {T e : TypeId} {size base : Nat} {w w' : World} {p : Nat} {fv : Value} {ao : Option Addr} {cap n : Nat} {xs : List Value}
theorem PileAt.chg {S : Nat → Prop} (h : PileAt T e size base w p fv ao cap n xs) (c : Chg S w w') (hs : ∀ k, PSet p ao k → ¬ S k) : PileAt T e size base w' p fv ao cap n xs :=
  ⟨c.heap h.1 (hs p (.inl rfl)), c.owns h.2.1 (fun b hb => hs b (.inr (own_slice ao _ _ _ _ ▸ hb))), h.2.2⟩
theorem PileAt.drewN (h : PileAt T e size base w p fv ao cap n xs) (k : Nat) : PileAt T e size base (w.drewN k) p fv ao cap n xs := h
theorem PileAt.c0 (h : PileAt T e size base w p fv ao cap n xs) : w.cell? ⟨p, 0, none⟩ = some fv := by rw [cell_of_heap h.1]; rfl
theorem PileAt.c1 (h : PileAt T e size base w p fv ao cap n xs) : w.cell? ⟨p, 1, none⟩ = some (.slice ao n cap) := by rw [cell_of_heap h.1]; rfl
theorem PileAt.f (h : PileAt T e size base w p fv ao cap n xs) (i : Nat) : w.frozen? ⟨p, i, none⟩ = false := free_of_heap h.1 i
theorem PileAt.rd (h : PileAt T e size base w p fv ao cap n xs) : Rd w (.slice ao n cap) n xs := Rd.of_owns h.2.1
theorem PileAt.lt (h : PileAt T e size base w p fv ao cap n xs) : ∀ k, PSet p ao k → base ≤ k ∧ k < w.heap.size := by
  rintro k (rfl | hk)
  · exact ⟨h.2.2.1, (Array.getElem?_eq_some_iff.1 h.1).1⟩
  · exact ownsRow_lt h.2.1 k (own_slice ao _ _ _ _ ▸ hk)
theorem PileAt.low (h : PileAt T e size base w p fv ao cap n xs) : base ≤ w.heap.size := Nat.le_of_lt (Nat.lt_of_le_of_lt (h.lt p (.inl rfl)).1 (h.lt p (.inl rfl)).2)
end

/-- What a method that writes a pile leaves. -/
def Grew (T e : TypeId) (size base : Nat) (w : World) (p : Nat) (fv : Value) (ao : Option Addr) (n : Nat) (xs : List Value) (w' : World) : Prop :=
  ∃ ao' cap', PileAt T e size base w' p fv ao' cap' n xs ∧ Chg (PSet p ao) w w' ∧ ∀ k, PSet p ao' k → PSet p ao k ∨ w.heap.size ≤ k
theorem Grew.of_drewN {T e : TypeId} {size base : Nat} {w w' : World} {p : Nat} {fv : Value} {ao : Option Addr} {n k : Nat} {xs : List Value} (h : Grew T e size base (w.drewN k) p fv ao n xs w') : Grew T e size base w p fv ao n xs w' := by
  obtain ⟨ao', cap', h1, h2, h3⟩ := h
  exact ⟨ao', cap', h1, h2.of_drewN, h3⟩
/-- Behind a new row, and the store of its slice. -/
theorem grew_mk {T e : TypeId} {size base : Nat} {w w1 : World} {p : Nat} {fv : Value} {ao ao1 : Option Addr} {cap cap1 n m : Nat} {xs ys : List Value} (hT : T ≠ e) (h : PileAt T e size base w p fv ao cap n xs)
    (hown : w1.ownsRow base e size (.slice ao1 m cap1) m ys) (hg : Chg (fun k => (Value.slice ao n cap).ownBlock = some k) w w1)
    (hat : ∀ k, (Value.slice ao1 m cap1).ownBlock = some k → (Value.slice ao n cap).ownBlock = some k ∨ w.heap.size ≤ k) (hm : m ≤ 1000) :
    Grew T e size base w p fv ao m ys (w1.setCell ⟨p, 1, none⟩ (.slice ao1 m cap1)) := by
  have hp : w1.heap[p]? = some (.cells #[fv, .slice ao n cap] T (0, 0)) := hg.heap h.1 (fun e => ownsRow_ne h.2.1 h.1 hT e)
  refine ⟨ao1, cap1, ⟨heap_setCell_same hp _, (Chg.setCell w1 ⟨p, 1, none⟩ _).owns hown ?_, h.2.2.1, hm⟩, ?_, ?_⟩
  · intro b hb e
    subst e
    exact ownsRow_ne hown hp hT hb
  · refine hg.trans (Chg.setCell w1 ⟨p, 1, none⟩ _) (fun i _ e => .inr (own_slice ao _ _ _ _ ▸ e)) (fun i _ e => .inl e)
  · rintro k (rfl | hk)
    · exact .inl (.inl rfl)
    · rw [own_slice ao1 _ _ m cap1] at hk
      rcases hat k hk with e | e
      · exact .inl (.inr (own_slice ao _ _ _ _ ▸ e))
      · exact .inr e
/-- Behind slices.Insert of an element that was laid in a new block. -/
theorem pile_ins {T e : TypeId} {size base : Nat} {w w1 : World} {p : Nat} {fv : Value} {ao : Option Addr} {cap n : Nat} {xs ys : List Value} {o : Obj} {en : Ending} (h : PileAt T e size base w p fv ao cap n xs) (hT : T ≠ e) (hn : n < 1000)
    (hi : Insd base e size (w.alloc o) ao n cap ys en w1) :
    ∃ ao1 cap1, en = .returned (.slice ao1 (n + 1) cap1) ∧ w1.cell? ⟨p, 1, none⟩ = some (.slice ao n cap) ∧ w1.frozen? ⟨p, 1, none⟩ = false ∧ Grew T e size base w p fv ao (n + 1) ys (w1.setCell ⟨p, 1, none⟩ (.slice ao1 (n + 1) cap1)) := by
  obtain ⟨ao1, cap1, rfl, hown, hg, hat⟩ := hi
  have hg' : Chg (fun k => (Value.slice ao n cap).ownBlock = some k) w w1 := (Chg.alloc (fun _ => False) w o).trans hg (fun _ _ h => h.elim) (fun _ _ h => h)
  have hp : w1.heap[p]? = some (.cells #[fv, .slice ao n cap] T (0, 0)) := hg'.heap h.1 (fun e => ownsRow_ne h.2.1 h.1 hT e)
  refine ⟨ao1, cap1, rfl, by rw [cell_of_heap hp]; rfl, free_of_heap hp 1, grew_mk hT h hown hg' (fun k hk => ?_) (by omega)⟩
  rcases hat k hk with e | e
  · exact .inl e
  · exact .inr (by simp at e; omega)
theorem Grew.refl {T e : TypeId} {size base : Nat} {w : World} {p : Nat} {fv : Value} {ao : Option Addr} {cap n : Nat} {xs : List Value} (h : PileAt T e size base w p fv ao cap n xs) : Grew T e size base w p fv ao n xs w :=
  ⟨ao, cap, h, Chg.refl _ _, fun _ h => .inl h⟩
theorem grew_trans {T e : TypeId} {size base : Nat} {w w1 w2 : World} {p : Nat} {fv : Value} {ao ao1 : Option Addr} {m : Nat} {ys : List Value} (hc : Chg (PSet p ao) w w1) (hs : ∀ k, PSet p ao1 k → PSet p ao k ∨ w.heap.size ≤ k)
    (h : Grew T e size base w1 p fv ao1 m ys w2) : Grew T e size base w p fv ao m ys w2 := by
  obtain ⟨ao', cap', h1, h2, h3⟩ := h
  refine ⟨ao', cap', h1, hc.trans h2 (fun _ _ h => h) (fun k hk h => (hs k h).resolve_right (by omega)), fun k hk => ?_⟩
  rcases h3 k hk with h | h
  · exact hs k h
  · exact .inr (Nat.le_trans hc.size h)
/-- Behind slices.Delete of the first element, and the store. -/
theorem pile_del {T e : TypeId} {size base : Nat} {w w1 : World} {p : Nat} {fv : Value} {ao : Option Addr} {cap n : Nat} {xs ys : List Value} {en : Ending} (h : PileAt T e size base w p fv ao cap (n + 1) xs) (hT : T ≠ e)
    (hi : Delt base e size w ao n cap ys en w1) :
    en = .returned (.slice ao n cap) ∧ w1.cell? ⟨p, 1, none⟩ = some (.slice ao (n + 1) cap) ∧ w1.frozen? ⟨p, 1, none⟩ = false ∧ Grew T e size base w p fv ao n ys (w1.setCell ⟨p, 1, none⟩ (.slice ao n cap)) := by
  obtain ⟨rfl, hown, hg⟩ := hi
  have hg' : Chg (fun k => (Value.slice ao (n + 1) cap).ownBlock = some k) w w1 := hg.mono (fun k _ e => own_slice ao _ _ _ _ ▸ e)
  have hp : w1.heap[p]? = some (.cells #[fv, .slice ao (n + 1) cap] T (0, 0)) := hg'.heap h.1 (fun e => ownsRow_ne h.2.1 h.1 hT e)
  exact ⟨rfl, by rw [cell_of_heap hp]; rfl, free_of_heap hp 1, grew_mk hT h hown hg' (fun k hk => .inl (own_slice ao _ _ _ _ ▸ hk)) (by have := h.2.2.2; omega)⟩
theorem chg_grow (w : World) (n : Nat) (os : Array Obj) : Chg (fun _ => False) w (Go.Sort.grow (w.drewN n) os) :=
  ⟨rfl, rfl, rfl, by rw [Go.Sort.size_grow]; exact Nat.le_add_right _ _, fun k hk _ => Go.Sort.heap_grow_old (w.drewN n) os hk⟩
/-- A callee that lays blocks, and draws. -/
def Lays (e : Ending) (v : Value) (W W' : World) : Prop := e = .returned v ∧ ∃ q os, W' = Go.Sort.grow (W.drewN q) os
theorem Lays.below {e : Ending} {v : Value} {W W' : World} (h : Lays e v W W') : e = .returned v ∧ Below W.heap.size W W' := by
  obtain ⟨rfl, q, os, rfl⟩ := h
  exact ⟨rfl, (chg_grow W q os).below (Nat.le_refl _) (fun _ _ h => h)⟩
theorem lays_quiet {P : Program} {f : FuncId} {args : Array Value} {w : World} {n : Nat} {os : Array Obj} {v : Value} (h : Calls P f args (Go.Sort.grow (w.drewN n) os) fun e w' => Lays e v (Go.Sort.grow (w.drewN n) os) w') :
    Calls P f args (Go.Sort.grow (w.drewN n) os) fun e w'' => e = .returned v ∧ ∃ p : GrownBy, w'' = Go.Sort.grow (w.drewN p.n) p.os := Calls.grown_of h
theorem alloc_lays (W : World) (o : Obj) : ∃ q os, W.alloc o = Go.Sort.grow (W.drewN q) os := ⟨0, #[o], Go.Sort.alloc_eq_grow W o⟩
theorem lays_trans {A B C : World} (h : ∃ q os, B = Go.Sort.grow (A.drewN q) os) (k : ∃ q os, C = Go.Sort.grow (B.drewN q) os) : ∃ q os, C = Go.Sort.grow (A.drewN q) os := by
  obtain ⟨q, os, rfl⟩ := h
  obtain ⟨q', os', rfl⟩ := k
  exact ⟨q + q', os ++ os', by show Go.Sort.grow (Go.Sort.grow ((A.drewN q).drewN q') os) os' = _; rw [Go.Sort.grow_grow, World.drewN_drewN]⟩
/-- A call of a Go function as one step of a region that draws. -/
theorem step_call {P : Program} {ops : Array Oper} {o : Oper} {a : Act} {w : World} {K : Act → World → Prop} {Q : Exit → Act → World → Prop} {E : Prop} (hgd : o.guard = none) {f : FuncId} {xs : Array Operand} {ts : Array TypeId}
    (ho : o.op = .call { callee := .value (.func f), args := xs, argTypes := ts }) (eg : ∀ args w, (callFunc f args).run P w = .ok (.enter f args) w) {vals : Array Value} (hv : xs.map a.eval = vals) {R : Value → World → Prop}
    (hc : Calls P f vals w fun e w' => ∃ v, e = .returned v ∧ R v w') (hK : ∀ v w', R v w' → K (a.put o.dst v) w') :
    if Region.wanted o (yielded ops a.tmps) = true then Oper.wp P o a w K Q else E := by
  have hw : Region.wanted o (yielded ops a.tmps) = true := by simp [Region.wanted, hgd]
  rw [if_pos hw]
  unfold Oper.wp
  have he : (execOp a.eval o).run P w = .ok (.enter f vals) w := by
    rw [← hv]
    simp [execOp, ho, resolve, invoke, Act.eval, eg, Deferred.ofValue]
  rw [he]
  refine hc.mono ?_
  rintro e w' ⟨v, rfl, hr⟩
  exact hK v w' hr
theorem pile_del2 {T e : TypeId} {size base : Nat} {w w1 : World} {p : Nat} {fv : Value} {ao : Option Addr} {cap n : Nat} {xs ys : List Value} {en : Ending} (h : PileAt T e size base w p fv ao cap (n + 1) xs) (hT : T ≠ e)
    (hi : Delt base e size w ao n cap ys en w1) :
    PileAt T e size base (w1.setCell ⟨p, 1, none⟩ (.slice ao n cap)) p fv ao cap n ys ∧ Chg (PSet p ao) w (w1.setCell ⟨p, 1, none⟩ (.slice ao n cap)) := by
  obtain ⟨rfl, hown, hg⟩ := hi
  have hg' : Chg (fun k => (Value.slice ao (n + 1) cap).ownBlock = some k) w w1 := hg.mono (fun k _ e => own_slice ao _ _ _ _ ▸ e)
  have hp : w1.heap[p]? = some (.cells #[fv, .slice ao (n + 1) cap] T (0, 0)) := hg'.heap h.1 (fun e => ownsRow_ne h.2.1 h.1 hT e)
  refine ⟨⟨heap_setCell_same hp _, (Chg.setCell w1 ⟨p, 1, none⟩ _).owns hown (fun b hb e => ?_), h.2.2.1, by have := h.2.2.2; omega⟩, ?_⟩
  · subst e
    exact ownsRow_ne hown hp hT hb
  · exact hg'.trans (Chg.setCell w1 ⟨p, 1, none⟩ _) (fun i _ e => .inr (own_slice ao _ _ _ _ ▸ e)) (fun i _ e => .inl e)
/-- A pile, and blocks that are none of its. -/
theorem grew_far {T e : TypeId} {size base : Nat} {w w1 w2 : World} {p : Nat} {fv : Value} {ao : Option Addr} {cap n : Nat} {ys : List Value} (hp : PileAt T e size base w1 p fv ao cap n ys) (hc : Chg (PSet p ao) w w1) (hl : ∀ k, PSet p ao k → k < w.heap.size)
    (c : Chg (fun k => w.heap.size ≤ k) w1 w2) : Grew T e size base w p fv ao n ys w2 :=
  ⟨ao, cap, hp.chg c (fun k hk e => by have := hl k hk; omega), hc.trans c (fun _ _ h => h) (fun k hk h => absurd hk (by omega)), fun _ h => .inl h⟩
end Go.Proofs.YtjmmmpnpkialjaaDoor
