/- A range over a function: what a body must keep, the law for a body that goes on, and what slices.Values tells. Conditions: none. -/
import Derived.Test.YtjmmmpnpkialjaaDoorProg
import Derived.Test.YtjmmmpnpkialjaaDoorBase
import Derived.Outline
import Derived.Deep.QuietTactic
import Derived.BigQuiet
import Derived.OwnWalk
import Derived.RangeFuncNested
import Derived.RangeFuncBound
import Derived.RangeFuncCalls
import Derived.RangeFuncLeaves
import Derived.RangeFuncWrites
import Derived.Shelf.Abstract
import Derived.Shelf.RegionOpen
import Derived.OwnWalkIn
import Derived.TacticsInMore
import Derived.LoopNIn
import Derived.LoopIn
import Derived.Maps.OwnIn
import Derived.Lib.AppendStr
namespace Go.Proofs.YtjmmmpnpkialjaaDoor
open Go.RowKit Go.Shelf
attribute [local go_sem] Oper.semAt_some

/-- The cells of the blocks D are as they were. -/
def Keep (D : Nat → Prop) (W W' : World) : Prop := ∀ (a : Addr) (v : Value), D a.block → W.cell? a = some v → W'.cell? a = some v
theorem Keep.refl (D : Nat → Prop) (W : World) : Keep D W W := fun _ _ _ h => h
theorem keep_t {D : Nat → Prop} {A B C : World} (h : Keep D A B) (k : Keep D B C) : Keep D A C := fun a v hd hc => k a v hd (h a v hd hc)
theorem keep_b {D : Nat → Prop} {w : World} (W : World) (l : Nat) (o o' : Obj) (_ : w.heap.size ≤ l) (h : W.heap[l]? = some o) (hc : o.isCells = false) (_ : o.isWalk = false) : Keep D W (W.putObj l o') := by
  intro a v _ hv
  by_cases e : a.block = l
  · simp only [World.cell?, e, h] at hv
    cases o <;> simp_all [Obj.isCells]
  · exact (World.cell?_of_block (World.putObj_heap_other e)).trans hv
theorem Keep.of_chg {D S : Nat → Prop} {W W' : World} (c : Chg S W W') (h : ∀ k, D k → ¬ S k) : Keep D W W' := fun _ _ hd hv => c.cell hv (h _ hd)
theorem Keep.cells {D : Nat → Prop} {W W' : World} (h : Keep D W W') {b off : Nat} {cs : List Value} (hc : CellsAt W b off cs) (hd : D b) : CellsAt W' b off cs := fun j u hu => h _ _ hd (hc j u hu)

/-- A block that is no cells. -/
def NonC (W : World) (k : Nat) : Prop := ∃ o : Obj, W.heap[k]? = some o ∧ o.isCells = false
theorem NonC.not {W : World} {k : Nat} {cs : Array Value} {T : TypeId} {fr : Nat × Nat} (h : W.heap[k]? = some (.cells cs T fr)) : ¬ NonC W k := by
  rintro ⟨o, ho, hc⟩
  rw [h] at ho
  cases ho
  cases hc
theorem NonC.not_of_le {W : World} {k : Nat} (h : W.heap.size ≤ k) : ¬ NonC W k := by
  rintro ⟨o, ho, hc⟩
  have := (Array.getElem?_eq_some_iff.1 ho).1
  omega
theorem NonC.not_owns {w : World} {base : Nat} {e : TypeId} {size : Nat} {v : Value} {n : Nat} {xs : List Value} (h : w.ownsRow base e size v n xs) {k : Nat} (hk : v.ownBlock = some k) : ¬ NonC w k := by
  rcases h.2 with ⟨rfl, rfl⟩ | ⟨g, cap, cur, rfl, hb, hg, _⟩
  · cases hk
  · cases hk
    exact NonC.not hg
theorem NonC.not_rd {w : World} {v : Value} {n : Nat} {cs : List Value} (h : Rd w v n cs) {k : Nat} (hk : v.ownBlock = some k) (hcs : cs ≠ []) : ¬ NonC w k := by
  rintro ⟨o, ho, hc⟩
  rcases h with ⟨rfl, rfl, rfl⟩ | ⟨⟨b, off, sp⟩, cap, rfl, hcap, ⟨ha, h⟩ | ⟨rfl, rfl, rfl⟩⟩
  · cases hk
  · cases hk
    cases cs with
    | nil => exact hcs rfl
    | cons u us =>
      have h2 := h 0 u rfl
      simp only [World.cell?, ho] at h2
      cases o <;> simp_all [Obj.isCells]
  · exact hcs rfl

/-- I abides what a loop over a function itself lays and turns, from block B on. -/
def Abd (B : Nat) (I : World → Prop) : Prop := ∀ (S : Nat → Prop) (W W' : World), Chg S W W' → (∀ k, S k → B ≤ k ∧ NonC W k) → I W → I W'
theorem ownFrom_abd {β : Type} {B : Nat} {I : β → World → Prop} (h : ∀ s, Abd B (I s)) : OwnFrom B I :=
  fun s W W' _ hs hg hr => h s _ W W' (Chg.grown hg) (fun k hk => hr k hk.symm) hs

/-- What one round may turn: no block of the sequence, none of the loop's own. -/
def Turn (D : Nat → Prop) (B : Nat) (W W' : World) : Prop := ∃ S, Chg S W W' ∧ ∀ k, S k → ¬ D k ∧ (k < B ∨ ¬ NonC W k)
theorem Turn.keeps {D : Nat → Prop} {B : Nat} {W W' : World} (h : Turn D B W W') : KeepsFrom B W W' ∧ Keep D W W' := by
  obtain ⟨S, c, hs⟩ := h
  refine ⟨⟨c.size, fun k o hb hk ho => ?_⟩, Keep.of_chg c (fun k hd hk => (hs k hk).1 hd)⟩
  refine c.heap hk (fun hk' => ?_)
  rcases (hs k hk').2 with h1 | h1
  · omega
  · exact h1 ⟨o, hk, ho⟩

/-- What a round has turned so far: of the blocks that lay only cells, and none of D. -/
def Rnd (D : Nat → Prop) (W W' : World) : Prop := Chg (fun j => ¬ D j ∧ ¬ NonC W j) W W'
theorem Rnd.refl (D : Nat → Prop) (W : World) : Rnd D W W := Chg.refl _ _
theorem Rnd.step {D S : Nat → Prop} {W W1 W2 : World} (h : Rnd D W W1) (c : Chg S W1 W2) (hS : ∀ k, S k → ¬ D k ∧ ¬ NonC W1 k) : Rnd D W W2 := by
  refine Chg.trans h c (fun _ _ h => h) (fun i hi hs => ⟨(hS i hs).1, fun hn => (hS i hs).2 ?_⟩)
  obtain ⟨o, ho, hc⟩ := hn
  exact ⟨o, Chg.heap h ho (fun h' => h'.2 ⟨o, ho, hc⟩), hc⟩
theorem Rnd.same {D : Nat → Prop} {W W1 W2 : World} (h : Rnd D W W1) (c : Chg (fun _ => False) W1 W2) : Rnd D W W2 := h.step c (fun _ h => h.elim)
theorem Rnd.turn {D : Nat → Prop} {W W' : World} (h : Rnd D W W') (B : Nat) : Turn D B W W' := ⟨_, h, fun _ hk => ⟨hk.1, .inr hk.2⟩⟩

theorem wpIn_range {P : Program} {τ : Type} {g : Operand} {ps : Array Tmp} {assign body : Code} {Q : Exit → Act → World → Prop} {a : Act} {w : World} {gf : Nat} {lb : Array Value}
    (zs : List τ) (enc : τ → Value) (D : Nat → Prop) (hg : a.eval g = .func (.func gf) #[] lb) (eg : ∀ args w, (callFunc gf args).run P w = .ok (.enter gf args) w)
    (hseq : SeqStopsK Fence.wide 8 P gf lb (fun x : {x // x ∈ zs} => #[enc x.1]) (Keep D) (fun ys => ys = zs.attach) (fun pre => pre <+: zs.attach) zs.length w) (hps : ps.size = 1)
    (I : List τ → World → Prop) (hI : ∀ pre, Abd w.heap.size (I pre)) (h0 : I [] w) (a₁ : τ → Act)
    (hassign : ∀ (l : Nat) (x : τ) (W : World) (K : Act → World → Prop), K (a₁ x) W →
      assign.wpIn (Fence.wide.inRound l) 7 P (Exit.then K (fun _ _ _ => False)) { tmps := (ps.zip #[enc x]).foldl (fun t (p, v) => t.setIfInBounds p v) a.tmps, defers := [] } W)
    (hbody : ∀ (l : Nat) (pre : List τ) (x : τ) (W : World), I pre W → pre.length < zs.length → (∀ y ∈ pre, y ∈ zs) → x ∈ zs →
      body.wpIn (Fence.wide.inRound l) 7 P (fun e _ W' => e = .normal ∧ Turn D w.heap.size W W' ∧ I (pre ++ [x]) W') (a₁ x) W)
    (hdone : ∀ (Db : Nat) (W : World), w.heap.size ≤ Db → I zs W → W.heap[Db]? = some (.deferred (some [])) → Q .normal { a with defers := { target := .collected Db, args := #[] } :: a.defers } W) :
    (Code.rangeFunc g ps assign body).wpIn Fence.wide 9 P Q a w := by
  refine wpIn_rangeFunc_ownG (α := {x // x ∈ zs}) rfl (by omega) hg trivial eg hseq keep_t keep_b (Below.refl _ _) (fun _ => by simp [hps])
    (fun pre W => I (pre.map Subtype.val) W) (fun _ _ _ => False) (ownFrom_abd (fun pre => hI _)) (fun _ => fun _ _ _ _ h _ _ => h) h0 (fun x => a₁ x.1) ?_ ?_ ?_ ?_
  · intro l x W K hK
    exact hassign l x.1 W K hK
  · intro l pre x W hi hl
    refine wpIn_mono (hbody l _ x.1 W hi (by simpa using hl) (fun y hy => ?_) x.2) ?_
    · obtain ⟨z, _, rfl⟩ := List.mem_map.1 hy
      exact z.2
    · rintro e a' W' ⟨rfl, ht, hi'⟩
      exact ⟨ht.keeps.1, ht.keeps.2, by simpa using hi'⟩
  · intro Db xs W hD hxs hi hd
    subst hxs
    exact hdone Db W hD (by simpa using hi) hd
  · intro _ _ _ _ _ _ h
    exact h.elim

/-- slices.Values's box at B, and its slice, all within [n0, n1). -/
def SeqAt (n0 n1 : Nat) (w : World) (B n : Nat) (cs : List Value) : Prop :=
  n0 ≤ B ∧ B < n1 ∧ ∃ v, w.cell? ⟨B, 0, none⟩ = some v ∧ Rd w v n cs ∧ ∀ k, v.ownBlock = some k → n0 ≤ k ∧ k < n1
theorem SeqAt.chg {S : Nat → Prop} {n0 n1 : Nat} {w w' : World} {B n : Nat} {cs : List Value} (h : SeqAt n0 n1 w B n cs) (c : Chg S w w') (hs : ∀ k, n0 ≤ k → k < n1 → ¬ S k) : SeqAt n0 n1 w' B n cs := by
  obtain ⟨h1, h2, v, hc, hr, hb⟩ := h
  exact ⟨h1, h2, v, c.cell hc (hs _ h1 h2), hr.chg c (fun b hb' _ => hs b (hb b hb').1 (hb b hb').2), hb⟩
theorem Keep.rd {n0 n1 : Nat} {w w' : World} {v : Value} {n : Nat} {cs : List Value} (c : Keep (fun k => n0 ≤ k ∧ k < n1) w w') (hr : Rd w v n cs) (hb : ∀ k, v.ownBlock = some k → n0 ≤ k ∧ k < n1) : Rd w' v n cs := by
  rcases hr with h | ⟨a, cap, rfl, hcap, ⟨ha, h⟩ | h⟩
  · exact .inl h
  · exact .inr ⟨a, cap, rfl, hcap, .inl ⟨ha, c.cells h (hb _ rfl)⟩⟩
  · exact .inr ⟨a, cap, rfl, hcap, .inr h⟩
theorem map_attach_val {α β : Type} (zs : List α) (f : α → β) : zs.attach.map (fun x => f x.1) = zs.map f := by simp
theorem take_succ_get {α : Type} (zs : List α) (k : Nat) (h : k < zs.length) : zs.take (k + 1) = zs.take k ++ [zs[k]] := (List.take_append_getElem h).symm

/-- append onto a slice that is the call's own, within a fence. -/
theorem wpi_append {F : Fence} {nf : Nat} {P : Program} {w : World} {ops : Array Oper} {rest : List Oper} {o : Oper} {a : Act} {Q : Exit → Act → World → Prop} (hgd : o.guard = none) (s x : Operand) (t : TypeId)
    (ho : o.op = .call { callee := .builtin .append, args := #[s, x], argTypes := #[t, t] })
    {e : TypeId} {z : Value} {size bytes : Nat} (hT : SlT P t e z size bytes) (base : Nat) {v : Value} {n : Nat} {xs : List Value} (hown : w.ownsRow base e size v n xs)
    {vx : Value} {m : Nat} {news : List Value} (hr : Rd w vx m news) (hs : a.eval s = v) (hx : a.eval x = vx) (hl : news.length = m * size) (h1 : ∀ u ∈ news, u.oneCell' = true)
    (h63 : n + m ≤ maxLen) (hbytes : (n + m) * bytes ≤ 140737488355328) (hbase : base ≤ w.heap.size)
    (h : ∀ ao cap w', w'.ownsRow base e size (.slice ao (n + m) cap) (n + m) (xs ++ news) → Chg (fun k => v.ownBlock = some k) w w' → ((Value.slice ao (n + m) cap).ownBlock = v.ownBlock ∨ (Value.slice ao (n + m) cap).ownBlock = some w.heap.size) →
      (ao = none ↔ v = .slice none 0 0 ∧ m = 0) → wpListIn F nf P ops Q rest (a.put o.dst (.slice ao (n + m) cap)) w') :
    wpListIn F nf P ops Q (o :: rest) a w := by
  obtain ⟨i, hi, hz, hsz, hby⟩ := info_parts hT.info
  have hra := hr
  rcases hr with ⟨rfl, rfl, rfl⟩ | ⟨ad, cap, rfl, hc, -⟩
  · obtain ⟨ao, cap, rfl⟩ := ownsRow_shape hown
    have hgo : wpListIn F nf P ops Q rest (a.put o.dst (.slice ao n cap)) w := by
      have := h ao cap w (by simpa using hown) (Chg.refl _ _) (.inl rfl) ?_
      · simpa using this
      · rcases hown.2 with ⟨e1, rfl⟩ | ⟨g, cap', cur, e1, _⟩
        · cases e1; simp
        · cases e1; simp
    refine wpListIn_plain hgd fun K hK => ?_
    have hrun := run_append_owned_none (P := P) (w := w) base t o.type e i size hT.under hi _ n xs hown
    unfold Oper.wpIn
    refine ⟨by simp [Oper.about, ho, resolve, Target.leads, Sem.run_pure], ?_⟩
    rw [Oper.semAt_plain F _ _ (by rw [ho]; intro c hc'; cases hc')]
    simp [execOp, ho, resolve, invoke, builtin, hs, hx, hrun, Result.andThen]
    exact hK _ _ hgo
  · refine wpListIn_append_own_at (w := w) hgd s x t ho base e i z size bytes hT.under hi hz hsz hby hT.zsize hT.pos v n xs hs hown ad m cap news hx hl
      hra.add h1 h63 hbytes hbase ?_
    intro v' w' hown' hg hnil hat
    obtain ⟨ao, cap', rfl⟩ := ownsRow_shape hown'
    refine h ao cap' w' hown' ⟨hg.os, hg.tape, hg.output, hg.size, fun k hk hn => hg.block k hk (fun e => hn e.symm)⟩ hat ?_
    rw [← hnil]
    constructor
    · rintro rfl
      rcases hown'.2 with ⟨e1, _⟩ | ⟨g, cap', cur, e1, _⟩
      · exact e1
      · cases e1
    · intro e1; injection e1

/-- The bytes of a string. -/
def sb (s : ByteArray) : List UInt8 := s.data.toList
theorem sb_length (s : ByteArray) : (sb s).length = s.size := by rw [sb, Array.length_toList]; rfl
theorem strCells_eq (s : ByteArray) : Go.Lib.strCells s = u8s (sb s) := rfl

theorem wpl_append_str {P : Program} {w : World} {ops : Array Oper} {rest : List Oper} {o : Oper} {a : Act} {Q : Exit → Act → World → Prop} (hgd : o.guard = none) (s x : Operand) (t u : TypeId)
    (ho : o.op = .call { callee := .builtin .append, args := #[s, x], argTypes := #[t, u] })
    {e : TypeId} (hT : SlT P t e (.int .u8 0) 1 1) (hu : P.underlying u = some .string) (base : Nat) {v : Value} {n : Nat} {xs : List Value} (hown : w.ownsRow base e 1 v n xs)
    {st : ByteArray} (hs : a.eval s = v) (hx : a.eval x = .string st) (hbytes : n + st.size ≤ 140737488355328) (hbase : base ≤ w.heap.size)
    (h : ∀ ao cap w', w'.ownsRow base e 1 (.slice ao (n + st.size) cap) (n + st.size) (xs ++ u8s (sb st)) → Chg (fun k => v.ownBlock = some k) w w' → (ao = none ↔ v = .slice none 0 0 ∧ st.size = 0) → wpList P ops Q rest (a.put o.dst (.slice ao (n + st.size) cap)) w') :
    wpList P ops Q (o :: rest) a w := by
  obtain ⟨i, hi, hz, hsz, hby⟩ := info_parts hT.info
  refine Go.Lib.wpList_append_own_string (w := w) hgd s x t u ho base e i hT.under hu hi hz hsz hby v n xs hs hown st hx (by unfold maxLen; omega) hbytes hbase ?_
  intro v' w' hown' hg hnil
  obtain ⟨ao, cap', rfl⟩ := ownsRow_shape hown'
  refine h ao cap' w' hown' ⟨hg.os, hg.tape, hg.output, hg.size, fun k hk hn => hg.block k hk (fun e => hn e.symm)⟩ ?_
  rw [← hnil]
  constructor
  · rintro rfl
    rcases hown'.2 with ⟨e1, _⟩ | ⟨g, cap', cur, e1, _⟩
    · exact e1
    · cases e1
  · intro e1; injection e1

theorem wpi_append_str {F : Fence} {nf : Nat} {P : Program} {w : World} {ops : Array Oper} {rest : List Oper} {o : Oper} {a : Act} {Q : Exit → Act → World → Prop} (hgd : o.guard = none) (s x : Operand) (t u : TypeId)
    (ho : o.op = .call { callee := .builtin .append, args := #[s, x], argTypes := #[t, u] })
    {e : TypeId} (hT : SlT P t e (.int .u8 0) 1 1) (hu : P.underlying u = some .string) (base : Nat) {v : Value} {n : Nat} {xs : List Value} (hown : w.ownsRow base e 1 v n xs)
    {st : ByteArray} (hs : a.eval s = v) (hx : a.eval x = .string st) (hbytes : n + st.size ≤ 140737488355328) (hbase : base ≤ w.heap.size)
    (h : ∀ ao cap w', w'.ownsRow base e 1 (.slice ao (n + st.size) cap) (n + st.size) (xs ++ u8s (sb st)) → Chg (fun k => v.ownBlock = some k) w w' → (ao = none ↔ v = .slice none 0 0 ∧ st.size = 0) → wpListIn F nf P ops Q rest (a.put o.dst (.slice ao (n + st.size) cap)) w') :
    wpListIn F nf P ops Q (o :: rest) a w := by
  obtain ⟨i, hi, hz, hsz, hby⟩ := info_parts hT.info
  obtain ⟨v', w', hrun, hown', hg, hnil⟩ := Go.Lib.run_append_own_string (P := P) w base t u o.type e i hT.under hu hi hz hsz hby v n xs hown st (by unfold maxLen; omega) hbytes hbase
  obtain ⟨ao, cap', rfl⟩ := ownsRow_shape hown'
  have hgo := h ao cap' w' hown' ⟨hg.os, hg.tape, hg.output, hg.size, fun k hk hn => hg.block k hk (fun e => hn e.symm)⟩ (by
    rw [← hnil]
    constructor
    · rintro rfl
      rcases hown'.2 with ⟨e1, _⟩ | ⟨g, cap', cur, e1, _⟩
      · exact e1
      · cases e1
    · intro e1; injection e1)
  refine wpListIn_plain hgd fun K hK => ?_
  unfold Oper.wpIn
  refine ⟨by simp [Oper.about, ho, resolve, Target.leads, Sem.run_pure], ?_⟩
  rw [Oper.semAt_plain F _ _ (by rw [ho]; intro c hc'; cases hc')]
  simp [execOp, ho, resolve, invoke, builtin, hs, hx, hrun, Result.andThen]
  exact hK _ _ hgo

end Go.Proofs.YtjmmmpnpkialjaaDoor
