/- record.Read. Conditions: the bytes read as said. -/
import Derived.Test.YtjmmmpnpkialjaaDoorRcS
import Derived.Outline
import Derived.Deep.QuietTactic
import Derived.BigQuiet
import Derived.Deep.CutRange
namespace Go.Proofs.YtjmmmpnpkialjaaDoor
open Go.RowKit Go.Shelf
attribute [local go_sem] Oper.semAt_some

/-- The blocks in which what was read lies. -/
def Hd (n0 : Nat) (ao : Option Addr) (n cap : Nat) (vs : List RcV) (k : Nat) : Prop :=
  k = n0 ∨ k = n0 + 1 ∨ (Value.slice ao n cap).ownBlock = some k ∨ ∃ v ∈ vs, v.q.x.vp.ownBlock = some k ∨ v.q.x.vt.ownBlock = some k
/-- What was read so far. -/
structure RdIn (w : World) (R D : Nat → Prop) (pre : List (Int × Rc)) (W : World) (ao : Option Addr) (cap : Nat) (vs : List RcV) : Prop where
  eq : rcs vs = pre.map (·.2)
  box : W.heap[w.heap.size]? = some (.cells #[.slice ao vs.length cap] 50 (0, 0))
  row : W.ownsRow w.heap.size 54 9 (.slice ao vs.length cap) vs.length (flat rc_enc vs)
  own : ∀ v ∈ vs, Own W (w.heap.size + 2) v.q.x
  at_ : W.heap[w.heap.size + 1]? = some (.cells #[.int .i64 (endRc pre)] 3 (0, 0))
  nd : ∀ k, Hd w.heap.size ao vs.length cap vs k → ¬ D k
  nr : ∀ k, Hd w.heap.size ao vs.length cap vs k → ¬ R k
  bel : Below w.heap.size w W
variable {w W W' : World} {R D D' S : Nat → Prop} {pre : List (Int × Rc)} {ao : Option Addr} {cap : Nat} {vs : List RcV}
theorem RdIn.lt (h : RdIn w R D pre W ao cap vs) : ∀ k, Hd w.heap.size ao vs.length cap vs k → w.heap.size ≤ k ∧ k < W.heap.size := by
  rintro k (rfl | rfl | hk | ⟨v, hv, hk | hk⟩)
  · exact ⟨Nat.le_refl _, (Array.getElem?_eq_some_iff.1 h.box).1⟩
  · exact ⟨Nat.le_succ _, (Array.getElem?_eq_some_iff.1 h.at_).1⟩
  · exact ownsRow_lt h.row k hk
  · have := ownsRow_lt (h.own v hv).ps k hk; omega
  · have := ownsRow_lt (h.own v hv).ts k hk; omega
theorem RdIn.cells (h : RdIn w R D pre W ao cap vs) : ∀ k, Hd w.heap.size ao vs.length cap vs k → ¬ NonC W k := by
  rintro k (rfl | rfl | hk | ⟨v, hv, hk | hk⟩)
  · exact NonC.not h.box
  · exact NonC.not h.at_
  · exact NonC.not_owns h.row hk
  · exact NonC.not_owns (h.own v hv).ps hk
  · exact NonC.not_owns (h.own v hv).ts hk
theorem RdIn.chg (h : RdIn w R D pre W ao cap vs) (c : Chg S W W') (hs : ∀ k, Hd w.heap.size ao vs.length cap vs k → ¬ S k) (hd : ∀ k, Hd w.heap.size ao vs.length cap vs k → ¬ D' k) (hb : Below w.heap.size w W') : RdIn w R D' pre W' ao cap vs :=
  ⟨h.eq, c.heap h.box (hs _ (.inl rfl)), c.owns h.row (fun k hk => hs k (.inr (.inr (.inl hk)))), fun v hv => ⟨c.owns (h.own v hv).ps (fun k hk => hs k (.inr (.inr (.inr ⟨v, hv, .inl hk⟩)))), c.owns (h.own v hv).ts (fun k hk => hs k (.inr (.inr (.inr ⟨v, hv, .inr hk⟩))))⟩,
   c.heap h.at_ (hs _ (.inr (.inl rfl))), hd, h.nr, hb⟩
/-- The state of the loop. -/
def RdSt (w : World) (R : Nat → Prop) (B : Nat) (D : Nat → Prop) (pre : List (Int × Rc)) (W : World) : Prop := ∃ ao cap vs, RdIn w R D pre W ao cap vs ∧ B + 2 ≤ W.heap.size ∧ ∀ k, D k → w.heap.size ≤ k ∧ k < W.heap.size
theorem RdSt.abd (B : Nat) (hB : w.heap.size ≤ B) : AbdDE B (RdSt w R B) := by
  rintro D s A A' S D' ⟨ao, cap, vs, h, hz, hf⟩ hc hS hs1 hs2
  have hno : ∀ k, Hd w.heap.size ao vs.length cap vs k → ¬ S k := fun k hk hs => by
    rcases hS k (h.lt k hk).2 hs with h1 | h1
    · exact h.nd k hk h1
    · exact h.cells k hk h1.2
  refine ⟨ao, cap, vs, h.chg hc hno (fun k hk hd => ?_) ?_, Nat.le_trans hz hc.size, fun k hk => ?_⟩
  · rcases hs2 k hd with h1 | h1
    · exact h.nd k hk h1
    · have := (h.lt k hk).2; omega
  · refine h.bel.trans (hc.below h.bel.size (fun k hk hs => ?_))
    rcases hS k (Nat.lt_of_lt_of_le hk h.bel.size) hs with h1 | h1
    · have := (hf k h1).1; omega
    · omega
  · rcases hs2 k hk with h1 | h1
    · exact ⟨(hf k h1).1, Nat.lt_of_lt_of_le (hf k h1).2 hc.size⟩
    · have := h.bel.size; exact ⟨by omega, h1.2⟩
/-- What was told: the place, the record, its lists' shapes. -/
structure TQ where
  en : Int
  t : Int
  k : Int
  i : Int
  n : Int
  l : Int
  p : Bool
  c : Cm
  po : Option Addr
  pc : Nat
  fo : Option Addr
  fc : Nat
abbrev TQ.q (y : TQ) : RqV := ⟨y.k, y.i, y.n, y.l, y.p, ⟨y.c, .slice y.po y.c.parents.length y.pc, .slice y.fo y.c.tree.length y.fc⟩⟩
abbrev TQ.v (y : TQ) : RcV := ⟨y.t, y.q⟩
theorem endRc_snoc (pre : List (Int × Rc)) (x : Int × Rc) : endRc (pre ++ [x]) = x.1 := by simp [endRc]
theorem recs_may {b : List UInt8} : ∀ (f : Nat) (p least : Int) (x : Int × Rc), x ∈ recs b f p least → mayRq x.2.r = true
  | 0, _, _, x, h => by cases h
  | f + 1, p, least, x, h => by
    rw [recs] at h
    cases hr : rdOne b p least with
    | none => rw [hr] at h; cases h
    | some y =>
      obtain ⟨z, e⟩ := y
      rw [hr] at h
      rcases List.mem_cons.1 h with rfl | h
      · rw [rdOne] at hr
        split at hr
        · obtain ⟨r, h1, h2⟩ := Option.map_eq_some_iff.1 hr
          cases h2
          exact (rdRq_some.1 h1).1
        · cases hr
      · exact recs_may f _ _ x h
theorem recs_length {b : List UInt8} : ∀ (f : Nat) (p least : Int), (recs b f p least).length ≤ f
  | 0, _, _ => Nat.le_refl _
  | f + 1, p, least => by
    rw [recs]
    cases rdOne b p least with
    | none => exact Nat.zero_le _
    | some y => exact Nat.succ_le_succ (recs_length (b := b) f y.2 y.1.at_)
theorem RdIn.grow {x : Int × Rc} {v : RcV} {n3 : Nat} {w4 : World} {ao4 : Option Addr} {cap4 q : Nat} (h : RdIn w R D pre W ao cap vs) (hx : x.2 = v.rc) (hv : Own W n3 v.q.x) (hn3 : w.heap.size + 2 ≤ n3)
    (hv0 : ∀ k, (v.q.x.vp.ownBlock = some k ∨ v.q.x.vt.ownBlock = some k) → ¬ D k ∧ ¬ R k) (hD : ∀ k, D k → k < W.heap.size) (hR : ∀ k, R k → k < W.heap.size)
    (hg : Chg (fun k => (Value.slice ao vs.length cap).ownBlock = some k) W w4) (hrow : w4.ownsRow w.heap.size 54 9 (.slice ao4 (vs.length + 1) cap4) (vs.length + 1) (flat rc_enc vs ++ rc_enc v))
    (hat : (Value.slice ao4 (vs.length + 1) cap4).ownBlock = (Value.slice ao vs.length cap).ownBlock ∨ (Value.slice ao4 (vs.length + 1) cap4).ownBlock = some q) (hq : W.heap.size ≤ q) :
    RdIn w R D (pre ++ [x]) ((w4.setCell ⟨w.heap.size, 0, none⟩ (.slice ao4 (vs.length + 1) cap4)).setCell ⟨w.heap.size + 1, 0, none⟩ (.int .i64 x.1)) ao4 cap4 (vs ++ [v]) ∧
    Chg (Hd w.heap.size ao vs.length cap vs) W ((w4.setCell ⟨w.heap.size, 0, none⟩ (.slice ao4 (vs.length + 1) cap4)).setCell ⟨w.heap.size + 1, 0, none⟩ (.int .i64 x.1)) := by
  have hbl := hg.heap h.box (fun e => ownsRow_ne h.row h.box (by decide) e)
  have hba := hg.heap h.at_ (fun e => ownsRow_ne h.row h.at_ (by decide) e)
  have c1 := Chg.setCell w4 ⟨w.heap.size, 0, none⟩ (.slice ao4 (vs.length + 1) cap4)
  have c2 := Chg.setCell (w4.setCell ⟨w.heap.size, 0, none⟩ (.slice ao4 (vs.length + 1) cap4)) ⟨w.heap.size + 1, 0, none⟩ (.int .i64 x.1)
  have hc : Chg (fun k => k = w.heap.size ∨ k = w.heap.size + 1 ∨ (Value.slice ao vs.length cap).ownBlock = some k) W ((w4.setCell ⟨w.heap.size, 0, none⟩ (.slice ao4 (vs.length + 1) cap4)).setCell ⟨w.heap.size + 1, 0, none⟩ (.int .i64 x.1)) :=
    (hg.trans c1 (S'' := fun k => k = w.heap.size ∨ k = w.heap.size + 1 ∨ (Value.slice ao vs.length cap).ownBlock = some k) (fun _ _ h => .inr (.inr h)) (fun _ _ h => .inl h)).trans c2 (fun _ _ h => h) (fun _ _ h => .inr (.inl h))
  have hnr : (Value.slice ao4 (vs.length + 1) cap4).ownBlock ≠ some w.heap.size := ownsRow_ne hrow hbl (by decide)
  have hnr1 : (Value.slice ao4 (vs.length + 1) cap4).ownBlock ≠ some (w.heap.size + 1) := ownsRow_ne hrow hba (by decide)
  have hps : ∀ {base : Nat} {y : CmV}, Own W base y → w.heap.size + 2 ≤ base → ∀ k, (y.vp.ownBlock = some k ∨ y.vt.ownBlock = some k) → ¬ (k = w.heap.size ∨ k = w.heap.size + 1 ∨ (Value.slice ao vs.length cap).ownBlock = some k) := by
    intro base y ho hb k hk hs
    have hge : base ≤ k := hk.elim (fun hk => (ownsRow_lt ho.ps k hk).1) (fun hk => (ownsRow_lt ho.ts k hk).1)
    rcases hs with hs | hs | hs
    · omega
    · omega
    · rcases hk with hk | hk
      · exact owns_apart ho.ps h.row (by decide) k hk hs
      · exact owns_apart ho.ts h.row (by decide) k hk hs
  have hown : ∀ {base : Nat} {y : CmV}, Own W base y → w.heap.size + 2 ≤ base → Own ((w4.setCell ⟨w.heap.size, 0, none⟩ (.slice ao4 (vs.length + 1) cap4)).setCell ⟨w.heap.size + 1, 0, none⟩ (.int .i64 x.1)) base y := fun ho hb =>
    ⟨hc.owns ho.ps (fun k hk => hps ho hb k (.inl hk)), hc.owns ho.ts (fun k hk => hps ho hb k (.inr hk))⟩
  have hlen : (vs ++ [v]).length = vs.length + 1 := by simp
  have hdr : ∀ k, Hd w.heap.size ao4 (vs ++ [v]).length cap4 (vs ++ [v]) k → ¬ D k ∧ ¬ R k := by
    rintro k (rfl | rfl | hk | ⟨y, hy, hk⟩)
    · exact ⟨h.nd _ (.inl rfl), h.nr _ (.inl rfl)⟩
    · exact ⟨h.nd _ (.inr (.inl rfl)), h.nr _ (.inr (.inl rfl))⟩
    · rw [hlen] at hk
      rcases hat with e | e
      · rw [e] at hk
        exact ⟨h.nd k (.inr (.inr (.inl hk))), h.nr k (.inr (.inr (.inl hk)))⟩
      · rw [e] at hk
        cases hk
        exact ⟨fun hd => by have := hD _ hd; omega, fun hr => by have := hR _ hr; omega⟩
    · rcases List.mem_append.1 hy with hy | hy
      · exact ⟨h.nd k (.inr (.inr (.inr ⟨y, hy, hk⟩))), h.nr k (.inr (.inr (.inr ⟨y, hy, hk⟩)))⟩
      · rw [List.mem_singleton.1 hy] at hk
        exact hv0 k hk
  refine ⟨⟨?_, ?_, ?_, ?_, ?_, fun k hk => (hdr k hk).1, fun k hk => (hdr k hk).2, ?_⟩, hc.mono (fun k _ hk => ?_)⟩
  · rw [rcs, List.map_append, List.map_append, ← h.eq, List.map_singleton, List.map_singleton, hx]; rfl
  · rw [hlen]
    exact c2.heap (heap_setCell_same hbl (i := 0) (.slice ao4 (vs.length + 1) cap4)) (fun e => by have h5 : w.heap.size = w.heap.size + 1 := e; omega)
  · rw [hlen, flat_append]
    exact c2.owns (c1.owns hrow (fun k hk e => by have h5 : k = w.heap.size := e; subst h5; exact hnr hk)) (fun k hk e => by have h5 : k = w.heap.size + 1 := e; subst h5; exact hnr1 hk)
  · intro y hy
    rcases List.mem_append.1 hy with hy | hy
    · exact hown (h.own y hy) (Nat.le_refl _)
    · rw [List.mem_singleton.1 hy]
      exact (hown hv hn3).base hn3
  · rw [endRc_snoc]
    exact heap_setCell_same (c1.heap hba (fun e => by have h5 : w.heap.size + 1 = w.heap.size := e; omega)) (i := 0) (.int .i64 x.1)
  · refine h.bel.trans (hc.below h.bel.size (fun k hk hs => ?_))
    rcases hs with hs | hs | hs
    · omega
    · omega
    · have := (ownsRow_lt h.row k hs).1; omega
  · rcases hk with hk | hk | hk
    · exact .inl hk
    · exact .inr (.inl hk)
    · exact .inr (.inr (.inl hk))
/-- What record.Read answers. -/
def ReadSaid (b : List UInt8) (w : World) (e : Ending) (w' : World) : Prop :=
  ∃ ao cap vs, e = .returned (.tuple #[.slice ao vs.length cap, .int .i64 (endRc (rdRcs b))]) ∧ rcs vs = (rdRcs b).map (·.2) ∧ w'.ownsRow w.heap.size 54 9 (.slice ao vs.length cap) vs.length (flat rc_enc vs) ∧ (∀ v ∈ vs, Own w' w.heap.size v.q.x) ∧ Below w.heap.size w w'
set_option maxHeartbeats 4000000 in
set_option maxRecDepth 100000 in
theorem record_Read (w : World) (vb : Value) (b : List UInt8) (hb : Rd w vb b.length (u8s b)) (hm : b.length ≤ 100000000) (hM : Mx w) :
    Calls Tryd.prog 29 #[vb] w fun e w' => ReadSaid b w e w' := by
  have HBB := hide hb
  have HM := hide hM
  obtain ⟨ab, cb, rfl, -, -⟩ := hb.shape
  have hx0 := heap_alloc_new w (.cells #[.slice none 0 0] 50)
  have hb1 := (Below.refl w.heap.size w).alloc (Nat.le_refl _) (.cells #[.slice none 0 0] 50)
  have hx1 := heap_alloc_new (w.alloc (.cells #[.slice none 0 0] 50)) (.cells #[.int .i64 0] 3)
  have hb2 := hb1.alloc (by simp) (.cells #[.int .i64 0] 3)
  replace hx0 := (Chg.alloc (fun _ => False) (w.alloc (.cells #[.slice none 0 0] 50)) (.cells #[.int .i64 0] 3)).heap hx0 (fun h => h)
  have hz2 : ((w.alloc (.cells #[.slice none 0 0] 50)).alloc (.cells #[.int .i64 0] 3)).heap.size = w.heap.size + 2 := by rw [World.size_alloc, World.size_alloc]
  rw [World.size_alloc] at hx1
  generalize hw2 : (w.alloc (.cells #[.slice none 0 0] 50)).alloc (.cells #[.int .i64 0] 3) = w2 at hx0 hx1 hb2 hz2
  have HW2 := hide hw2
  have HX0 := hide hx0
  have HX1 := hide hx1
  have HB2 := hide hb2
  have HZ2 := hide hz2
  have HALL := hide (record_All w2 _ b (hb.chg (Chg.of_below0 (S := fun _ => False) hb2) (fun _ _ _ h => h)) hm)
  clear hb hM hx0 hx1 hb1 hb2 hz2 hw2
  refine (callsIn_wide (n := 9)).1 ?_
  refine callsIn_of_wp_marks Tryd.func29 rfl trivial ?_ rfl
  simp only [Tryd.ntmps29, List.size_toArray, List.length_cons, List.length_nil, Nat.reduceAdd, Nat.reduceSub, Array.replicate_succ, Array.replicate_zero, List.push_toArray, List.append_toArray, List.nil_append, List.cons_append]
  refine wpIn_wide.2 ?_
  go_upto_region 3 with (fail)
  rw [HW2.out]
  go_wp2_with fail
  refine HALL.out.mono ?_
  rintro e w3 ⟨B, ao, cap, rfl, hall, hb3⟩
  have hc3 := Chg.of_below0 (S := fun _ => False) hb3
  have HX0' := hide (hc3.heap HX0.out (fun h => h))
  have HX1' := hide (hc3.heap HX1.out (fun h => h))
  have HB3 := hide (HB2.out.trans (hb3.mono HB2.out.size))
  have hseq := all_seqe w3 w2.heap.size B ao cap b hall hm (HM.out.below HB3.out HM.out.pos)
  have HRLT : Hid (∀ k, (k = 0 ∨ RA B ao b.length cap k) → k < w3.heap.size ∧ (k = 0 ∨ w.heap.size + 2 ≤ k)) := hide (fun k hk => by
    rcases hk with rfl | hk
    · have h5 := HM.out.pos; have h6 := HB3.out.size; exact ⟨by omega, .inl rfl⟩
    · have h5 := hall.lt k hk; have h6 := HZ2.out; exact ⟨h5.2, .inr (by omega)⟩)
  have HPOS := hide HM.out.pos
  have hz3 : w.heap.size + 2 ≤ w3.heap.size := by have h5 := hb3.size; have h6 := HZ2.out; omega
  clear hb3 hc3 hall HX0 HX1 HB2 HALL HW2
  go_wp2_with fail
  refine (wpIn_wide (n := 9)).1 ?_
  refine wpIn_range_Eb (α := Int × Rc) (β := TQ) rfl (by omega) (gf := 63) (lb := #[.pointer (some ⟨B, 0, none⟩)]) rfl trivial (enters_of Tryd.func63 (by kernel_rfl) rfl)
    hseq (Kpt.refl _ _) (fun k hk => (HRLT.out k hk).1) (fun D x args W h => by obtain ⟨_, rfl, _⟩ := h; rfl)
    (fun y => #[.int .i64 y.en, .agg #[.int .i64 y.t, .int .i64 y.k, .int .i64 y.i, .int .i64 y.n, .int .i64 y.l, .bool y.p, .slice y.po y.c.parents.length y.pc, .slice y.fo y.c.tree.length y.fc, .string y.c.note]]) (fun D x y W => x.1 = y.en ∧ x.2 = y.v.rc ∧ Own W w3.heap.size y.q.x ∧ ∀ k, (y.q.x.vp.ownBlock = some k ∨ y.q.x.vt.ownBlock = some k) → ¬ D k)
    (fun D x args W h => by
      obtain ⟨q, rfl, h1, h2, h3⟩ := h
      obtain ⟨k, i, n, l, p, ⟨c, xp, xt⟩⟩ := q
      obtain ⟨po, pc, hpo⟩ := ownsRow_shape h2.ps
      obtain ⟨fo, fc, hfo⟩ := ownsRow_shape h2.ts
      simp only at hpo hfo
      subst hpo hfo
      exact ⟨⟨x.1, x.2.at_, k, i, n, l, p, c, po, pc, fo, fc⟩, rfl, rfl, (by obtain ⟨x1, ⟨x2, x3⟩⟩ := x; simp only at h1; rw [← h1]; rfl), h2, h3⟩) ?hY (fun _ _ _ W o h => ⟨h.1, h.2.1, h.2.2.1.chg (Chg.alloc (fun _ => False) W o) (fun _ _ _ h => h), h.2.2.2⟩)
    54 (fun y => #[.int .i64 y.t, .int .i64 y.k, .int .i64 y.i, .int .i64 y.n, .int .i64 y.l, .bool y.p, .slice y.po y.c.parents.length y.pc, .slice y.fo y.c.tree.length y.fc, .string y.c.note]) (fun y Bx t => (t.setIfInBounds 6 (.int .i64 y.en)).setIfInBounds 7 (.pointer (some ⟨Bx, 0, none⟩)))
    (RdSt w (fun k => k = 0 ∨ RA B ao b.length cap k) w3.heap.size) (fun _ _ _ _ => False) (RdSt.abd _ (by omega)) ?hIx ?h0 ?hIa ?assign ?body ?done ?stop
  case hIx => exact fun c D s A A' S D' h _ _ _ _ => h.elim
  case hY =>
    rintro D x y A A' ⟨h1, h2, h3, h4⟩ hc hn
    have hne : ∀ b, (y.q.x.vp.ownBlock = some b ∨ y.q.x.vt.ownBlock = some b) → b ≠ w3.heap.size + 1 := fun b hb e => by
      subst e
      rcases hb with hb | hb
      · exact NonC.not_owns h3.ps hb hn
      · exact NonC.not_owns h3.ts hb hn
    exact ⟨h1, h2, ⟨hc.owns h3.ps (fun b hb => hne b (.inl hb)), hc.owns h3.ts (fun b hb => hne b (.inr hb))⟩, h4⟩
  case h0 =>
    intro W' hc' hz'
    refine ⟨none, 0, [], ⟨rfl, hc'.heap HX0'.out (fun h => h), World.ownsRow_nil _ _ _ _, fun v hv => (by cases hv), hc'.heap HX1'.out (fun h => h), fun _ _ h => h, ?_, HB3.out.trans (hc'.below HB3.out.size (fun _ _ h => h))⟩, by omega, fun _ h => h.elim⟩
    intro k hk hr
    have h5 := (HRLT.out k hr).2
    have h6 := HPOS.out
    rcases hk with rfl | rfl | hk | ⟨v, hv, -⟩
    · omega
    · omega
    · cases hk
    · cases hv
  case hIa =>
    rintro D s A o ⟨a1, c1, vs, h, hz, hf⟩
    have c := Chg.alloc (fun _ => False) A o
    exact ⟨a1, c1, vs, h.chg c (fun _ _ h => h) h.nd (h.bel.trans (c.below h.bel.size (fun _ _ h => h))), Nat.le_trans hz c.size, fun k hk => ⟨(hf k hk).1, Nat.lt_of_lt_of_le (hf k hk).2 c.size⟩⟩
  case assign =>
    rintro lr ⟨en, t, k, i, n, l, p, c, po, pc, fo, fc⟩ W1 K hK
    rw [told_two] at hK ⊢
    simp only [List.setIfInBounds_toArray, List.set_cons_zero, List.set_cons_succ] at hK ⊢
    have HK := hide hK
    clear hK
    gi_wp2_with fail
    exact HK.out
  case body =>
    rintro lr D pre x ⟨en, t, k, i, n, l, p, c, po, pc, fo, fc⟩ Bx W1 hlr hbx hbc ⟨ao1, cap1, vs, hin, hz, hf⟩ ⟨hxe, hxv, hown, hnd9⟩ hpre hnd hnd1 hn0 hn1
    rw [told_two]
    simp only [List.setIfInBounds_toArray, List.set_cons_zero, List.set_cons_succ]
    simp only at hxe hxv hown hnd9 hbc
    have hvl : vs.length ≤ 2000 := by
      have h5 := congrArg List.length hin.eq
      simp only [rcs, List.length_map] at h5
      have h6 := hpre.length_le
      have h7 := recs_length (b := b) 2000 0 0
      simp only [List.length_append, List.length_singleton] at h6
      have h8 : (rdRcs b).length ≤ 2000 := h7
      omega
    have HIN := hide hin
    have HOWN := hide hown
    have HND9 := hide hnd9
    have HF := hide hf
    have HXV := hide hxv
    have HZZ := hide hz
    have HN0 := hide hn0
    have HN1 := hide hn1
    have HVL := hide hvl
    have q0 := cell_of_heap hbc 0
    have q1 := cell_of_heap hbc 1
    have q2 := cell_of_heap hbc 2
    have q3 := cell_of_heap hbc 3
    have q4 := cell_of_heap hbc 4
    have q5 := cell_of_heap hbc 5
    have q6 := cell_of_heap hbc 6
    have q7 := cell_of_heap hbc 7
    have q8 := cell_of_heap hbc 8
    have e0 := cell_of_heap hin.box 0
    simp at q0 q1 q2 q3 q4 q5 q6 q7 q8 e0
    clear hin hown hnd9 hf hxv hz hn0 hn1 hvl hnd hnd1 hbc hbx hpre hlr
    subst hxe
    gi_wp2_with (gi_at_builtin; refine wpi_append rfl (.tmp 12) (.tmp 14) _ rfl rc_slT w.heap.size ((Chg.alloc (fun _ => False) W1 _).owns HIN.out.row (fun _ _ h => h)) (Rd_lit W1 #[.int .i64 t, .int .i64 k, .int .i64 i, .int .i64 n, .int .i64 l, .bool p, .slice po c.parents.length pc, .slice fo c.tree.length fc, .string c.note] 54 1) rfl rfl rfl (by simp [Value.oneCell']) (by have := HVL.out; unfold maxLen; omega) (by have := HVL.out; omega) (by have := HIN.out.bel.size; simp; omega) ?_; intro ao4 cap4 w4 hown4 hg4 hat4 _; have hg' := (Chg.alloc (fun _ => False) W1 _).trans hg4 (S'' := fun k => (Value.slice ao1 vs.length cap1).ownBlock = some k) (fun _ _ h => h.elim) (fun _ _ h => h); have hbl := hg'.heap HIN.out.box (fun h => ownsRow_ne HIN.out.row HIN.out.box (by decide) h); have hba := hg'.heap HIN.out.at_ (fun h => ownsRow_ne HIN.out.row HIN.out.at_ (by decide) h); have f0 := free_of_heap hbl 0; have g0 := cell_of_heap hbl 0; have hba2 := (Chg.setCell w4 ⟨w.heap.size, 0, none⟩ (.slice ao4 (vs.length + 1) cap4)).heap hba (fun h => by have h5 : w.heap.size + 1 = w.heap.size := h; omega); have f1 := free_of_heap hba2 0; have g1 := cell_of_heap hba2 0; have HBL := hide hbl; have HBA := hide hba2; have HG4 := hide hg'; have HO4 := hide hown4; have HAT4 := hide hat4; simp at f0 g0 f1 g1; clear hbl hba hba2 hg' hown4 hg4 hat4)
    have hq4 : W1.heap.size ≤ (W1.alloc (Obj.cells #[.int .i64 t, .int .i64 k, .int .i64 i, .int .i64 n, .int .i64 l, .bool p, .slice po c.parents.length pc, .slice fo c.tree.length fc, .string c.note] 54)).heap.size := by simp
    have hgr := HIN.out.grow (x := x) (v := ⟨t, ⟨k, i, n, l, p, ⟨c, .slice po c.parents.length pc, .slice fo c.tree.length fc⟩⟩⟩) HXV.out HOWN.out hz3
      (fun kk hk => ⟨HND9.out kk hk, fun hr => by
        have h5 := (HRLT.out kk hr).1
        rcases hk with hk | hk
        · have h6 := (ownsRow_lt HOWN.out.ps kk hk).1; omega
        · have h6 := (ownsRow_lt HOWN.out.ts kk hk).1; omega⟩)
      (fun kk hk => (HF.out kk hk).2) (fun kk hr => by have h5 := (HRLT.out kk hr).1; have h6 := HZZ.out; omega) HG4.out HO4.out HAT4.out hq4
    refine ⟨Kpt.of_chg hgr.2 (fun kk _ hr hs => ?_), ao4, cap4, _, hgr.1, Nat.le_trans HZZ.out hgr.2.size, fun kk hk => ⟨(HF.out kk hk).1, Nat.lt_of_lt_of_le (HF.out kk hk).2 hgr.2.size⟩⟩
    rcases hr with h1 | h1 | h1 | h1
    · exact HIN.out.nr kk hs h1
    · exact HIN.out.nd kk hs h1
    · exact HIN.out.cells kk hs (h1 ▸ HN0.out)
    · exact HIN.out.cells kk hs (h1 ▸ HN1.out)
  case stop => exact fun _ _ _ _ _ h => h.elim
  case done =>
    rintro D Wd ⟨ao1, cap1, vs, hin, hz, hf⟩ hdef hnd
    have e0 := cell_of_heap hin.box 0
    have e1 := cell_of_heap hin.at_ 0
    simp at e0 e1
    have HIN := hide hin
    have HDEF := hide hdef
    clear hin hdef hnd hf
    go_wp2_with fail
    go_quiet (fail)
    go_wp2_with fail
    have hd3 : (Wd.drewN nq).heap[w3.heap.size]? = some (.deferred (some [])) := HDEF.out
    refine ⟨by simp, .inl ⟨_, _, rfl, run_takeDeferred hd3, ?_⟩⟩
    have hp := chg_putObj (Wd.drewN nq) w3.heap.size (.deferred none)
    have hin := HIN.out.chg (D' := D) (Chg.drewN (fun _ => False) Wd nq) (fun _ _ h => h) HIN.out.nd (bdrewN HIN.out.bel nq)
    have hne : ∀ k, Hd w.heap.size ao1 vs.length cap1 vs k → ¬ k = w3.heap.size := fun k hk e => by
      subst e
      exact hin.cells _ hk ⟨_, hd3, rfl⟩
    have hin2 := hin.chg (D' := D) hp hne hin.nd (hin.bel.trans (hp.below hin.bel.size (fun k hk e => by omega)))
    exact ⟨_, results_tmp2 rfl _ _ _, ao1, cap1, vs, rfl, hin2.eq, hin2.row, fun v hv => (hin2.own v hv).base (by omega), hin2.bel⟩
end Go.Proofs.YtjmmmpnpkialjaaDoor
