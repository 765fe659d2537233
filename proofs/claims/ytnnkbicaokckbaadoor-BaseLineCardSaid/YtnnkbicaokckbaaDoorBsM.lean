/- A map of ints to bools that the call makes; the sequence's numbers in one. Conditions: none. -/
import Derived.Test.YtnnkbicaokckbaaDoorDgB
import Derived.Test.YtnnkbicaokckbaaDoorBsL
import Derived.Maps.Own
import Derived.Maps.Views
namespace Go.Proofs.YtnnkbicaokckbaaDoor
open Go.RowKit Go.Shelf
attribute [local go_sem] Oper.semAt_some

/-- Block b is a map that tells f. -/
def MapB (w : World) (b n : Nat) (f : Int → Bool) : Prop :=
  ∃ D : DataW Unit, w.ownsMap Tryd.prog 3 (plainElem Tryd.prog 4) b n D ∧ Go.Maps.IsMap D ∧ ∀ x : Int, (Lit.int .i64 x).wf = true → D.atKey (.int .i64 x) (.lit (.bool false)) = .lit (.bool (f x))
theorem plainElem_bool_inv {H : Type} {P : Program} {e : TypeId} (he : P.underlying e = some .bool) {v : Value} {z : DataW H × List MemPlace} (h : plainElem P e v = some z) : ∃ a, v = .bool a ∧ z = (.lit (.bool a), []) := by
  unfold plainElem at h
  rw [he] at h
  cases v <;> simp at h
  exact ⟨_, rfl, h.symm⟩
theorem MapB.lt {w : World} {b n : Nat} {f : Int → Bool} (h : MapB w b n f) : b < w.heap.size := by
  obtain ⟨D, h1, -⟩ := h
  exact h1.lt
theorem MapB.chg {S : Nat → Prop} {w w' : World} {b n : Nat} {f : Int → Bool} (h : MapB w b n f) (c : Chg S w w') (hb : ¬ S b) : MapB w' b n f := by
  obtain ⟨D, ⟨es, clock, hbk, F, hs, hD⟩, h2⟩ := h
  exact ⟨D, ⟨es, clock, c.heap hbk hb, F, hs, hD⟩, h2⟩
theorem MapB.made (w : World) : MapB (w.alloc (.map #[] 0)) w.heap.size 0 (fun _ => false) :=
  ⟨.map [], World.ownsMap_made w _ _ _, ⟨[], rfl⟩, fun _ _ => rfl⟩
theorem MapB.get {w : World} {b n : Nat} {f : Int → Bool} (h : MapB w b n f) (x : Int) (hx : (Lit.int .i64 x).wf = true) : (Instr.lookup 95 (.map (some b)) (.int .i64 x) false).run Tryd.prog w = .ok (.bool (f x)) w := by
  obtain ⟨D, h1, -, h2⟩ := h
  obtain ⟨v, ps, hrun, hv⟩ := h1.lookup (t := 95) (e := 4) (Go.Maps.int_keyed Tryd.underlying3) Tryd.underlying95 (z := .bool false) (by kernel_rfl) (plainElem_bool Tryd.underlying4 false) (Go.Maps.keyOf_int_mk Tryd.underlying3 hx)
  obtain ⟨a, rfl, e⟩ := plainElem_bool_inv Tryd.underlying4 hv
  have e2 : D.atKey (.int .i64 x) (.lit (.bool false)) = .lit (.bool a) := congrArg Prod.fst e
  rw [h2 x hx] at e2
  simp only [DataW.lit.injEq, Lit.bool.injEq] at e2
  rw [e2]
  exact hrun
theorem MapB.put {w : World} {b n : Nat} {f : Int → Bool} (h : MapB w b n f) (hn : n < 1000000) (x : Int) (hx : (Lit.int .i64 x).wf = true) : ∃ w', (Instr.mapUpdate 95 (.map (some b)) (.int .i64 x) (.bool true)).run Tryd.prog w = .ok () w' ∧ MapB w' b (n + 1) (fun y => f y || (x == y)) ∧ Chg (fun k => k = b) w w' := by
  obtain ⟨D, h1, h0, h2⟩ := h
  obtain ⟨w', hrun, h3, hg⟩ := h1.update (t := 95) (Go.Maps.int_keyed Tryd.underlying3) Tryd.underlying95 (by unfold maxLen; omega) (Go.Maps.keyOf_int_mk Tryd.underlying3 hx) (plainElem_bool Tryd.underlying4 true)
  refine ⟨w', hrun, ⟨_, h3, h3.isMap, fun y hy => ?_⟩, (Chg.grown hg).mono (fun k _ e => by cases e; rfl)⟩
  by_cases e : y = x
  · subst e
    rw [Go.Maps.atKey_put_same (k := .int .i64 y) h0 trivial]
    simp
  · rw [Go.Maps.atKey_put_other (by intro e2; injection e2 with _ e3; exact e e3), h2 y hy]
    have : (x == y) = false := by simp; exact fun e2 => e e2.symm
    show _ = DataW.lit (Lit.bool (f y || (x == y)))
    rw [this, Bool.or_false]
theorem MapB.mono {w : World} {b n n' : Nat} {f : Int → Bool} (h : MapB w b n f) (hn : n ≤ n') : MapB w b n' f := by
  obtain ⟨D, h1, h2⟩ := h
  exact ⟨D, h1.mono hn, h2⟩
theorem MapB.congr {w : World} {b n : Nat} {f g : Int → Bool} (h : MapB w b n f) (e : ∀ x, f x = g x) : MapB w b n g := by
  obtain rfl : f = g := funext e
  exact h
theorem set_put (w : World) {b n : Nat} {f : Int → Bool} (h : MapB w b n f) (hn : n < 1000000) (x : Int) (hx : (Lit.int .i64 x).wf = true) :
    Calls Tryd.prog 107 #[.map (some b), .int .i64 x] w fun e w' => e = .returned (.map (some b)) ∧ MapB w' b (n + 1) (fun y => f y || (x == y)) ∧ Chg (fun k => k = b) w w' := by
  obtain ⟨w1, hrun, hm, hc⟩ := h.put hn x hx
  have HM := hide hm
  have HC := hide hc
  clear h hm hc
  go_enter Tryd.func107, Tryd.ntmps107
  go_wp2_with fail
  go_ret
  exact ⟨rfl, HM.out, HC.out⟩

set_option maxRecDepth 100000 in
set_option maxHeartbeats 4000000 in
theorem fold_set (w : World) (gf : Nat) (lb : Array Value) (R : Nat → Prop) (zs : List Int) (eg : ∀ args w, (callFunc gf args).run Tryd.prog w = .ok (.enter gf args) w)
    (hs : SeqD Fence.wide 8 Tryd.prog gf lb (fun x => #[.int .i64 x]) R zs w) (hR : ∀ k, R k → k < w.heap.size) (hz : ∀ x ∈ zs, (Lit.int .i64 x).wf = true) (hzl : zs.length ≤ 1000) (b : Nat) (hb : MapB w b 0 (fun _ => false)) (hbR : ¬ R b) :
    Calls Tryd.prog 106 #[.func (.func gf) #[] lb, .map (some b), .func (.func 107) #[] #[]] w fun e w' => e = .returned (.map (some b)) ∧ MapB w' b zs.length (fun y => zs.contains y) ∧ Chg (fun k => k = b) w w' := by
  have hnn : ∀ w', Sem.run Tryd.prog (binOp BinOp.eql 59 (.func (.func gf) #[] lb) .nilFunc) w' = .ok (.bool false) w' := by intro w'; kernel_rfl
  have hnf : ∀ w', Sem.run Tryd.prog (binOp BinOp.eql 118 (.func (.func 107) #[] #[]) .nilFunc) w' = .ok (.bool false) w' := by intro w'; kernel_rfl
  have HS := hide hs
  have HRR := hide hR
  have HEG := hide eg
  have HB := hide hb
  have HBR := hide hbR
  have HZW := hide hz
  have hbl := hb.lt
  have egf := enters_of Tryd.func107 (by kernel_rfl) rfl
  clear hs hR eg hb hbR hz
  refine (callsIn_wide (n := 9)).1 ?_
  refine callsIn_of_wp_marks Tryd.func106 rfl trivial ?_ rfl
  simp only [Tryd.ntmps106, List.size_toArray, List.length_cons, List.length_nil, Nat.reduceAdd, Nat.reduceSub, Array.replicate_succ, Array.replicate_zero, List.push_toArray, List.append_toArray, List.nil_append, List.cons_append]
  gi_wp2
  obtain ⟨W0, hW0⟩ : ∃ W0, (w.alloc (.cells #[.map (some b)] 95)).alloc (.cells #[.func (.func 107) #[] #[]] 118) = W0 := ⟨_, rfl⟩
  have hz0 : W0.heap.size = w.heap.size + 2 := by rw [← hW0]; simp
  have hb0 : Chg (fun _ => False) w W0 := by rw [← hW0]; exact (Chg.alloc (fun _ => False) w _).trans (Chg.alloc (fun _ => False) _ _) (fun _ _ h => h) (fun _ _ h => h)
  have hx0 : W0.heap[w.heap.size]? = some (.cells #[.map (some b)] 95 (0, 0)) := by rw [← hW0]; exact (Chg.alloc (fun _ => False) _ _).heap (heap_alloc_new w _) (fun h => h)
  have hx1 : W0.heap[w.heap.size + 1]? = some (.cells #[.func (.func 107) #[] #[]] 118 (0, 0)) := by rw [← hW0]; have := heap_alloc_new (w.alloc (.cells #[.map (some b)] 95)) (.cells #[.func (.func 107) #[] #[]] 118); rwa [World.size_alloc] at this
  rw [hW0]
  have HZ0 := hide hz0
  have HX0 := hide hx0
  have HX1 := hide hx1
  have HB0 := hide hb0
  clear hW0 hz0 hx0 hx1 hb0
  refine wpIn_range_D (α := Int) rfl (by omega) (gf := gf) (lb := lb) rfl trivial HEG.out
    HS.out (Kpt.of_chg HB0.out (fun _ _ _ h => h)) (fun k hk => by have := HRR.out k hk; have := HZ0.out; omega) (fun _ => rfl)
    (fun D pre Wr => Wr.heap[w.heap.size]? = some (.cells #[.map (some b)] 95 (0, 0)) ∧ Wr.heap[w.heap.size + 1]? = some (.cells #[.func (.func 107) #[] #[]] 118 (0, 0)) ∧ Chg (fun k => k = b) w Wr ∧ (∀ k, D k → W0.heap.size + 2 ≤ k ∧ k < Wr.heap.size) ∧ W0.heap.size + 2 ≤ Wr.heap.size ∧ MapB Wr b pre.length (fun y => pre.contains y))
    (fun _ _ _ _ => False) ?hI ?hIx ?h0
    (fun x a' _ => ∃ u0 u1 u2 u3 u6 u8 u9 u10 u11 u12 u13 u14 u15 u16 u17 u18 u19 u20 u21, a' = { tmps := #[u0, u1, u2, u3, .pointer (some ⟨w.heap.size, 0, none⟩), .pointer (some ⟨w.heap.size + 1, 0, none⟩), u6, .int .i64 x, u8, u9, u10, u11, u12, u13, u14, u15, u16, u17, u18, u19, u20, u21], defers := [] })
    (fun _ _ _ _ h _ _ => h) ?assign ?body ?done ?stop
  case hI =>
    have hz0 := HZ0.out
    rintro D s A A' S ⟨g1, g2, g3, g4, g5, g6⟩ hc hS
    have hno : ∀ k, k < W0.heap.size → ¬ S k := fun k hk h => by
      rcases hS k (by omega) h with h1 | h1
      · have := (g4 k h1).1; omega
      · omega
    refine ⟨hc.heap g1 (hno _ (by omega)), hc.heap g2 (hno _ (by omega)), g3.trans hc (fun _ _ h => h) (fun k hk h => absurd h (hno k (by omega))), fun k hk => ?_, Nat.le_trans g5 hc.size, g6.chg hc (hno _ (by omega))⟩
    have := hc.size
    rcases hk with h1 | h1
    · have := g4 k h1; omega
    · omega
  case hIx => exact fun _ _ _ _ _ _ h _ _ => h.elim
  case h0 =>
    have hz0 := HZ0.out
    intro W' hc' hz'
    exact ⟨hc'.heap HX0.out (fun h => h), hc'.heap HX1.out (fun h => h), (HB0.out.trans hc' (S'' := fun k => k = b) (fun _ _ h => h.elim) (fun _ _ h => h.elim)), fun _ h => h.elim, by omega, (HB.out.chg HB0.out (fun h => h)).chg hc' (fun h => h)⟩
  case assign =>
    rintro lr D pre x W1 K hi hpre hsz hK
    gi_wp2
    exact hK _ _ (Kpt.refl _ _) hi ⟨_, _, _, _, _, _, _, _, _, _, _, _, _, _, _, _, _, _, _, rfl⟩
  case body =>
    rintro lr D pre x a' W1 hlr ⟨r, hr⟩ hnc ⟨g1, g2, g3, g4, g5, g6⟩ ⟨u0, u1, u2, u3, u6, u8, u9, u10, u11, u12, u13, u14, u15, u16, u17, u18, u19, u20, u21, rfl⟩ hpre hnd hnd1
    have hc1 := cell_of_heap g1 0
    have hf1 := free_of_heap g1 0
    have hc2 := cell_of_heap g2 0
    have hpl : pre.length < 1000000 := by have := hpre.length_le; simp at this; omega
    have HC := hide (set_put W1 g6 hpl x (HZW.out x (hpre.subset (by simp))))
    have egf' := egf
    have G1 := hide g1
    have G2 := hide g2
    have G3 := hide g3
    have G4 := hide g4
    have G5 := hide g5
    clear hr hnc g1 g2 g3 g4 g5 g6 hnd hnd1 hpre hc2
    have hc2 := cell_of_heap G2.out 0
    gi_wp2_with fail
    refine ⟨trivial, (CallsIn.inRound _ (callsIn_wide.2 HC.out)).mono ?_⟩
    rintro e w2 ⟨rfl, hm2, hcc2⟩
    have hz0 := HZ0.out
    have hg12 := hcc2.heap G1.out (fun e => by have e' : w.heap.size = b := e; omega)
    have hf12 := free_of_heap hg12 0
    have hc12 := cell_of_heap hg12 0
    have HM2 := hide hm2
    have HC2 := hide hcc2
    have HG12 := hide hg12
    clear hm2 hcc2 hg12 hc1 hf1 hc2
    gi_wp2_with fail
    have c2 := Chg.setCell w2 ⟨w.heap.size, 0, none⟩ (.map (some b))
    have hcc := HC2.out.trans c2 (S'' := fun k => k = b ∨ k = w.heap.size) (fun _ _ h => .inl h) (fun _ _ h => .inr h)
    refine ⟨Kpt.of_chg hcc (fun k _ hk e => ?_), ?_, ?_, ?_, fun k hk => ⟨(G4.out k hk).1, Nat.lt_of_lt_of_le (G4.out k hk).2 hcc.size⟩, Nat.le_trans G5.out hcc.size, ?_⟩
    · have e1 : R k → k < w.heap.size ∧ k ≠ b := fun h => ⟨HRR.out k h, fun e => HBR.out (e ▸ h)⟩
      rcases hk with h1 | h1 | h1 | h1
      · have := e1 h1; omega
      · have := (G4.out k h1).1; omega
      · omega
      · omega
    · exact heap_setCell_same HG12.out _
    · exact c2.heap (HC2.out.heap G2.out (fun e => by have e' : w.heap.size + 1 = b := e; omega)) (fun e => absurd (show w.heap.size + 1 = w.heap.size from e) (by omega))
    · exact (G3.out.trans HC2.out (S'' := fun k => k = b) (fun _ _ h => h) (fun _ _ h => h)).trans c2 (fun _ _ h => h) (fun k hk e => by have e' : k = w.heap.size := e; omega)
    · have h3 := HM2.out.chg c2 (fun e => by have e' : b = w.heap.size := e; omega)
      rw [List.length_append, List.length_singleton]
      refine h3.congr (fun y => ?_)
      rw [List.contains_append]
      simp only [List.contains_cons, List.contains_nil, Bool.or_false]
      rw [Bool.beq_comm]
  case done =>
    rintro D Wd ⟨g1, g2, g3, g4, g5, g6⟩ hdef hnd
    have hcr := cell_of_heap g1 0
    have G3 := hide g3
    have G6 := hide g6
    clear g1 g2 g3 g4 g5 g6
    gi_wp2
    have hz0 := HZ0.out
    have hp := chg_putObj Wd W0.heap.size (.deferred none)
    refine ⟨by simp, .inl ⟨_, _, rfl, run_takeDeferred hdef, ?_⟩⟩
    exact ⟨_, results_tmp rfl _ _ _, rfl, G6.out.chg hp (fun e => by omega), G3.out.trans hp (fun _ _ h => h) (fun k hk e => by omega)⟩
  case stop => exact fun _ _ _ _ _ h => h.elim
theorem base_set (w : World) {v : Value} {cs : List Cm} (hd : DagOk cs) (hg : Gets w v cs) (n : Int) (hn : I64 n) :
    Calls Tryd.prog 80 #[v, .int .i64 n] w fun e w' => ∃ b m, e = .returned (.map (some b)) ∧ MapB w' b m (fun y => (aheadN cs n).contains y) ∧ w.heap.size ≤ b ∧ Below w.heap.size w w' := by
  have HA := hide (dag_Ahead w hg n hn hd)
  have hl := aheadN_length cs n
  have hl6 := hd.len
  have hwf : ∀ x ∈ aheadN cs n, (Lit.int .i64 x).wf = true := fun x hx => by
    have := ahead_range hx
    exact WalkArith.wf_i64 (by omega)
  generalize aheadN cs n = zs at *
  have HW := hide hwf
  obtain ⟨a, rfl⟩ := hg.1
  have hmm := @run_makeMap Tryd.prog
  clear hg hd hwf
  go_enter Tryd.func80, Tryd.ntmps80
  go_wp2_with fail
  refine HA.out.mono ?_
  rintro e w2 ⟨gv, rfl, ⟨gf, lb, R, rfl, eg, hs, hR⟩, hb2⟩
  have hal := Chg.alloc (fun _ => False) w2 (.map #[] 0)
  have HF := hide (fold_set (w2.alloc (.map #[] 0)) gf lb R zs eg (hs.later (Kpt.of_chg hal (fun _ _ _ h => h))) (fun k hk => Nat.lt_of_lt_of_le (hR k hk) hal.size) HW.out (by omega) w2.heap.size (MapB.made w2) (fun h => absurd (hR _ h) (by omega)))
  have HB2 := hide hb2
  have HAL := hide hal
  clear eg hs hR hb2 hal
  go_wp2_with fail
  refine HF.out.mono ?_
  rintro e w3 ⟨rfl, hm, hc⟩
  have HM := hide hm
  have HC := hide hc
  clear hm hc
  go_wp2_with fail
  go_ret
  exact ⟨_, _, rfl, HM.out, HB2.out.size, (HB2.out.trans (HAL.out.below HB2.out.size (fun _ _ h => h))).trans (HC.out.below (by have := HB2.out.size; have := HAL.out.size; omega) (fun k hk e => by have := HB2.out.size; omega))⟩
end Go.Proofs.YtnnkbicaokckbaaDoor
