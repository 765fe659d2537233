/- Lanes: what they are in memory; New, Len, Pending, and of none. Conditions: none. -/
import Derived.Test.YtjgcicpclojfgaaLaneE
import Derived.Test.YtjgcicpclojfgaaPeD
namespace Go.Proofs.Ytjgcicpclojfgaa
open Go.RowKit Go.Shelf

/-- append of a row, at a step of a region that draws its order. -/
theorem step_append {P : Program} {w : World} {ops : Array Oper} {o : Oper} {a : Act} {K : Act → World → Prop} {Q : Exit → Act → World → Prop} {E : Prop} (hgd : o.guard = none) (s x : Operand) (t : TypeId)
    (ho : o.op = .call { callee := .builtin .append, args := #[s, x], argTypes := #[t, t] })
    {e : TypeId} {z : Value} {size bytes : Nat} (hT : SlT P t e z size bytes) (base : Nat) {v : Value} {n : Nat} {xs : List Value} (hown : w.ownsRow base e size v n xs)
    {ad : Addr} {cx m : Nat} {news : List Value} (hr : Rd w (.slice (some ad) m cx) m news) (hs : a.eval s = v) (hx : a.eval x = .slice (some ad) m cx) (hl : news.length = m * size) (h1 : ∀ u ∈ news, u.oneCell' = true)
    (h63 : n + m ≤ maxLen) (hbytes : (n + m) * bytes ≤ 140737488355328) (hbase : base ≤ w.heap.size)
    (h : ∀ ao cap w', w'.ownsRow base e size (.slice ao (n + m) cap) (n + m) (xs ++ news) → Chg (fun k => v.ownBlock = some k) w w' → ((Value.slice ao (n + m) cap).ownBlock = v.ownBlock ∨ (Value.slice ao (n + m) cap).ownBlock = some w.heap.size) →
      K (a.put o.dst (.slice ao (n + m) cap)) w') :
    if Region.wanted o (yielded ops a.tmps) = true then Oper.wp P o a w K Q else E := by
  have hw : Region.wanted o (yielded ops a.tmps) = true := by simp [Region.wanted, hgd]
  rw [if_pos hw]
  obtain ⟨i, hi, hz, hsz, hby⟩ := info_parts hT.info
  obtain ⟨v', w', hrun, hown', hg, -, hat⟩ := run_append_own_at (P := P) (w := w) base t o.type e i z size bytes hT.under hi hz hsz hby hT.zsize hT.pos v n xs hown ad m cx news hl hr.add h1 h63 hbytes hbase
  obtain ⟨ao, cap', rfl⟩ := ownsRow_shape hown'
  unfold Oper.wp
  simp [execOp, ho, resolve, invoke, builtin, hs, hx, hrun, Result.andThen]
  exact h ao cap' w' hown' ⟨hg.os, hg.tape, hg.output, hg.size, fun k hk hn => hg.block k hk (fun e => hn e.symm)⟩ hat

/-- Lanes lie at block lp. -/
structure LaneAt (base : Nat) (w : World) (lp : Nat) (pend lanes : Int) (aa : Option Addr) (acap : Nat) (all : List En) (p : Nat) (ao : Option Addr) (cap : Nat) (wt : List En) : Prop where
  box : w.heap[lp]? = some (.cells #[.int .i64 pend, .int .i64 lanes, .slice aa all.length acap, .pointer (some ⟨p, 0, none⟩)] 105 (0, 0))
  low : base ≤ lp
  own : w.ownsRow base 71 4 (.slice aa all.length acap) all.length (flat pe_enc all)
  pile : pe_At base w p 67 ao cap wt
  far : ∀ k, (Value.slice aa all.length acap).ownBlock = some k → ¬ PSet p ao k
  few : all.length ≤ 60
def LSet (lp : Nat) (aa : Option Addr) (p : Nat) (ao : Option Addr) (k : Nat) : Prop := k = lp ∨ (Value.slice aa 0 0).ownBlock = some k ∨ PSet p ao k
theorem pset_ne_lp {T e T' : TypeId} {size base : Nat} {w : World} {p : Nat} {fv : Value} {ao : Option Addr} {cap n : Nat} {xs : List Value} (h : PileAt T e size base w p fv ao cap n xs) {lp : Nat} {cs : Array Value} {fr : Nat × Nat} (hb : w.heap[lp]? = some (.cells cs T' fr)) (h1 : T' ≠ T) (h2 : T' ≠ e) : ¬ PSet p ao lp := by
  rintro (rfl | h')
  · rw [h.1] at hb; cases hb; exact h1 rfl
  · exact ownsRow_ne h.2.1 hb h2 (own_slice ao _ _ _ _ ▸ h')
section
variable {base : Nat} {w w' : World} {lp : Nat} {pend lanes : Int} {aa : Option Addr} {acap : Nat} {all : List En} {p : Nat} {ao : Option Addr} {cap : Nat} {wt : List En}
theorem LaneAt.chg {S : Nat → Prop} (h : LaneAt base w lp pend lanes aa acap all p ao cap wt) (c : Chg S w w') (hs : ∀ k, LSet lp aa p ao k → ¬ S k) : LaneAt base w' lp pend lanes aa acap all p ao cap wt :=
  ⟨c.heap h.box (hs lp (.inl rfl)), h.low, c.owns h.own (fun b hb => hs b (.inr (.inl (own_slice aa _ _ _ _ ▸ hb)))), PileAt.chg h.pile c (fun k hk => hs k (.inr (.inr hk))), h.far, h.few⟩
theorem LaneAt.lt (h : LaneAt base w lp pend lanes aa acap all p ao cap wt) : ∀ k, LSet lp aa p ao k → base ≤ k ∧ k < w.heap.size := by
  rintro k (rfl | hk | hk)
  · exact ⟨h.low, (Array.getElem?_eq_some_iff.1 h.box).1⟩
  · exact ownsRow_lt h.own k (own_slice aa _ _ _ _ ▸ hk)
  · exact PileAt.lt h.pile k hk
theorem LaneAt.notp (h : LaneAt base w lp pend lanes aa acap all p ao cap wt) : ¬ PSet p ao lp := pset_ne_lp h.pile h.box (by decide) (by decide)
theorem LaneAt.notr (h : LaneAt base w lp pend lanes aa acap all p ao cap wt) : ¬ (Value.slice aa all.length acap).ownBlock = some lp := fun e => ownsRow_ne h.own h.box (by decide) e
end
/-- What a method that writes lanes leaves. -/
def LGrew (base : Nat) (w : World) (lp : Nat) (pend lanes : Int) (aa : Option Addr) (p : Nat) (ao : Option Addr) (all wt : List En) (w' : World) : Prop :=
  ∃ aa' acap' p' ao' cap', LaneAt base w' lp pend lanes aa' acap' all p' ao' cap' wt ∧ Chg (LSet lp aa p ao) w w' ∧ ∀ k, LSet lp aa' p' ao' k → LSet lp aa p ao k ∨ w.heap.size ≤ k

theorem lane_New (w : World) (pend lanes : Int) (h1 : 1 ≤ pend) (h2 : pend ≤ 8) (h3 : 1 ≤ lanes) (h4 : lanes ≤ 4) :
    Calls Try.prog 39 #[.int .i64 pend, .int .i64 lanes] w fun e w' => ∃ lp p, e = .returned (.pointer (some ⟨lp, 0, none⟩)) ∧ LaneAt w.heap.size w' lp pend lanes none 0 [] p none 0 [] ∧ Below w.heap.size w w' := by
  have d1 : decide (pend < 1) = false := decide_eq_false (by omega)
  have d2 : decide (pend > 8) = false := decide_eq_false (by omega)
  have d3 : decide (lanes < 1) = false := decide_eq_false (by omega)
  have d4 : decide (lanes > 4) = false := decide_eq_false (by omega)
  go_enter Try.func39, Try.ntmps39
  go_wp2_with fail
  refine (pe_New w _).mono ?_
  rintro e w1 ⟨rfl, hp, hb⟩
  have HP := hide hp
  have HB := hide hb
  have hl := (PileAt.lt hp _ (.inl rfl)).2
  have HL := hide hl
  clear hp hb hl
  go_wp2_with fail
  go_ret
  have hz := HB.out.size
  exact ⟨_, _, rfl, ⟨heap_alloc_new w1 _, hz, World.ownsRow_nil _ _ _ _, PileAt.chg HP.out (Chg.alloc (fun _ => False) w1 _) (fun _ _ h => h), (fun _ h => by cases h), by simp⟩, HB.out.alloc hz _⟩
theorem lane_New_0 (w : World) : Calls Try.prog 39 #[.int .i64 0, .int .i64 1] w fun e w' => e = .returned (.pointer none) ∧ w' = w := by
  go_enter Try.func39, Try.ntmps39
  go_wp2
  go_ret
  exact ⟨rfl, rfl⟩
section
variable {base : Nat} {lp : Nat} {pend lanes : Int} {aa : Option Addr} {acap : Nat} {all : List En} {p : Nat} {ao : Option Addr} {cap : Nat} {wt : List En}
theorem lane_Len (w : World) (h : LaneAt base w lp pend lanes aa acap all p ao cap wt) : Calls Try.prog 45 #[.pointer (some ⟨lp, 0, none⟩)] w fun e w' => e = .returned (.int .i64 wt.length) ∧ w' = w := by
  have HP := hide h.pile
  have h3 := cell_of_heap h.box 3
  clear h
  go_enter Try.func45, Try.ntmps45
  go_wp2_with fail
  refine (pe_Len _ _ _ _ _ _ HP.out).mono ?_
  rintro e w1 ⟨rfl, rfl⟩
  go_wp2_with fail
  go_ret
  exact ⟨rfl, rfl⟩
theorem lane_Pending (w : World) (h : LaneAt base w lp pend lanes aa acap all p ao cap wt) : Calls Try.prog 44 #[.pointer (some ⟨lp, 0, none⟩)] w fun e w' => e = .returned (.func (.func 89) #[] #[.pointer (some ⟨w.heap.size, 0, none⟩)]) ∧ w' = w.alloc (.cells #[.pointer (some ⟨p, 0, none⟩)] 101) := by
  have h3 := cell_of_heap h.box 3
  clear h
  go_enter Try.func44, Try.ntmps44
  go_wp2_with fail
  refine (pe_All w _).mono ?_
  rintro e w1 ⟨rfl, rfl⟩
  go_wp2_with fail
  go_ret
  exact ⟨rfl, rfl⟩
end
theorem lane_Len_nil (w : World) : Calls Try.prog 45 #[.pointer none] w fun e w' => e = .returned (.int .i64 0) ∧ w' = w := by
  go_enter Try.func45, Try.ntmps45
  go_wp2
  go_ret
  exact ⟨rfl, rfl⟩
theorem lane_Add_nil (w : World) (x y : Int) : Calls Try.prog 40 #[.pointer none, .int .i64 x, .int .i64 y] w fun e w' => e = .returned (.tuple #[.int .i64 0, .int .i64 1]) ∧ w' = w := by
  go_enter Try.func40, Try.ntmps40
  go_wp2
  refine bodyPost_ret (v := .tuple #[.int .i64 0, .int .i64 1]) (by simp [results, Try.results40, go_sem]) rfl ?_
  exact ⟨rfl, rfl⟩
theorem lane_Close_nil (w : World) (x y : Int) : Calls Try.prog 41 #[.pointer none, .int .i64 x, .int .i64 y] w fun e w' => e = .returned (.bool false) ∧ w' = w.alloc (.cells #[.int .i64 x] 3) := by
  go_enter Try.func41, Try.ntmps41
  go_wp2
  go_ret
  exact ⟨rfl, rfl⟩
theorem lane_Get_nil (w : World) (x : Int) : Calls Try.prog 51 #[.pointer none, .int .i64 x] w fun e w' => e = .returned (.tuple #[.agg #[.int .i64 0, .int .i64 0, .int .i64 0, .int .i64 0], .bool false]) ∧ Below w.heap.size w w' := by
  go_enter Try.func51, Try.ntmps51
  go_wp2
  refine bodyPost_ret (v := .tuple #[.agg #[.int .i64 0, .int .i64 0, .int .i64 0, .int .i64 0], .bool false]) (by simp [results, Try.results51, go_sem]) rfl ?_
  refine ⟨rfl, ?_⟩
  exact (Below.refl _ w).alloc (Nat.le_refl _) _
theorem lane_All (w : World) (lp : Option Addr) : Calls Try.prog 55 #[.pointer lp] w fun e w' => e = .returned (.func (.func 74) #[] #[.pointer (some ⟨w.heap.size, 0, none⟩)]) ∧ w' = w.alloc (.cells #[.pointer lp] 60) := by
  go_enter Try.func55, Try.ntmps55
  go_wp2
  go_ret
  exact ⟨rfl, rfl⟩
end Go.Proofs.Ytjgcicpclojfgaa
