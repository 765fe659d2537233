/- A region that draws its order, gone through by hand: what is fixed is taken first, what may turn the world is met when nothing else may come up. Conditions: none. -/
import Derived.Test.YtjmmmpnpkialjaaDoorBase
import Derived.OrdersHeld
import Derived.OrdersIn
import Derived.RangeFuncCalls
import Derived.Deep.RegionHeld3
import Derived.Deep.RegionHeld
namespace Go.Proofs.YtjmmmpnpkialjaaDoor
open Go.RowKit

section
variable {P : Program} {ops : Array Oper} {Q : Exit → Act → World → Prop} {md : Region.Mode} {S : World → Prop}

/-- Whatever may come up comes up; S holds at each step, but behind what is numbered nl or more. -/
def wpAnyG (P : Program) (md : Region.Mode) (ops : Array Oper) (Q : Exit → Act → World → Prop) (S : World → Prop) (nl : Nat) : Nat → Array Bool → Act → World → Prop
  | 0, listed, a, w => Region.ready md ops listed = [] ∧ Q .normal a w
  | fuel + 1, listed, a, w =>
    (Region.ready md ops listed = [] → Q .normal a w) ∧
    ∀ i ∈ Region.ready md ops listed, wpOp P ops Q i (fun a' w' => (i < nl → S w') ∧ wpAnyG P md ops Q S nl fuel (listed.setIfInBounds i true) a' w') a w
theorem wpAny_of_G {nl : Nat} : ∀ (fuel : Nat) (listed : Array Bool) (a : Act) (w : World), wpAnyG P md ops Q S nl fuel listed a w → wpAny P md ops Q fuel listed a w
  | 0, _, _, _, h => h
  | fuel + 1, _, _, _, h => ⟨h.1, fun i hi => wpOp_mono (fun a' w' h' => wpAny_of_G fuel _ a' w' h'.2) (h.2 i hi)⟩
/-- What is late waits for number i. -/
def lateB (md : Region.Mode) (ops : Array Oper) (nl i : Nat) : Bool := decide (i < nl) && (List.range ops.size).all fun j => decide (j < nl) || ((ops[j]?).map fun o => o.after.any fun e => Region.binds md e && e.on == i).getD true
theorem wpAnyG_first {nl i : Nat} {oi : Oper} {v : Value} (hi : ops[i]? = some oi) (hsel : ∀ (j : Nat) (o : Oper) cs b, ops[j]? = some o → o.op ≠ .select cs b)
    (hQ : ∀ c a w, Q (.panic c) (a.put oi.dst v) w → Q (.panic c) a w) (hnl : i < nl) (hlate : ∀ j oj, ops[j]? = some oj → nl ≤ j → ∃ e ∈ oj.after, Region.binds md e = true ∧ e.on = i) :
    ∀ (fuel : Nat) (listed : Array Bool) (a : Act) (w : World),
      (∀ j oj, ops[j]? = some oj → j ≠ i → listed.getD j true = false → (∀ e ∈ oj.after, Region.binds md e = true → e.on ≠ i) → oi.apart ops oj = true) →
      i ∈ Region.ready md ops listed → YieldsIf P ops S oi v a → S w →
      wpAnyG P md ops Q S nl fuel (listed.setIfInBounds i true) (a.put oi.dst v) w → wpAnyG P md ops Q S nl (fuel + 1) listed a w := by
  intro fuel
  induction fuel with
  | zero =>
    intro listed a w _ hr hy hS H
    refine ⟨fun h => (by rw [h] at hr; cases hr), fun j hj => ?_⟩
    by_cases hji : j = i
    · subst hji; exact hy.wpOp hi hS ⟨fun _ => hS, H⟩
    · have := ready_mono hj hji
      rw [H.1] at this
      cases this
  | succ fuel ih =>
    intro listed a w hfree hr hy hS H
    refine ⟨fun h => (by rw [h] at hr; cases hr), fun j hj => ?_⟩
    by_cases hji : j = i
    · subst hji; exact hy.wpOp hi hS ⟨fun _ => hS, H⟩
    · have h1 := H.2 j (ready_mono hj hji)
      obtain ⟨hjun, oj, hoj, hall⟩ := mem_ready.1 hj
      have hnot : ∀ e ∈ oj.after, Region.binds md e = true → e.on ≠ i := fun e he hb heq => by
        have h1 := hall e he hb
        have h0 := (mem_ready.1 hr).1
        rw [heq] at h1
        rcases Nat.lt_or_ge i listed.size with h' | h'
        · simp [h'] at h0 h1; rw [h0] at h1; cases h1
        · simp [Array.getElem?_eq_none h'] at h1
      have hjl : j < nl := by
        rcases Nat.lt_or_ge j nl with h | h
        · exact h
        · obtain ⟨e, he, hb, heq⟩ := hlate j oj hoj h
          exact absurd heq (hnot e he hb)
      have h2 := wpOp_putIf hoj (hfree j oj hoj hji hjun hnot) (fun cs b => hsel i oi cs b hi) (fun cs b => hsel j oj cs b hoj) hQ hy h1
      have hfree' : ∀ k ok, ops[k]? = some ok → k ≠ i → (listed.setIfInBounds j true).getD k true = false →
          (∀ e ∈ ok.after, Region.binds md e = true → e.on ≠ i) → oi.apart ops ok = true := fun k ok hk hki hun hno => by
        refine hfree k ok hk hki ?_ hno
        by_cases hjk : j = k
        · subst hjk; exact hjun
        · rw [getD_set_ne true hjk] at hun; exact hun
      refine wpOp_mono (fun a' w' h3 => ⟨h3.2.1, ih (listed.setIfInBounds j true) a' w' hfree' (ready_mono hr (Ne.symm hji)) h3.1 (h3.2.1 hjl) ?_⟩) h2
      rw [Array.setIfInBounds_comm _ _ hji]
      exact h3.2.2
theorem wpAnyG_take {nl i : Nat} {oi : Oper} {v : Value} {fuel : Nat} {listed : Array Bool} {a : Act} {w : World} (hi : ops[i]? = some oi) (hl : lateB md ops nl i = true)
    (hs : Region.noSelect ops = true) (hf : Region.free md ops listed i = true) (hr : (Region.ready md ops listed).contains i = true)
    (hQ : ∀ c a w, Q (.panic c) (a.put oi.dst v) w → Q (.panic c) a w) (hy : YieldsIf P ops S oi v a) (hS : S w)
    (h : wpAnyG P md ops Q S nl fuel (listed.setIfInBounds i true) (a.put oi.dst v) w) : wpAnyG P md ops Q S nl (fuel + 1) listed a w := by
  unfold lateB at hl
  simp only [Bool.and_eq_true, decide_eq_true_eq, List.all_eq_true, Bool.or_eq_true, List.mem_range] at hl
  refine wpAnyG_first hi (Region.noSelect_spec hs) hQ hl.1 (fun j oj hoj hj => ?_) fuel listed a w (Region.free_spec hi hf) (by simpa using hr) hy hS h
  rcases hl.2 j (Array.getElem?_eq_some_iff.1 hoj).1 with h1 | h1
  · omega
  · rw [hoj] at h1
    simp only [Option.map_some, Option.getD_some, Array.any_eq_true, Bool.and_eq_true, beq_iff_eq] at h1
    obtain ⟨k, hk, h2, h3⟩ := h1
    exact ⟨_, Array.getElem_mem hk, h2, h3⟩
theorem wpAnyG_done {nl : Nat} {listed : Array Bool} {a : Act} {w : World} (hr : Region.ready md ops listed = []) (h : Q .normal a w) :
    ∀ fuel, wpAnyG P md ops Q S nl fuel listed a w
  | 0 => ⟨hr, h⟩
  | _ + 1 => ⟨fun _ => h, by rw [hr]; simp⟩

theorem reg_start {id : Nat} {a : Act} {w : World} (S : World → Prop) (n nl : Nat) (hn : ops.size = n) (hm : P.follows .mixedOrders = true) (hS : S w.drew)
    (h : S w.drew → wpAnyG P .any ops Q S nl n (Array.replicate n false) a w.drew) : (Code.region id ops true).wp P Q a w :=
  wp_region_any hm (wpAny_of_G _ _ _ _ (by rw [hn]; exact h hS))
theorem reg_take {i nl : Nat} {dst : Option Tmp} {op : Op} {ty : TypeId} {pos : String} {after : Array Edge} {guard : Option (Nat × Bool)} {v : Value} {fuel : Nat} {listed : Array Bool} {a : Act} {w : World}
    (hi : ops[i]? = some ⟨dst, op, ty, pos, after, guard⟩) (hl : lateB md ops nl i = true) (hs : Region.noSelect ops = true) (hf : Region.free md ops listed i = true) (hr : (Region.ready md ops listed).contains i = true)
    (hQ : ∀ c a w, Q (.panic c) (a.put dst v) w → Q (.panic c) a w) (hw : Region.wanted ⟨dst, op, ty, pos, after, guard⟩ (yielded ops a.tmps) = true)
    (hy : ∀ w, S w → (execOp a.eval ⟨dst, op, ty, pos, after, guard⟩).run P w = .ok (.value v) w) (hS : S w)
    (h : wpAnyG P md ops Q S nl fuel (listed.setIfInBounds i true) (a.put dst v) w) : wpAnyG P md ops Q S nl (fuel + 1) listed a w :=
  wpAnyG_take hi hl hs hf hr hQ (.inl ⟨hw, hy⟩) hS h
theorem reg_skip {i nl : Nat} {dst : Option Tmp} {op : Op} {ty : TypeId} {pos : String} {after : Array Edge} {guard : Option (Nat × Bool)} {fuel : Nat} {listed : Array Bool} {a : Act} {w : World}
    (hi : ops[i]? = some ⟨dst, op, ty, pos, after, guard⟩) (hl : lateB md ops nl i = true) (hs : Region.noSelect ops = true) (hf : Region.free md ops listed i = true) (hr : (Region.ready md ops listed).contains i = true)
    (hQ : ∀ c a w, Q (.panic c) (a.put dst undef) w → Q (.panic c) a w) (hw : Region.wanted ⟨dst, op, ty, pos, after, guard⟩ (yielded ops a.tmps) = false) (hS : S w)
    (h : wpAnyG P md ops Q S nl fuel (listed.setIfInBounds i true) (a.put dst undef) w) : wpAnyG P md ops Q S nl (fuel + 1) listed a w :=
  wpAnyG_take hi hl hs hf hr hQ (.inr ⟨hw, rfl⟩) hS h
theorem reg_one {i nl : Nat} {fuel : Nat} {listed : Array Bool} {a : Act} {w : World} (hr : Region.ready md ops listed = [i]) (h : wpOp P ops Q i (fun a' w' => S w' ∧ wpAnyG P md ops Q S nl fuel (listed.setIfInBounds i true) a' w') a w) : wpAnyG P md ops Q S nl (fuel + 1) listed a w := by
  refine ⟨(fun h => by rw [hr] at h; cases h), fun j hj => ?_⟩
  rw [hr] at hj
  obtain rfl := List.mem_singleton.1 hj
  exact wpOp_mono (fun a w h => ⟨fun _ => h.1, h.2⟩) h
/-- What is late: nothing is to be shown anew. -/
theorem reg_late {i nl : Nat} {fuel : Nat} {listed : Array Bool} {a : Act} {w : World} (hr : Region.ready md ops listed = [i]) (hl : nl ≤ i) (h : wpOp P ops Q i (fun a' w' => wpAnyG P md ops Q S nl fuel (listed.setIfInBounds i true) a' w') a w) : wpAnyG P md ops Q S nl (fuel + 1) listed a w := by
  refine ⟨(fun h => by rw [hr] at h; cases h), fun j hj => ?_⟩
  rw [hr] at hj
  obtain rfl := List.mem_singleton.1 hj
  exact wpOp_mono (fun a w h => ⟨fun h => absurd h (by omega), h⟩) h
/-- Two may come up. -/
theorem reg_two {i j nl : Nat} {fuel : Nat} {listed : Array Bool} {a : Act} {w : World} (hr : Region.ready md ops listed = [i, j]) (h1 : wpOp P ops Q i (fun a' w' => S w' ∧ wpAnyG P md ops Q S nl fuel (listed.setIfInBounds i true) a' w') a w)
    (h2 : wpOp P ops Q j (fun a' w' => S w' ∧ wpAnyG P md ops Q S nl fuel (listed.setIfInBounds j true) a' w') a w) : wpAnyG P md ops Q S nl (fuel + 1) listed a w := by
  refine ⟨(fun h => by rw [hr] at h; cases h), fun k hk => ?_⟩
  rw [hr] at hk
  rcases List.mem_cons.1 hk with rfl | hk
  · exact wpOp_mono (fun a w h => ⟨fun _ => h.1, h.2⟩) h1
  · obtain rfl := List.mem_singleton.1 hk
    exact wpOp_mono (fun a w h => ⟨fun _ => h.1, h.2⟩) h2
theorem op_exec {i : Nat} {dst : Option Tmp} {op : Op} {ty : TypeId} {pos : String} {after : Array Edge} {guard : Option (Nat × Bool)} {K : Act → World → Prop} {a : Act} {w : World}
    (hi : ops[i]? = some ⟨dst, op, ty, pos, after, guard⟩) (hw : Region.wanted ⟨dst, op, ty, pos, after, guard⟩ (yielded ops a.tmps) = true)
    (h : Oper.wp P ⟨dst, op, ty, pos, after, guard⟩ a w K Q) : wpOp P ops Q i K a w := by
  unfold wpOp
  simp only [hi, hw, if_true]
  exact .inl h
theorem op_val {i : Nat} {dst : Option Tmp} {op : Op} {ty : TypeId} {pos : String} {after : Array Edge} {guard : Option (Nat × Bool)} {K : Act → World → Prop} {a : Act} {w w' : World} {v : Value}
    (hi : ops[i]? = some ⟨dst, op, ty, pos, after, guard⟩) (hw : Region.wanted ⟨dst, op, ty, pos, after, guard⟩ (yielded ops a.tmps) = true)
    (hx : (execOp a.eval ⟨dst, op, ty, pos, after, guard⟩).run P w = .ok (.value v) w') (h : K (a.put dst v) w') : wpOp P ops Q i K a w := by
  refine op_exec hi hw ?_
  unfold Oper.wp
  rw [hx]
  exact h
theorem op_store {i : Nat} {dst : Option Tmp} {op : Op} {ty : TypeId} {pos : String} {after : Array Edge} {guard : Option (Nat × Bool)} {K : Act → World → Prop} {a : Act} {w w' : World}
    (hi : ops[i]? = some ⟨dst, op, ty, pos, after, guard⟩) (hw : Region.wanted ⟨dst, op, ty, pos, after, guard⟩ (yielded ops a.tmps) = true)
    (hx : (execOp a.eval ⟨dst, op, ty, pos, after, guard⟩).run P w = .ok .skip w') (h : K (a.put dst undef) w') : wpOp P ops Q i K a w := by
  refine op_exec hi hw ?_
  unfold Oper.wp
  rw [hx]
  exact h
theorem op_call {i : Nat} {dst : Option Tmp} {ty : TypeId} {pos : String} {after : Array Edge} {guard : Option (Nat × Bool)} {K : Act → World → Prop} {a : Act} {w : World}
    {f : FuncId} {xs : Array Operand} {ts : Array TypeId} (vals : Array Value)
    (hi : ops[i]? = some ⟨dst, .call { callee := .value (.func f), args := xs, argTypes := ts }, ty, pos, after, guard⟩)
    (hw : Region.wanted ⟨dst, .call { callee := .value (.func f), args := xs, argTypes := ts }, ty, pos, after, guard⟩ (yielded ops a.tmps) = true)
    (eg : ∀ args w, (callFunc f args).run P w = .ok (.enter f args) w) (hv : xs.map a.eval = vals)
    (hc : Calls P f vals w fun e w' => ∃ v, e = .returned v ∧ K (a.put dst v) w') : wpOp P ops Q i K a w := by
  refine op_exec hi hw ?_
  unfold Oper.wp
  have he : (execOp a.eval ⟨dst, .call { callee := .value (.func f), args := xs, argTypes := ts }, ty, pos, after, guard⟩).run P w = .ok (.enter f vals) w := by
    rw [← hv]
    simp [execOp, resolve, invoke, Act.eval, eg, Deferred.ofValue]
  rw [he]
  refine hc.mono ?_
  rintro e w' ⟨v, rfl, hr⟩
  exact hr
/-- A call of a function value. -/
theorem op_callv {i : Nat} {dst : Option Tmp} {ty : TypeId} {pos : String} {after : Array Edge} {guard : Option (Nat × Bool)} {K : Act → World → Prop} {a : Act} {w : World}
    {x : Operand} {f : FuncId} {lb : Array Value} {xs : Array Operand} {ts : Array TypeId} (vals : Array Value)
    (hi : ops[i]? = some ⟨dst, .call { callee := .value x, args := xs, argTypes := ts }, ty, pos, after, guard⟩)
    (hw : Region.wanted ⟨dst, .call { callee := .value x, args := xs, argTypes := ts }, ty, pos, after, guard⟩ (yielded ops a.tmps) = true) (hxf : a.eval x = .func (.func f) #[] lb)
    (eg : ∀ args w, (callFunc f args).run P w = .ok (.enter f args) w) (hv : xs.map a.eval = vals)
    (hc : Calls P f (vals ++ lb) w fun e w' => ∃ v, e = .returned v ∧ K (a.put dst v) w') : wpOp P ops Q i K a w := by
  refine op_exec hi hw ?_
  unfold Oper.wp
  have he : (execOp a.eval ⟨dst, .call { callee := .value x, args := xs, argTypes := ts }, ty, pos, after, guard⟩).run P w = .ok (.enter f (vals ++ lb)) w := by
    rw [← hv]
    simp [execOp, resolve, invoke, hxf, eg, Deferred.ofValue]
  rw [he]
  refine hc.mono ?_
  rintro e w' ⟨v, rfl, hr⟩
  exact hr
/-- append onto a slice of the call's own. -/
theorem op_append {i : Nat} {dst : Option Tmp} {ty : TypeId} {pos : String} {after : Array Edge} {guard : Option (Nat × Bool)} {K : Act → World → Prop} {a : Act} {w : World} {s x : Operand} {t : TypeId}
    (hi : ops[i]? = some ⟨dst, .call { callee := .builtin .append, args := #[s, x], argTypes := #[t, t] }, ty, pos, after, guard⟩)
    (hw : Region.wanted ⟨dst, .call { callee := .builtin .append, args := #[s, x], argTypes := #[t, t] }, ty, pos, after, guard⟩ (yielded ops a.tmps) = true)
    {e : TypeId} {z : Value} {size bytes : Nat} (hT : SlT P t e z size bytes) (base : Nat) {v : Value} {n : Nat} {xs : List Value} (hown : w.ownsRow base e size v n xs)
    {vx : Value} {m : Nat} {news : List Value} (hrd : Rd w vx m news) (hs : a.eval s = v) (hx : a.eval x = vx) (hl : news.length = m * size) (h1 : ∀ u ∈ news, u.oneCell' = true)
    (h63 : n + m ≤ maxLen) (hbytes : (n + m) * bytes ≤ 140737488355328) (hbase : base ≤ w.heap.size)
    (h : ∀ ao cap w', w'.ownsRow base e size (.slice ao (n + m) cap) (n + m) (xs ++ news) → Chg (fun k => v.ownBlock = some k) w w' → ((Value.slice ao (n + m) cap).ownBlock = v.ownBlock ∨ (Value.slice ao (n + m) cap).ownBlock = some w.heap.size) →
      K (a.put dst (.slice ao (n + m) cap)) w') : wpOp P ops Q i K a w := by
  refine op_exec hi hw ?_
  obtain ⟨inf, hinf, hz, hsz, hby⟩ := info_parts hT.info
  have hra := hrd
  rcases hrd with ⟨rfl, rfl, rfl⟩ | ⟨ad, cap, rfl, hc, -⟩
  · obtain ⟨ao, cap, rfl⟩ := ownsRow_shape hown
    have hrun := run_append_owned_none (P := P) (w := w) base t ty e inf size hT.under hinf _ n xs hown
    unfold Oper.wp
    simp [execOp, resolve, invoke, builtin, hs, hx, hrun, Result.andThen]
    exact h ao cap w (by simpa using hown) (Chg.refl _ _) (.inl rfl)
  · obtain ⟨v', w', hrun, hown', hg, -, hat⟩ := run_append_own_at (P := P) (w := w) base t ty e inf z size bytes hT.under hinf hz hsz hby hT.zsize hT.pos v n xs hown ad m cap news hl hra.add h1 h63 hbytes hbase
    obtain ⟨ao, cap', rfl⟩ := ownsRow_shape hown'
    unfold Oper.wp
    simp [execOp, resolve, invoke, builtin, hs, hx, hrun, Result.andThen]
    exact h ao cap' w' hown' ⟨hg.os, hg.tape, hg.output, hg.size, fun k hk hn => hg.block k hk (fun e => hn e.symm)⟩ hat

/-- An operation that defers nothing, in a round of a loop over a function. -/
theorem opIn_of_op {l n : Nat} {o : Oper} {a : Act} {w : World} {K : Act → World → Prop} (hd : ∀ c, o.op ≠ .defer c) (h : o.wp P a w K Q) : o.wpIn (Fence.wide.inRound l) n P a w K Q := by
  refine ⟨fun f _ => trivial, ?_⟩
  rw [Oper.semAt_eq _ _ _ hd]
  unfold Oper.wp at h
  generalize (execOp a.eval o).run P w = r at *
  cases r with
  | ok x w' =>
    cases x <;> simp only [Oper.upon, Oper.uponIn] at h ⊢ <;> first
      | exact h
      | exact ⟨(fun h => by cases h), CallsIn.inRound l (callsIn_wide.2 h)⟩
      | exact ⟨(fun h => by cases h), fun c cs _ => let ⟨v, w', r, s⟩ := h c cs; ⟨v, w', r, stepsIn_wide.2 s⟩⟩
  | halt x w' => cases x <;> simp only [Oper.upon, Oper.uponIn] at h ⊢ <;> exact h
theorem anyIn_of_any {l n : Nat} (hd : (ops.all fun o => match o.op with | .defer _ => false | _ => true) = true) (hQ : ¬ LetsOut Q) : ∀ (fuel : Nat) (listed : Array Bool) (a : Act) (w : World),
    wpAny P md ops Q fuel listed a w → wpAnyIn (Fence.wide.inRound l) n P md ops Q fuel listed a w
  | 0, _, _, _, h => h
  | fuel + 1, listed, a, w, h => ⟨h.1, fun i hi => by
      have h2 := h.2 i hi
      unfold wpOp at h2
      unfold wpOpIn
      cases ho : ops[i]? with
      | none => simp only [ho] at h2 ⊢; exact anyIn_of_any hd hQ fuel _ _ _ h2
      | some o =>
        have hdo : ∀ c, o.op ≠ .defer c := fun c hc => by
          have := Array.all_eq_true.1 hd i (Array.getElem?_eq_some_iff.1 ho).1
          rw [(Array.getElem?_eq_some_iff.1 ho).2, hc] at this
          cases this
        simp only [ho] at h2 ⊢
        split
        · rename_i hw
          simp only [hw, if_true] at h2
          rcases h2 with h2 | h2
          · exact opIn_of_op hdo (Oper.wp_mono (fun a w h => anyIn_of_any hd hQ fuel _ a w h) h2)
          · exact absurd h2.2 hQ
        · rename_i hw
          simp only [hw] at h2
          exact ⟨fun _ _ => trivial, anyIn_of_any hd hQ fuel _ _ _ h2⟩⟩
/-- The beginning, in a round of a loop over a function. -/
theorem reg_start_in {id l nf : Nat} {a : Act} {w : World} (S : World → Prop) (n nl : Nat) (hn : ops.size = n) (hm : P.follows .mixedOrders = true) (hd : (ops.all fun o => match o.op with | .defer _ => false | _ => true) = true) (hQ : ¬ LetsOut Q) (hS : S w.drew)
    (h : S w.drew → wpAnyG P .any ops Q S nl n (Array.replicate n false) a w.drew) : (Code.region id ops true).wpIn (Fence.wide.inRound l) nf P Q a w :=
  wpIn_region_any hm (anyIn_of_any hd hQ _ _ _ _ (wpAny_of_G _ _ _ _ (by rw [hn]; exact h hS)))
end

theorem own_slice' (ao : Option Addr) (n c n' c' : Nat) : (Value.slice ao n c).ownBlock = (Value.slice ao n' c').ownBlock := by cases ao <;> rfl
/-- s[k:]: what it is. -/
theorem slice_from {P : Program} {t e : TypeId} {z : Value} {size bytes : Nat} (hT : SlT P t e z size bytes) {w : World} {ao : Option Addr} {n c : Nat} {cs : List Value} (h : Rd w (.slice ao n c) n cs) (hl : cs.length = n * size) (k : Nat) (hk : k ≤ n) :
    ∃ ao' c', (∀ W, (Instr.sliceAt t (.slice ao n c) (some (.int .i64 (k : Int))) none none).run P W = .ok (.slice ao' (n - k) c') W) ∧ Rd w (.slice ao' (n - k) c') (n - k) (cs.drop (k * size)) ∧ (∀ b, (Value.slice ao' (n - k) c').ownBlock = some b → (Value.slice ao n c).ownBlock = some b) := by
  obtain ⟨i, hi, hz, hsz, hby⟩ := info_parts hT.info
  have he : P.elem t = e := by simp [Program.elem, hT.under]
  have hrun : ∀ W, (Instr.sliceAt t (.slice ao n c) (some (.int .i64 (k : Int))) none none).run P W = .ok (.slice (if c = k then ao else ao.map (·.add (k * size))) (n - k) (c - k)) W := fun W => by
    rw [run_sliceAt_slice W t _ _ _ _ (by rw [he]; exact hT.under), run_slice_l W t ao n c (by rw [he]; exact hT.under) .i64 k (by omega) (by omega), he]
    have ht : (typeInfo e).run P W = .ok i W := by simp [typeInfo, hi]
    simp [sizeOf, ht, hsz, go_sem, Result.andThen, sliced]
  refine ⟨_, _, hrun, ?_, ?_⟩
  · rcases h with ⟨e1, rfl, rfl⟩ | ⟨⟨b, off, sp⟩, cap, e1, hc, ⟨ha, h⟩ | ⟨rfl, rfl, rfl⟩⟩
    · cases e1
      obtain rfl : k = 0 := by omega
      simp only [if_true, List.drop_nil]
      exact .inl ⟨rfl, rfl, rfl⟩
    · cases e1
      obtain rfl : sp = none := ha
      by_cases hck : c = k
      · rw [if_pos hck]
        have : cs.drop (k * size) = [] := List.drop_eq_nil_of_le (by rw [hl]; exact Nat.mul_le_mul_right _ (by omega))
        rw [this]
        exact .inr ⟨_, _, rfl, by omega, .inl ⟨rfl, fun j u hu => by simp at hu⟩⟩
      · rw [if_neg hck]
        refine .inr ⟨_, _, rfl, by omega, .inl ⟨?_, fun j u hu => ?_⟩⟩
        · simp [Addr.add]; split <;> rfl
        · show w.cell? ⟨((⟨b, off, none⟩ : Addr).add (k * size)).block, ((⟨b, off, none⟩ : Addr).add (k * size)).off + j, none⟩ = some u
          rw [Addr.add_lit]
          rw [List.getElem?_drop] at hu
          have := h (k * size + j) u hu
          rwa [← Nat.add_assoc] at this
    · cases e1
      obtain rfl : k = 0 := by omega
      exact .inr ⟨_, _, rfl, by omega, .inr ⟨rfl, rfl, by simp⟩⟩
  · intro b hb
    by_cases hck : c = k
    · rw [if_pos hck] at hb
      exact (own_slice' ao _ _ _ _) ▸ hb
    · rw [if_neg hck] at hb
      cases ao with
      | none => cases hb
      | some a =>
        have hbl : (a.add (k * size)).block = a.block := by unfold Addr.add; split <;> rfl
        simp only [Option.map_some, Value.ownBlock] at hb ⊢
        rw [← hb, hbl]
/-- s[:k]: what it is. -/
theorem slice_upto {P : Program} {t e : TypeId} {z : Value} {size bytes : Nat} (hT : SlT P t e z size bytes) (ao : Option Addr) (n c k : Nat) (hk : k ≤ c) (W : World) :
    (Instr.sliceAt t (.slice ao n c) none (some (.int .i64 (k : Int))) none).run P W = .ok (.slice ao k c) W := by
  obtain ⟨i, hi, hz, hsz, hby⟩ := info_parts hT.info
  have he : P.elem t = e := by simp [Program.elem, hT.under]
  rw [run_sliceAt_slice W t _ _ _ _ (by rw [he]; exact hT.under), run_slice_h W t ao n c (by rw [he]; exact hT.under) .i64 k (by omega) (by omega), he]
  have ht : (typeInfo e).run P W = .ok i W := by simp [typeInfo, hi]
  simp [sizeOf, ht, hsz, go_sem, Result.andThen, sliced, Addr.add]
theorem Rd.upto {w : World} {ao : Option Addr} {n c : Nat} {cs : List Value} (h : Rd w (.slice ao n c) n cs) (k size : Nat) (hk : k ≤ n) (hl : cs.length = n * size) : Rd w (.slice ao k c) k (cs.take (k * size)) := by
  rcases h with ⟨e1, rfl, rfl⟩ | ⟨⟨b, off, sp⟩, cap, e1, hc, ⟨ha, h⟩ | ⟨rfl, rfl, rfl⟩⟩
  · cases e1
    obtain rfl : k = 0 := by omega
    exact .inl ⟨rfl, rfl, by simp⟩
  · cases e1
    refine .inr ⟨_, _, rfl, by omega, .inl ⟨ha, fun j u hu => ?_⟩⟩
    rw [List.getElem?_take] at hu
    split at hu
    · exact h j u hu
    · cases hu
  · cases e1
    obtain rfl : k = 0 := by omega
    exact .inr ⟨_, _, rfl, by omega, .inr ⟨rfl, rfl, by simp⟩⟩
end Go.Proofs.YtjmmmpnpkialjaaDoor
