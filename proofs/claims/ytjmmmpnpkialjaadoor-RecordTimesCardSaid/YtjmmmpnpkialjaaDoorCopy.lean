/- copy(dst, src) at elements of whatever size: what it lays; as a step of a walk and of a region that draws. No program is named. Conditions: none. -/
import Derived.Test.YtjmmmpnpkialjaaDoorBase
import Derived.Laws.CopyRow
import Derived.Laws.CopyOwn
import Derived.Lib.AppendZerosOnto
import Derived.Lib.Overlaps
import Derived.Lib.Walk
import Derived.Shelf.RegionOpenPlain
namespace Go.Proofs.YtjmmmpnpkialjaaDoor
open Go.RowKit

/-- cs laid over L from off on. -/
def lay (L : List Value) (off : Nat) (cs : List Value) : List Value := L.take off ++ (cs ++ L.drop (off + cs.length))
theorem lay_length (L : List Value) (off : Nat) (cs : List Value) (h : off + cs.length ≤ L.length) : (lay L off cs).length = L.length := by simp [lay]; omega

theorem run_copy_n {P : Program} (w : World) (dT sT ty elem : TypeId) (g o dLen dCap : Nat) (a : Addr) (sLen sCap : Nat) (cur : Array Value) (t : TypeId) (cs : List Value) (k n : Nat)
    (hu : P.underlying dT = some (.slice elem)) (hs : (P.info? elem).map (·.size) = some k)
    (hg : w.heap[g]? = some (.cells cur t (0, 0))) (hn : n = Nat.min sLen dLen) (hl0 : cs.length = n * k)
    (hsrc : ∀ j v, cs[j]? = some v → w.cell? (a.add j) = some v) (hfit : o + cs.length ≤ cur.size) (h1 : ∀ v ∈ cs, v.oneCell' = true) :
    (Builtin.copy_ #[dT, sT] ty #[.slice (some ⟨g, o, none⟩) dLen dCap, .slice (some a) sLen sCap]).run P w =
      .ok (goInt n) (w.setRow g (lay cur.toList o cs).toArray) := by
  have hl := run_loadCells_list (P := P) w a cs hsrc
  have hst := run_storeCells_at P g o t cs 0 cur w hg (by simpa using hfit) h1
  cases hq : P.info? elem with
  | none => simp [hq] at hs
  | some i =>
    have hi : i.size = k := by simpa [hq] using hs
    rw [hl0] at hl
    simp [Builtin.copy_, run_underlying hu, Builtin.lenOf, Builtin.firstCells, sizeOf, typeInfo, hq, hi, ← hn, hl, hst, lay]

theorem chg_setRow (w : World) (g : Nat) (cs : Array Value) : Chg (fun k => k = g) w (w.setRow g cs) :=
  ⟨rfl, rfl, rfl, by simp [World.setRow], fun k _ hn => setRow_other w g k cs hn⟩

theorem lay_set1 (L : List Value) (k : Nat) (v : Value) (h : k < L.length) : L.set k v = lay L k [v] := by
  rw [lay, List.set_eq_take_append_cons_drop, if_pos h]; rfl
theorem lay_snoc (L xs : List Value) (k : Nat) (b : Value) (h : k + xs.length < L.length) : (lay L k xs).set (k + xs.length) b = lay L k (xs ++ [b]) := by
  have hl := lay_length L k xs (by omega)
  rw [lay_set1 _ _ _ (by rw [hl]; exact h)]
  have e0 : lay L k xs = (L.take k ++ xs) ++ L.drop (k + xs.length) := by rw [lay, List.append_assoc]
  have e1 : (L.take k ++ xs).length = k + xs.length := by rw [List.length_append, List.length_take]; omega
  have e2 : (lay L k xs).take (k + xs.length) = L.take k ++ xs := by rw [e0, List.take_left' e1]
  have e3 : (lay L k xs).drop (k + xs.length + 1) = L.drop (k + xs.length + 1) := by rw [e0, ← List.drop_drop, List.drop_left' e1, List.drop_drop]
  show (lay L k xs).take (k + xs.length) ++ ([b] ++ (lay L k xs).drop (k + xs.length + [b].length)) = _
  rw [e2, List.length_singleton, e3]
  unfold lay
  simp [Nat.add_assoc]
theorem lay_set2 (L : List Value) (k : Nat) (a b : Value) (h : k + 1 < L.length) : (L.set k a).set (k + 1) b = lay L k [a, b] := by
  rw [lay_set1 L k a (by omega)]
  exact lay_snoc L [a] k b h
theorem lay_set4 (L : List Value) (k : Nat) (a b c d : Value) (h : k + 3 < L.length) : (((L.set k a).set (k + 1) b).set (k + 2) c).set (k + 3) d = lay L k [a, b, c, d] := by
  rw [lay_set2 L k a b (by omega)]
  have e1 := lay_snoc L [a, b] k c (by simp; omega)
  have e2 := lay_snoc L [a, b, c] k d (by simp; omega)
  simp only [List.length_cons, List.length_nil] at e1 e2
  exact (congrArg (fun l => l.set (k + 3) d) e1).trans e2
/-- A row from which some are being taken: k are left of the first j. -/
def DelRow (e : TypeId) (size : Nat) (g cap n j k : Nat) (kept rest : List Value) (w : World) : Prop :=
  ∃ cur : List Value, w.heap[g]? = some (.cells cur.toArray e (0, 0)) ∧ cur.length = cap * size ∧ cur.take (k * size) = kept ∧ (cur.take (n * size)).drop (j * size) = rest
theorem DelRow.chg {e : TypeId} {size g cap n j k : Nat} {kept rest : List Value} {w w' : World} {S : Nat → Prop} (h : DelRow e size g cap n j k kept rest w) (c : Chg S w w') (hs : ¬ S g) : DelRow e size g cap n j k kept rest w' := by
  obtain ⟨cur, h1, h2⟩ := h
  exact ⟨cur, c.heap h1 hs, h2⟩
/-- Behind the store of one that stays. -/
theorem delRow_lay {size cap n j k : Nat} {cur kept x rest : List Value} (hx : x.length = size) (hl : cur.length = cap * size) (hk : cur.take (k * size) = kept) (hr : (cur.take (n * size)).drop (j * size) = x ++ rest) (hkj : k + 1 ≤ j + 1) (hjn : j < n) (hn : n ≤ cap) :
    (lay cur (k * size) x).length = cap * size ∧ (lay cur (k * size) x).take ((k + 1) * size) = kept ++ x ∧ ((lay cur (k * size) x).take (n * size)).drop ((j + 1) * size) = rest := by
  have e1 : (k + 1) * size = k * size + size := by rw [Nat.add_mul, Nat.one_mul]
  have e2 : (j + 1) * size = j * size + size := by rw [Nat.add_mul, Nat.one_mul]
  have e3 : (j + 1) * size ≤ n * size := Nat.mul_le_mul_right _ (by omega)
  have e4 : n * size ≤ cap * size := Nat.mul_le_mul_right _ hn
  have e5 : (k + 1) * size ≤ (j + 1) * size := Nat.mul_le_mul_right _ hkj
  have hlen := lay_length cur (k * size) x (by rw [hx, hl]; omega)
  refine ⟨by rw [hlen, hl], ?_, ?_⟩
  · rw [lay, ← List.append_assoc, e1, ← hx, List.take_left' (by rw [List.length_append, List.length_take, hl, hx]; omega), hx, hk]
  · have hd : (lay cur (k * size) x).drop ((j + 1) * size) = cur.drop ((j + 1) * size) := by
      rw [lay, ← List.append_assoc, List.drop_append, List.drop_eq_nil_of_le (by rw [List.length_append, List.length_take, hl, hx]; omega), List.nil_append, List.drop_drop]
      congr 1
      rw [List.length_append, List.length_take, hl, hx]; omega
    rw [List.drop_take, hd, ← List.drop_take, e2, ← List.drop_drop, hr, List.drop_left' hx]
theorem delRow_skip {size n j : Nat} {cur x rest : List Value} (hx : x.length = size) (hr : (cur.take (n * size)).drop (j * size) = x ++ rest) : (cur.take (n * size)).drop ((j + 1) * size) = rest := by
  rw [Nat.add_mul, Nat.one_mul, ← List.drop_drop, hr, List.drop_left' hx]
theorem delRow_get {size n j i : Nat} {cur x rest : List Value} (hx : x.length = size) (hr : (cur.take (n * size)).drop (j * size) = x ++ rest) (hi : i < size) (u : Value) (hu : x[i]? = some u) : cur[j * size + i]? = some u := by
  have h1 : ((cur.take (n * size)).drop (j * size))[i]? = some u := by rw [hr, List.getElem?_append_left (by omega)]; exact hu
  rw [List.getElem?_drop, List.getElem?_take] at h1
  split at h1
  · exact h1
  · cases h1

/-- What a copy leaves: the row at g. -/
theorem copy_lays {P : Program} {w : World} {dT sT e : TypeId} (ty : TypeId) {z : Value} {size bytes : Nat} (hT : SlT P dT e z size bytes) {g o dLen dCap : Nat} {cur : List Value} {t : TypeId} (hg : w.heap[g]? = some (.cells cur.toArray t (0, 0)))
    {b so m sCap : Nat} {cs : List Value} (hc : CellsAt w b so cs) (hl : cs.length = min m dLen * size) (hfit : o + cs.length ≤ cur.length) (h1 : ∀ v ∈ cs, v.oneCell' = true) :
    ∃ w', (Builtin.copy_ #[dT, sT] ty #[.slice (some ⟨g, o, none⟩) dLen dCap, .slice (some ⟨b, so, none⟩) m sCap]).run P w = .ok (goInt ((min m dLen : Nat) : Int)) w' ∧
      w'.heap[g]? = some (.cells (lay cur o cs).toArray t (0, 0)) ∧ Chg (fun k => k = g) w w' := by
  obtain ⟨i, hi, hz, hsz, hby⟩ := info_parts hT.info
  have := run_copy_n (P := P) w dT sT ty e g o dLen dCap ⟨b, so, none⟩ m sCap cur.toArray t cs size (min m dLen) hT.under (by rw [hi]; simp [hsz]) hg rfl hl
    (fun j v hv => by rw [Addr.add_lit]; exact hc j v hv) (by simpa using hfit) h1
  exact ⟨_, this, by simpa using setRow_heap w g _ _ t _ hg, chg_setRow w g _⟩

theorem wpl_copy {P : Program} {w : World} {ops : Array Oper} {rest : List Oper} {o : Oper} {a : Act} {Q : Exit → Act → World → Prop} (hgd : o.guard = none) (d s : Operand) (dT sT : TypeId)
    (ho : o.op = .call { callee := .builtin .copy, args := #[d, s], argTypes := #[dT, sT] }) {e : TypeId} {z : Value} {size bytes : Nat} (hT : SlT P dT e z size bytes)
    {g off dLen dCap b so m sCap : Nat} {cur cs : List Value} {t : TypeId} (hg : w.heap[g]? = some (.cells cur.toArray t (0, 0)))
    (hd : a.eval d = .slice (some ⟨g, off, none⟩) dLen dCap) (hs : a.eval s = .slice (some ⟨b, so, none⟩) m sCap) (hc : CellsAt w b so cs) (hl : cs.length = min m dLen * size) (hfit : off + cs.length ≤ cur.length) (h1 : ∀ v ∈ cs, v.oneCell' = true)
    (h : ∀ w', w'.heap[g]? = some (.cells (lay cur off cs).toArray t (0, 0)) → Chg (fun k => k = g) w w' → wpList P ops Q rest (a.put o.dst (goInt ((min m dLen : Nat) : Int))) w') :
    wpList P ops Q (o :: rest) a w := by
  obtain ⟨w', hrun, h2, h3⟩ := copy_lays (P := P) (sT := sT) (dCap := dCap) (sCap := sCap) o.type hT hg hc hl hfit h1
  refine wpList_plain hgd fun K hK => ?_
  unfold Oper.wp
  simp [execOp, ho, resolve, invoke, builtin, hd, hs, hrun, Result.andThen]
  exact hK _ _ (h w' h2 h3)

/-- Cells laid in two steps, the new ones first. -/
theorem lay_two (L xs vs ys : List Value) (k : Nat) (hk : L.take k = xs.take k) (hx : k ≤ xs.length) : (lay (lay L k vs) (k + vs.length) ys).take (k + (vs.length + ys.length)) = xs.take k ++ (vs ++ ys) := by
  have e1 : (lay L k vs).take (k + vs.length) = xs.take k ++ vs := by
    simp only [lay, hk]
    rw [← List.append_assoc, List.take_left' (by simp; omega)]
  rw [lay, e1, ← List.append_assoc, List.take_left' (by simp; omega), List.append_assoc]
/-- Likewise, the elder ones first. -/
theorem lay_two' (L xs vs ys : List Value) (k : Nat) (hk : L.take k = xs.take k) (hx : k ≤ xs.length) (hL : k + vs.length + ys.length ≤ L.length) : (lay (lay L (k + vs.length) ys) k vs).take (k + (vs.length + ys.length)) = xs.take k ++ (vs ++ ys) := by
  have e1 : (lay L (k + vs.length) ys).take k = xs.take k := by
    rw [lay, List.take_append_of_le_length (by simp; omega), List.take_take, Nat.min_eq_left (by omega), hk]
  have e2 : (lay L (k + vs.length) ys).drop (k + vs.length) = ys ++ L.drop (k + vs.length + ys.length) := by
    rw [lay, List.drop_left' (by simp; omega)]
  rw [lay, e1, e2, ← List.append_assoc, ← List.append_assoc, List.take_left' (by simp; omega), List.append_assoc]

theorem zero_one {z : Value} (n : Nat) (h : ∀ v ∈ z.cells.toList, v.oneCell' = true) (hp : 0 < z.cells.size) : ∀ v ∈ (Builtin.zeroCells z.cells n).toList, v.oneCell' = true := by
  intro v hv
  simp only [Builtin.zeroCells, Array.toList_map, List.mem_map] at hv
  obtain ⟨i, _, rfl⟩ := hv
  have hlt : i % z.cells.size < z.cells.size := Nat.mod_lt _ hp
  rw [getElem!_pos z.cells _ hlt]
  exact h _ (by simp)
/-- clear(s) of a row that is known. -/
theorem wpl_clear {P : Program} {w : World} {ops : Array Oper} {rest : List Oper} {o : Oper} {a : Act} {Q : Exit → Act → World → Prop} (hgd : o.guard = none) (d : Operand) (dT : TypeId)
    (ho : o.op = .call { callee := .builtin .clear, args := #[d], argTypes := #[dT] }) {e : TypeId} {z : Value} {size bytes : Nat} (hT : SlT P dT e z size bytes)
    {g off m c : Nat} {cur : List Value} {t : TypeId} (hg : w.heap[g]? = some (.cells cur.toArray t (0, 0)))
    (hd : a.eval d = .slice (some ⟨g, off, none⟩) m c) (hm : 0 < m) (hfit : off + m * size ≤ cur.length) (h1 : ∀ v ∈ z.cells.toList, v.oneCell' = true)
    (h : ∀ w' zs, zs.length = m * size → w'.heap[g]? = some (.cells (lay cur off zs).toArray t (0, 0)) → Chg (fun k => k = g) w w' → wpList P ops Q rest (a.put o.dst (.tuple #[])) w') :
    wpList P ops Q (o :: rest) a w := by
  obtain ⟨i, hi, hz, hsz, hby⟩ := info_parts hT.info
  have hl : (Builtin.zeroCells z.cells m).toList.length = m * size := by rw [Array.length_toList, size_zeroCells, hT.zsize]
  have hst := run_storeCells_at P g off t (Builtin.zeroCells z.cells m).toList 0 cur.toArray w hg (by simp only [hl]; simpa using hfit) (zero_one m h1 (by rw [hT.zsize]; exact hT.pos))
  have hrun : (Builtin.clear_ #[dT] o.type #[.slice (some ⟨g, off, none⟩) m c]).run P w = .ok (.tuple #[]) (w.setRow g (lay cur off (Builtin.zeroCells z.cells m).toList).toArray) := by
    cases m with
    | zero => omega
    | succ m => simp [Builtin.clear_, run_underlying hT.under, zeroValue, typeInfo, hi, hz, hst, lay]
  refine wpList_plain hgd fun K hK => ?_
  unfold Oper.wp
  simp [execOp, ho, resolve, invoke, builtin, hd, hrun, Result.andThen]
  exact hK _ _ (h _ _ hl (by simpa using setRow_heap w g _ _ t _ hg) (chg_setRow w g _))

/-- slices.overlaps of two rows in two blocks. -/
theorem run_overlaps {P : Program} {f : FuncId} {fn : Func} (w : World) {tS tR e : TypeId} {z : Value} {size bytes : Nat} (hT : SlT P tS e z size bytes) (hf : P.funcs[f]? = some fn) (hname : (fn.name == "runtime.NumGoroutine") = false)
    (hb : fn.body.isNone = true) (hn : Extern.findNext fn = none) (he : Extern.find fn = some (Extern.SlicesOverlaps.overlaps #[tS, tS] #[tR]))
    {ba bb : Nat} {ca cb : Array Value} {tA tB : TypeId} (hA : w.heap[ba]? = some (.cells ca tA (0, 0))) (hB : w.heap[bb]? = some (.cells cb tB (0, 0))) (hne : ba ≠ bb) (hpos : 0 < cb.size) (oa la qa ob lb qb : Nat) :
    (callFunc f #[.slice (some ⟨ba, oa, none⟩) la qa, .slice (some ⟨bb, ob, none⟩) lb qb]).run P w = .ok (.value (.bool false)) w := by
  obtain ⟨i, hi, hz, hsz, hby⟩ := info_parts hT.info
  rw [run_callFunc_extern hf hname hb hn he, Go.Lib.run_overlaps_apart w tS tR e hT.under size (fun w => by simp [sizeOf, typeInfo, hi, hsz]) ⟨ba, oa, none⟩ ⟨bb, ob, none⟩ la qa lb qb hne tA tB ca.size cb.size
    (by simp [World.shape?, hA]) (by simp [World.shape?, hB]) (by omega) (by simp [World.frozen?, hA]) (by simp [World.frozen?, hA])]
  rfl

theorem own_slice (ao : Option Addr) (n c n' c' : Nat) : (Value.slice ao n c).ownBlock = (Value.slice ao n' c').ownBlock := by cases ao <;> rfl
/-- An append's word on where its value lies. -/
theorem hat_of {o o' : Option Nat} {n : Nat} (h : o = o' ∨ o = some n) : ∀ k, o = some k → o' = some k ∨ n ≤ k := by
  intro k hk
  rcases h with h | h
  · exact .inl (h ▸ hk)
  · rw [h] at hk; cases hk; exact .inr (Nat.le_refl _)

/-- A row behind slices.Insert. -/
def insRow (size i : Nat) (xs vs : List Value) : List Value := xs.take (i * size) ++ (vs ++ xs.drop (i * size))
def Insd (base : Nat) (e : TypeId) (size : Nat) (w : World) (ao : Option Addr) (n cap : Nat) (ys : List Value) (en : Ending) (w' : World) : Prop :=
  ∃ ao' cap', en = .returned (.slice ao' (n + 1) cap') ∧ w'.ownsRow base e size (.slice ao' (n + 1) cap') (n + 1) ys ∧ Chg (fun k => (Value.slice ao n cap).ownBlock = some k) w w' ∧
      (∀ k, (Value.slice ao' (n + 1) cap').ownBlock = some k → (Value.slice ao n cap).ownBlock = some k ∨ w.heap.size ≤ k)

/-- A row behind slices.Delete of its first element. -/
def delRow (size : Nat) (xs : List Value) : List Value := xs.drop size
def Delt (base : Nat) (e : TypeId) (size : Nat) (w : World) (ao : Option Addr) (n cap : Nat) (ys : List Value) (en : Ending) (w' : World) : Prop :=
  en = .returned (.slice ao n cap) ∧ w'.ownsRow base e size (.slice ao n cap) n ys ∧ Chg (fun k => (Value.slice ao n cap).ownBlock = some k) w w'

/-- A row behind slices.DeleteFunc. -/
def Delf (base : Nat) (e : TypeId) (size : Nat) (w : World) (ao : Option Addr) (m cap : Nat) (ys : List Value) (en : Ending) (w' : World) : Prop :=
  en = .returned (.slice ao m cap) ∧ w'.ownsRow base e size (.slice ao m cap) m ys ∧ Chg (fun k => (Value.slice ao 0 0).ownBlock = some k) w w'

/-- append(s, make(T, k)...) where there is no room. -/
theorem wpl_append_zeros {P : Program} {w : World} {ops : Array Oper} {rest : List Oper} {o : Oper} {a : Act} {Q : Exit → Act → World → Prop} (hgd : o.guard = none) (s x : Operand) (t tn : TypeId)
    (ho : o.op = .call { callee := .builtin .append, args := #[s, x], argTypes := #[t, tn] }) {e : TypeId} {z : Value} {size bytes : Nat} (hT : SlT P t e z size bytes) {kq kn : IntKind} (htn : P.underlying tn = some (.int kn))
    {vs : Value} {n cap k N : Nat} (hN : n + k = N) {ao : Option Addr} {olds : List Value} (hvs : vs = .slice ao n cap) (hr : Rd w vs n olds) (hl : olds.length = n * size) (hs : a.eval s = vs) (hx : a.eval x = .int kq k) (hk : 0 < k) (hg : cap < N) (hbytes : N * bytes ≤ 140737488355328) (h63 : N ≤ maxLen)
    (h : ∀ (c : Nat) (w' : World) (zs : List Value), N ≤ c → c ≤ maxLen → zs.length = (c - n) * size → w'.heap[w.heap.size]? = some (.cells (olds ++ zs).toArray e (0, 0)) → Chg (fun _ => False) w w' → wpList P ops Q rest (a.put o.dst (.slice (some ⟨w.heap.size, 0, none⟩) N c)) w') :
    wpList P ops Q (o :: rest) a w := by
  subst hvs
  subst hN
  obtain ⟨i, hi, hz, hsz, hby⟩ := info_parts hT.info
  have hold : (Builtin.firstCells i.size n (.slice ao n cap)).run P w.drew = .ok olds.toArray w.drew := by
    rw [hsz]
    obtain ⟨ao', cap', e1, hc, h0⟩ := hr.shape
    cases e1
    by_cases hn : 0 < n
    · obtain ⟨b, off, rfl, hcs⟩ := h0 hn
      have := run_loadCells_list (P := P) w.drew ⟨b, off, none⟩ olds (fun j v hj => by rw [Addr.add_lit]; exact hcs j v hj)
      rw [hl] at this
      exact this
    · obtain rfl : n = 0 := by omega
      obtain rfl : olds = [] := List.eq_nil_of_length_eq_zero (by simpa using hl)
      cases ao with
      | none => rfl
      | some ad =>
        have := run_loadCells_list (P := P) w.drew ad [] (fun j v hj => by simp at hj)
        simpa [Builtin.firstCells] using this
  have hpos := hT.pos
  have hmx : maxLen = 9223372036854775807 := rfl
  have hkb : k * bytes ≤ (n + k) * bytes := Nat.mul_le_mul_right _ (by omega)
  have hrun := Go.Lib.run_append_grow_zeros (P := P) w t tn o.type e i z kq kn hT.under htn hi hz ao n cap olds hold k hk (by omega) hg (by omega) (by rw [hby]; omega) (by rw [hby]; exact growslice_fits hg hbytes)
  refine Go.Lib.wpList_append_run w hgd s x t tn ho _ _ hs hx _ _ hrun ?_
  refine h _ _ ((Builtin.zeroCells z.cells k).toList ++ (Builtin.zeroCells z.cells (grownCap w (n + k) cap e - (n + k))).toList) (grownCap_ge w (n + k) cap e) (grownCap_le_maxLen w (n + k) cap e h63) ?_ ?_ ?_
  · have hge := grownCap_ge w (n + k) cap e
    simp only [List.length_append, Array.length_toList, size_zeroCells, hT.zsize, ← Nat.add_mul]
    congr 1
    omega
  · rw [show w.heap.size = w.drew.heap.size from rfl, World.alloc_heap_new]
    congr 2
    apply Array.ext'
    simp
  · exact (Chg.drew _ w).trans (Chg.alloc (fun _ => False) w.drew _) (fun _ _ h => h) (fun _ _ h => h)
end Go.Proofs.YtjmmmpnpkialjaaDoor
