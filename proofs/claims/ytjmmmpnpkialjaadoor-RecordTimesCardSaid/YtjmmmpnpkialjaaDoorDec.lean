/- What an argument that can be read as data looks like in memory: numbers, texts, slices, structs. Conditions: the types' rows of the table. -/
import Derived.Test.YtjmmmpnpkialjaaDoorBase
import Derived.ProofKit
import Derived.ChangeOld
namespace Go.Proofs.YtjmmmpnpkialjaaDoor
open Go.RowKit

section
variable {H : Type} {enc : TypeId × Value → H} {P : Program} {W : World}

/-- The cells cs read at type t. -/
def Readable (enc : TypeId × Value → H) (P : Program) (W : World) (t : TypeId) (cs : List Value) : Prop := ∃ fuel x, DataW.trod enc P W 0 (fun _ => true) true fuel t cs = some x

theorem Readable.of_trod {t : TypeId} {v : Value} {d : DataW H} {ps : List MemPlace} (h : DataW.Trod enc P W 0 (fun _ => true) true t v d ps) : Readable enc P W t v.cells.toList := by
  obtain ⟨fuel, h⟩ := h
  exact ⟨fuel, _, h⟩

theorem Readable.int {t : TypeId} {k : IntKind} {cs : List Value} (h : Readable enc P W t cs) (ht : P.underlying t = some (.int k)) : ∃ n, cs = [.int k n] ∧ (Lit.int k n).wf = true := by
  obtain ⟨fuel, x, h⟩ := h
  obtain ⟨n, h1, _, h2⟩ := DataW.trod_int ht h
  exact ⟨n, h1, h2⟩
theorem Readable.bool {t : TypeId} {cs : List Value} (h : Readable enc P W t cs) (ht : P.underlying t = some .bool) : ∃ b, cs = [.bool b] := by
  obtain ⟨fuel, x, h⟩ := h
  obtain ⟨n, h1, _⟩ := DataW.trod_bool ht h
  exact ⟨n, h1⟩
theorem Readable.string {t : TypeId} {cs : List Value} (h : Readable enc P W t cs) (ht : P.underlying t = some .string) : ∃ s : ByteArray, cs = [.string s] ∧ s.size ≤ maxLen := by
  obtain ⟨fuel, x, h⟩ := h
  obtain ⟨n, h1, _, h2⟩ := DataW.trod_string ht h
  exact ⟨n, h1, h2⟩
theorem Readable.struct {t : TypeId} {fs : Array Field} {cs : List Value} (h : Readable enc P W t cs) (ht : P.underlying t = some (.struct fs)) :
    cs.length = P.cellsOf t ∧ ∀ (i : Nat) (ty : TypeId) (off k : Nat), (fs[i]?).map (fun f => (f.type, f.offset)) = some (ty, off) → P.cellsOf ty = k → Readable enc P W ty ((cs.drop off).take k) := by
  obtain ⟨fuel, x, h⟩ := h
  obtain ⟨xs, n, _, _, hl, hx, hf⟩ := DataW.trod_struct ht h
  refine ⟨hl, fun i ty off k hi hk => ?_⟩
  obtain ⟨f, hif, he⟩ := Option.map_eq_some_iff.1 hi
  clear hi
  cases he
  subst hk
  have := hf i f hif
  have hlt : i < xs.length := by rw [hx]; exact (Array.getElem?_eq_some_iff.1 hif).1
  rw [List.getElem?_eq_getElem hlt] at this
  exact ⟨n, _, this⟩

theorem choose_lt {α : Type} [Inhabited α] {n : Nat} {p : Nat → α → Prop} (h : ∀ i, i < n → ∃ x, p i x) : ∃ f : Nat → α, ∀ i, i < n → p i (f i) := by
  classical
  exact ⟨fun i => if hi : i < n then Classical.choose (h i hi) else default, fun i hi => by simp only [dif_pos hi]; exact Classical.choose_spec (h i hi)⟩
theorem add_add (a : Addr) (i j : Nat) : (a.add i).add j = a.add (i + j) := by
  unfold Addr.add
  by_cases hi : i = 0 <;> by_cases hj : j = 0 <;> simp [hi, hj, Nat.add_assoc]

theorem flatten_getElem? {α : Type} (k : Nat) : ∀ (css : List (List α)) (j : Nat), (∀ c ∈ css, c.length = k) → 0 < k → css.flatten[j]? = (css[j / k]?).bind (·[j % k]?)
  | [], j, _, _ => by simp
  | c :: css, j, h, hk => by
    have hc := h c (by simp)
    rw [List.flatten_cons, List.getElem?_append]
    by_cases hj : j < c.length
    · rw [if_pos hj]
      have : j / k = 0 := Nat.div_eq_of_lt (by omega)
      rw [this, Nat.mod_eq_of_lt (by omega)]
      rfl
    · rw [if_neg hj, flatten_getElem? k css (j - c.length) (fun c hc => h c (by simp [hc])) hk, hc]
      have hjk : k ≤ j := by omega
      have e1 : j / k = (j - k) / k + 1 := by rw [Nat.div_eq j k, if_pos ⟨hk, hjk⟩]
      rw [← Nat.mod_eq_sub_mod hjk]
      rw [e1]
      simp

theorem Readable.slice {t e : TypeId} {k : Nat} {cs : List Value} (h : Readable enc P W t cs) (ht : P.underlying t = some (.slice e)) (hk : P.cellsOf e = k) (hpos : 0 < k) :
    ∃ (v : Value) (n : Nat) (css : List (List Value)), cs = [v] ∧ Rd W v n css.flatten ∧ css.length = n ∧ n ≤ maxLen ∧ (∀ c ∈ css, c.length = k ∧ Readable enc P W e c) ∧ (∀ b, v.ownBlock = some b → css.flatten ≠ [] → b < W.heap.size) := by
  obtain ⟨fuel, x, h⟩ := h
  rcases DataW.trod_slice ht h with ⟨rfl, _⟩ | ⟨a, len, cap, elems, rest, m, _, rfl, _, _, hlc, hcm, hel, hat, hsp, _⟩
  · exact ⟨_, 0, [], rfl, Rd.nil W, rfl, by unfold maxLen; omega, by simp, by simp⟩
  · have hget : ∀ i, i < len → ∃ c, W.cells? 0 (a.add (i * k)) k = some c ∧ Readable enc P W e c := by
      intro i hi
      have h1 := hat i hi
      rw [hk, List.getElem?_eq_getElem (by omega)] at h1
      obtain ⟨c, hc, hr⟩ := Option.bind_eq_some_iff.1 h1
      exact ⟨c, hc, m, _, hr⟩
    obtain ⟨F, hF⟩ := choose_lt hget
    have hsp' : 0 < cap → a.spot = none := by
      intro hc
      have : ∃ c, W.cells? 0 (a.add (0 * k)) k = some c := by
        by_cases h0 : 0 < len
        · exact ⟨_, (hF 0 h0).1⟩
        · have h2 := (hsp rfl).2 0 (by omega)
          have h3 := (hsp rfl).1
          rw [hk, List.getElem?_eq_getElem (by omega)] at h2
          obtain ⟨c, hc, _⟩ := Option.bind_eq_some_iff.1 h2
          have : len + 0 = 0 := by omega
          rw [this] at hc
          exact ⟨c, hc⟩
      obtain ⟨c, hc⟩ := this
      have h4 := (World.cells?_some hc).2.2 0 hpos
      have hl := (World.cells?_some hc).2.1
      have : (a.add (0 * k)).add 0 = a := by simp [Addr.add]
      rw [this, List.getElem?_eq_getElem (by omega)] at h4
      unfold World.cell? at h4
      split at h4
      · split at h4
        · cases h4
        · rename_i hs; simpa using hs
      · cases h4
    have hlen : ∀ i, i < len → (F i).length = k := fun i hi => (World.cells?_some (hF i hi).1).2.1
    have hall : ∀ c ∈ (List.range len).map F, c.length = k ∧ Readable enc P W e c := by
      intro c hc
      obtain ⟨i, hi, rfl⟩ := List.mem_map.1 hc
      exact ⟨hlen i (List.mem_range.1 hi), (hF i (List.mem_range.1 hi)).2⟩
    have hcell : ∀ j u, ((List.range len).map F).flatten[j]? = some u → W.cell? (a.add j) = some u := by
      intro j u hu
      rw [flatten_getElem? k _ _ (fun c hc => (hall c hc).1) hpos] at hu
      obtain ⟨c, hc, hu⟩ := Option.bind_eq_some_iff.1 hu
      rw [List.getElem?_map] at hc
      obtain ⟨i, hi, rfl⟩ := Option.map_eq_some_iff.1 hc
      have hi' : j / k < len ∧ j / k = i := by
        rw [List.getElem?_range] at hi
        · exact ⟨by
            rcases Nat.lt_or_ge (j / k) len with h | h
            · exact h
            · simp [h] at hc, by simpa using hi⟩
        · rcases Nat.lt_or_ge (j / k) len with h | h
          · exact h
          · simp [h] at hc
      obtain ⟨hi1, rfl⟩ := hi'
      have h5 := (World.cells?_some (hF _ hi1).1).2.2 (j % k) (Nat.mod_lt _ hpos)
      rw [hu] at h5
      rw [add_add] at h5
      have : j / k * k + j % k = j := by rw [Nat.mul_comm]; exact Nat.div_add_mod j k
      rwa [this] at h5
    refine ⟨_, len, (List.range len).map F, rfl, .inr ⟨a, cap, rfl, hlc, ?_⟩, by simp, by omega, hall, ?_⟩
    · by_cases hc : 0 < cap
      · refine .inl ⟨hsp' hc, fun j u hu => ?_⟩
        have := hcell j u hu
        obtain ⟨b, off, sp⟩ := a
        obtain rfl : sp = none := hsp' hc
        rwa [Addr.add_lit] at this
      · have h0 : len = 0 := by omega
        subst h0
        exact .inr ⟨rfl, by omega, rfl⟩
    · intro b hb hne
      have hb' : a.block = b := by simpa [Value.ownBlock] using hb
      obtain ⟨u, hu⟩ : ∃ u, ((List.range len).map F).flatten[0]? = some u := by
        cases hh : ((List.range len).map F).flatten with
        | nil => exact absurd hh hne
        | cons u us => exact ⟨u, rfl⟩
      have h6 := World.block_lt_of_cell? W _ (hcell 0 u hu)
      simpa [Addr.add, hb'] using h6

/-- Of a list each of whose members is the image of a good one: the good ones. -/
theorem exists_map {α β : Type} {f : α → β} {p : α → Prop} : ∀ {l : List β}, (∀ b ∈ l, ∃ a, b = f a ∧ p a) → ∃ as : List α, l = as.map f ∧ ∀ a ∈ as, p a
  | [], _ => ⟨[], rfl, by simp⟩
  | b :: l, h => by
    obtain ⟨a, rfl, ha⟩ := h b (by simp)
    obtain ⟨as, rfl, has⟩ := exists_map (l := l) (fun b hb => h b (by simp [hb]))
    exact ⟨a :: as, rfl, by simpa using ⟨ha, has⟩⟩

theorem flatten_single {α β : Type} (f : α → β) (l : List α) : (l.map fun a => [f a]).flatten = l.map f := by
  induction l with
  | nil => rfl
  | cons a l ih => simp [ih]

theorem Readable.bytes {t e : TypeId} {cs : List Value} (h : Readable enc P W t cs) (ht : P.underlying t = some (.slice e)) (he : P.underlying e = some (.int .u8)) (hk : P.cellsOf e = 1) :
    ∃ (v : Value) (xs : List UInt8), cs = [v] ∧ Rd W v xs.length (u8s xs) ∧ xs.length ≤ maxLen ∧ (∀ b, v.ownBlock = some b → xs ≠ [] → b < W.heap.size) := by
  obtain ⟨v, n, css, rfl, hr, hl, hm, hc, hb⟩ := h.slice ht hk (by decide)
  obtain ⟨xs, rfl, -⟩ := exists_map (f := fun x : UInt8 => [Value.int .u8 (x.toNat : Int)]) (p := fun _ => True) (l := css) (fun c hcc => by
    obtain ⟨m, rfl, hw⟩ := (hc c hcc).2.int he
    have : 0 ≤ m ∧ m ≤ 255 := by simpa [Lit.wf, IntKind.min, IntKind.max, IntKind.signed, IntKind.bits] using hw
    refine ⟨UInt8.ofNat m.toNat, ?_, trivial⟩
    have e : (UInt8.ofNat m.toNat).toNat = m.toNat := by rw [UInt8.toNat_ofNat']; omega
    rw [e]
    congr
    omega)
  rw [flatten_single] at hr hb
  simp only [List.length_map] at hl
  subst hl
  exact ⟨v, xs, rfl, hr, hm, fun b h1 h2 => hb b h1 (by simpa using h2)⟩

theorem Readable.ints {t e : TypeId} {cs : List Value} (h : Readable enc P W t cs) (ht : P.underlying t = some (.slice e)) (he : P.underlying e = some (.int .i64)) (hk : P.cellsOf e = 1) :
    ∃ (v : Value) (xs : List Int), cs = [v] ∧ Rd W v xs.length (i64s xs) ∧ xs.length ≤ maxLen ∧ (∀ x ∈ xs, (Lit.int .i64 x).wf = true) ∧ (∀ b, v.ownBlock = some b → xs ≠ [] → b < W.heap.size) := by
  obtain ⟨v, n, css, rfl, hr, hl, hm, hc, hb⟩ := h.slice ht hk (by decide)
  obtain ⟨xs, rfl, hx⟩ := exists_map (f := fun x : Int => [Value.int .i64 x]) (p := fun x => (Lit.int .i64 x).wf = true) (l := css) (fun c hcc => by
    obtain ⟨m, rfl, hw⟩ := (hc c hcc).2.int he
    exact ⟨m, rfl, hw⟩)
  rw [flatten_single] at hr hb
  simp only [List.length_map] at hl
  subst hl
  exact ⟨v, xs, rfl, hr, hm, hx, fun b h1 h2 => hb b h1 (by simpa using h2)⟩

theorem Readable.strings {t e : TypeId} {cs : List Value} (h : Readable enc P W t cs) (ht : P.underlying t = some (.slice e)) (he : P.underlying e = some .string) (hk : P.cellsOf e = 1) :
    ∃ (v : Value) (xs : List ByteArray), cs = [v] ∧ Rd W v xs.length (xs.map Value.string) ∧ xs.length ≤ maxLen ∧ (∀ x ∈ xs, x.size ≤ maxLen) ∧ (∀ b, v.ownBlock = some b → xs ≠ [] → b < W.heap.size) := by
  obtain ⟨v, n, css, rfl, hr, hl, hm, hc, hb⟩ := h.slice ht hk (by decide)
  obtain ⟨xs, rfl, hx⟩ := exists_map (f := fun x : ByteArray => [Value.string x]) (p := fun x => x.size ≤ maxLen) (l := css) (fun c hcc => by
    obtain ⟨m, rfl, hw⟩ := (hc c hcc).2.string he
    exact ⟨m, rfl, hw⟩)
  rw [flatten_single] at hr hb
  simp only [List.length_map] at hl
  subst hl
  exact ⟨v, xs, rfl, hr, hm, hx, fun b h1 h2 => hb b h1 (by simpa using h2)⟩

end
end Go.Proofs.YtjmmmpnpkialjaaDoor
