/- Files, commits: how they lie in memory. Conditions: none. -/
import Derived.Test.YtjmmmpnpkialjaaDoorReg
import Derived.Test.YtjmmmpnpkialjaaDoorPileW
import Derived.Test.YtjmmmpnpkialjaaDoorDec
import Derived.Test.YtjmmmpnpkialjaaDoorSeq
import Derived.Lib.QuietBelow
import Derived.WalkLawsBesides
namespace Go.Proofs.YtjmmmpnpkialjaaDoor
open Go.RowKit Go.Shelf

/-- A file; a commit. -/
structure Fl where
  path : ByteArray
  data : ByteArray
def fl_enc (f : Fl) : List Value := [.string f.path, .string f.data]
theorem fl_len (f : Fl) : (fl_enc f).length = 2 := rfl
theorem fl_one (f : Fl) : ∀ u ∈ fl_enc f, u.oneCell' = true := by simp [fl_enc, Value.oneCell']
theorem fl_cells (w : World) (b off : Nat) (l : List Fl) (h : CellsAt w b off (flat fl_enc l)) (i : Nat) (hi : i < l.length) : w.cell? ⟨b, off + i * 2, none⟩ = some (.string l[i].path) ∧ w.cell? ⟨b, off + i * 2 + 1, none⟩ = some (.string l[i].data) := by
  have g : ∀ j u, j < 2 → (fl_enc l[i])[j]? = some u → w.cell? ⟨b, off + i * 2 + j, none⟩ = some u := fun j u hj hu => by
    have := h (i * 2 + j) u (by rw [flat_get fl_len (by decide) l i j hi hj]; exact hu)
    rwa [← Nat.add_assoc] at this
  exact ⟨g 0 _ (by decide) rfl, g 1 _ (by decide) rfl⟩
theorem fl_slT : SlT Tryd.prog 23 68 (.agg #[.string ByteArray.empty, .string ByteArray.empty]) 2 32 := ⟨Tryd.underlying23, by kernel_rfl, rfl, by decide⟩

/-- How far one that is asked for stands; -1: nowhere. -/
def idxF {α : Type} (p : α → Bool) (l : List α) : Int := if l.any p then (l.findIdx p : Int) else -1
theorem idxF_hit {α : Type} {p : α → Bool} {l : List α} (k : Nat) (hk : k < l.length) (h : p l[k] = true) (hn : ∀ x ∈ l.take k, p x = false) : idxF p l = k := by
  have ha : l.any p = true := List.any_eq_true.2 ⟨_, List.getElem_mem hk, h⟩
  unfold idxF
  rw [if_pos ha]
  congr 1
  rw [List.findIdx_eq hk]
  refine ⟨h, fun j hj => ?_⟩
  have := hn l[j] (by rw [List.mem_take_iff_getElem]; exact ⟨j, by omega, rfl⟩)
  exact this
theorem idxF_none {α : Type} {p : α → Bool} {l : List α} (hn : ∀ x ∈ l, p x = false) : idxF p l = -1 := by
  unfold idxF
  rw [if_neg]
  intro h
  obtain ⟨x, hx, hp⟩ := List.any_eq_true.1 h
  rw [hn x hx] at hp
  cases hp
theorem idxF_ge {α : Type} (p : α → Bool) (l : List α) : decide (idxF p l ≥ 0) = l.any p := by
  unfold idxF
  cases l.any p <;> simp
theorem idxF_lt {α : Type} (p : α → Bool) (l : List α) : -1 ≤ idxF p l ∧ idxF p l < l.length := by
  unfold idxF
  cases h : l.any p with
  | false => simp; omega
  | true =>
    have := List.findIdx_lt_length.2 (List.any_eq_true.1 h)
    rw [if_pos rfl]
    omega

set_option maxHeartbeats 2000000 in
set_option maxRecDepth 100000 in
/-- slices.IndexFunc. -/
theorem u8_indexFunc (w : World) (va : Value) (l : List (UInt8)) (ha : Rd w va l.length (flat (fun x : UInt8 => [Value.int .u8 (x.toNat : Int)]) l)) (hlt : ∀ b, va.ownBlock = some b → l ≠ [] → b < w.heap.size) (hm : l.length ≤ 140737488351232) (g : Nat) (lb : Array Value) (pr : UInt8 → Bool) (Q : World → Prop) (eg : ∀ args w, (callFunc g args).run Tryd.prog w = .ok (.enter g args) w)
    (hp : ∀ (W : World) (x : UInt8), x ∈ l → Q W → Calls Tryd.prog g (#[.int .u8 ((x).toNat : Int)] ++ lb) W fun e W' => e = .returned (.bool (pr x)) ∧ Below W.heap.size W W') (hQ : ∀ W W', Q W → Below W.heap.size W W' → Q W') (hq : Q w) :
    Calls Tryd.prog 104 #[va, .func (.func g) #[] lb] w fun e w' => e = .returned (.int .i64 (idxF pr l)) ∧ Below w.heap.size w w' := by
  obtain ⟨ao, ca, rfl, -, -⟩ := ha.shape
  have HA := hide ha
  have HLT := hide hlt
  have HP := hide hp
  have HQ := hide hQ
  have Hq := hide hq
  clear ha hlt hp hQ hq
  go_enter Tryd.func104, Tryd.ntmps104
  go_wp2_with fail
  go_loopw [8] (fun i wr => ∃ k : Nat, k ≤ l.length ∧ i = .int .i64 k ∧ Hid (∀ x ∈ l.take k, pr x = false) ∧ Hid (Below w.heap.size w wr) ∧ Hid (Q wr)) (fun i _ => l.length - (intOf i).toNat)
  case atStart => exact ⟨0, Nat.zero_le _, rfl, (fun x h => by simp at h), Below.refl _ _, Hq⟩
  case round =>
    obtain ⟨k, hk, rfl, HN, HB, HQr⟩ := hrel
    by_cases hkl : k < l.length
    · have hne : l ≠ [] := by rintro rfl; simp at hkl
      obtain ⟨a', c', e, -, hcs0⟩ := (HA.out.chg (Chg.of_below HB.out) (fun b hb _ h => by have := HLT.out b hb hne; omega)).shape
      obtain ⟨b, off, rfl, hcs⟩ := hcs0 (by omega)
      cases e
      have hcx := hcs k (.int .u8 (l[k].toNat : Int)) (by rw [flat_one (fun x : UInt8 => Value.int .u8 (x.toNat : Int))]; simp [hkl])
      have hcall := HP.out wr l[k] (List.getElem_mem hkl) HQr.out
      have htk : l.take (k + 1) = l.take k ++ [l[k]] := (List.take_append_getElem hkl).symm
      have HTK := hide htk
      clear hcs hcs0 hne htk
      cases hx : pr l[k] with
      | true =>
        rw [hx] at hcall
        have HX := hide hx
        have HC := hide hcall
        clear hcall hx
        go_wp2_with (go_at_fn g; refine HC.out.mono ?_; rintro e w' ⟨rfl, hb'⟩; have HB' := hide hb'; clear hb')
        go_ret
        exact ⟨ret_int (idxF_hit k hkl HX.out HN.out).symm, HB.out.trans (HB'.out.mono HB.out.size)⟩
      | false =>
        rw [hx] at hcall
        have HX := hide hx
        have HC := hide hcall
        clear hcall hx
        go_wp2_with (go_at_fn g; refine HC.out.mono ?_; rintro e w' ⟨rfl, hb'⟩; have HB' := hide hb'; clear hb')
        go_roundw
        case rel =>
          refine ⟨k + 1, by omega, by go_num, fun x hx => ?_, HB.out.trans (HB'.out.mono HB.out.size), HQ.out _ _ HQr.out HB'.out⟩
          rw [HTK.out] at hx
          rcases List.mem_append.1 hx with h | h
          · exact HN.out x h
          · rw [List.mem_singleton.1 h]; exact HX.out
        case measure => simp [intOf]; omega
    · obtain rfl : k = l.length := by omega
      have hn := HN.out
      rw [List.take_length] at hn
      have HN2 := hide (idxF_none hn)
      clear hn HN
      go_wp2_with fail
      go_ret
      exact ⟨ret_int HN2.out.symm, HB.out⟩
/-- slices.ContainsFunc. -/
theorem u8_containsFunc (w : World) (va : Value) (l : List (UInt8)) (ha : Rd w va l.length (flat (fun x : UInt8 => [Value.int .u8 (x.toNat : Int)]) l)) (hlt : ∀ b, va.ownBlock = some b → l ≠ [] → b < w.heap.size) (hm : l.length ≤ 140737488351232) (g : Nat) (lb : Array Value) (pr : UInt8 → Bool) (Q : World → Prop) (eg : ∀ args w, (callFunc g args).run Tryd.prog w = .ok (.enter g args) w)
    (hp : ∀ (W : World) (x : UInt8), x ∈ l → Q W → Calls Tryd.prog g (#[.int .u8 ((x).toNat : Int)] ++ lb) W fun e W' => e = .returned (.bool (pr x)) ∧ Below W.heap.size W W') (hQ : ∀ W W', Q W → Below W.heap.size W W' → Q W') (hq : Q w) :
    Calls Tryd.prog 99 #[va, .func (.func g) #[] lb] w fun e w' => e = .returned (.bool (l.any pr)) ∧ Below w.heap.size w w' := by
  have HC := hide (u8_indexFunc w va l ha hlt hm g lb pr Q eg hp hQ hq)
  have hge := idxF_ge pr l
  obtain ⟨r, hr⟩ : ∃ r, r = idxF pr l := ⟨_, rfl⟩
  rw [← hr] at HC hge
  obtain ⟨c, hc⟩ : ∃ c, c = l.any pr := ⟨_, rfl⟩
  rw [← hc] at hge ⊢
  clear ha hlt hp hQ hq hm hr hc eg
  cases c with
  | true =>
    have d : decide (r ≥ 0) = true := hge
    clear hge
    go_enter Tryd.func99, Tryd.ntmps99
    go_wp2_with fail
    refine HC.out.mono ?_
    rintro e w' ⟨rfl, hb⟩
    have HB := hide hb
    clear hb
    go_wp2_with fail
    go_ret
    exact ⟨rfl, HB.out⟩
  | false =>
    have d : decide (r ≥ 0) = false := hge
    clear hge
    go_enter Tryd.func99, Tryd.ntmps99
    go_wp2_with fail
    refine HC.out.mono ?_
    rintro e w' ⟨rfl, hb⟩
    have HB := hide hb
    clear hb
    go_wp2_with fail
    go_ret
    exact ⟨rfl, HB.out⟩
set_option maxHeartbeats 2000000 in
set_option maxRecDepth 100000 in
/-- slices.IndexFunc. -/
theorem fl_indexFunc (w : World) (va : Value) (l : List (Fl)) (ha : Rd w va l.length (flat (fl_enc) l)) (hlt : ∀ b, va.ownBlock = some b → l ≠ [] → b < w.heap.size) (hm : l.length ≤ 140737488351232) (g : Nat) (lb : Array Value) (pr : Fl → Bool) (Q : World → Prop) (eg : ∀ args w, (callFunc g args).run Tryd.prog w = .ok (.enter g args) w)
    (hp : ∀ (W : World) (x : Fl), x ∈ l → Q W → Calls Tryd.prog g (#[.agg #[.string (x).path, .string (x).data]] ++ lb) W fun e W' => e = .returned (.bool (pr x)) ∧ Below W.heap.size W W') (hQ : ∀ W W', Q W → Below W.heap.size W W' → Q W') (hq : Q w) :
    Calls Tryd.prog 102 #[va, .func (.func g) #[] lb] w fun e w' => e = .returned (.int .i64 (idxF pr l)) ∧ Below w.heap.size w w' := by
  obtain ⟨ao, ca, rfl, -, -⟩ := ha.shape
  have HA := hide ha
  have HLT := hide hlt
  have HP := hide hp
  have HQ := hide hQ
  have Hq := hide hq
  clear ha hlt hp hQ hq
  go_enter Tryd.func102, Tryd.ntmps102
  go_wp2_with fail
  go_loopw [8] (fun i wr => ∃ k : Nat, k ≤ l.length ∧ i = .int .i64 k ∧ Hid (∀ x ∈ l.take k, pr x = false) ∧ Hid (Below w.heap.size w wr) ∧ Hid (Q wr)) (fun i _ => l.length - (intOf i).toNat)
  case atStart => exact ⟨0, Nat.zero_le _, rfl, (fun x h => by simp at h), Below.refl _ _, Hq⟩
  case round =>
    obtain ⟨k, hk, rfl, HN, HB, HQr⟩ := hrel
    by_cases hkl : k < l.length
    · have hne : l ≠ [] := by rintro rfl; simp at hkl
      obtain ⟨a', c', e, -, hcs0⟩ := (HA.out.chg (Chg.of_below HB.out) (fun b hb _ h => by have := HLT.out b hb hne; omega)).shape
      obtain ⟨b, off, rfl, hcs⟩ := hcs0 (by omega)
      cases e
      obtain ⟨hx0, hx1⟩ := fl_cells wr b off l hcs k hkl
      have hcall := HP.out wr l[k] (List.getElem_mem hkl) HQr.out
      have htk : l.take (k + 1) = l.take k ++ [l[k]] := (List.take_append_getElem hkl).symm
      have HTK := hide htk
      clear hcs hcs0 hne htk
      cases hx : pr l[k] with
      | true =>
        rw [hx] at hcall
        have HX := hide hx
        have HC := hide hcall
        clear hcall hx
        go_wp2_with (go_at_fn g; refine HC.out.mono ?_; rintro e w' ⟨rfl, hb'⟩; have HB' := hide hb'; clear hb')
        go_ret
        exact ⟨ret_int (idxF_hit k hkl HX.out HN.out).symm, HB.out.trans (HB'.out.mono HB.out.size)⟩
      | false =>
        rw [hx] at hcall
        have HX := hide hx
        have HC := hide hcall
        clear hcall hx
        go_wp2_with (go_at_fn g; refine HC.out.mono ?_; rintro e w' ⟨rfl, hb'⟩; have HB' := hide hb'; clear hb')
        go_roundw
        case rel =>
          refine ⟨k + 1, by omega, by go_num, fun x hx => ?_, HB.out.trans (HB'.out.mono HB.out.size), HQ.out _ _ HQr.out HB'.out⟩
          rw [HTK.out] at hx
          rcases List.mem_append.1 hx with h | h
          · exact HN.out x h
          · rw [List.mem_singleton.1 h]; exact HX.out
        case measure => simp [intOf]; omega
    · obtain rfl : k = l.length := by omega
      have hn := HN.out
      rw [List.take_length] at hn
      have HN2 := hide (idxF_none hn)
      clear hn HN
      go_wp2_with fail
      go_ret
      exact ⟨ret_int HN2.out.symm, HB.out⟩
/-- slices.ContainsFunc. -/
theorem fl_containsFunc (w : World) (va : Value) (l : List (Fl)) (ha : Rd w va l.length (flat (fl_enc) l)) (hlt : ∀ b, va.ownBlock = some b → l ≠ [] → b < w.heap.size) (hm : l.length ≤ 140737488351232) (g : Nat) (lb : Array Value) (pr : Fl → Bool) (Q : World → Prop) (eg : ∀ args w, (callFunc g args).run Tryd.prog w = .ok (.enter g args) w)
    (hp : ∀ (W : World) (x : Fl), x ∈ l → Q W → Calls Tryd.prog g (#[.agg #[.string (x).path, .string (x).data]] ++ lb) W fun e W' => e = .returned (.bool (pr x)) ∧ Below W.heap.size W W') (hQ : ∀ W W', Q W → Below W.heap.size W W' → Q W') (hq : Q w) :
    Calls Tryd.prog 90 #[va, .func (.func g) #[] lb] w fun e w' => e = .returned (.bool (l.any pr)) ∧ Below w.heap.size w w' := by
  have HC := hide (fl_indexFunc w va l ha hlt hm g lb pr Q eg hp hQ hq)
  have hge := idxF_ge pr l
  obtain ⟨r, hr⟩ : ∃ r, r = idxF pr l := ⟨_, rfl⟩
  rw [← hr] at HC hge
  obtain ⟨c, hc⟩ : ∃ c, c = l.any pr := ⟨_, rfl⟩
  rw [← hc] at hge ⊢
  clear ha hlt hp hQ hq hm hr hc eg
  cases c with
  | true =>
    have d : decide (r ≥ 0) = true := hge
    clear hge
    go_enter Tryd.func90, Tryd.ntmps90
    go_wp2_with fail
    refine HC.out.mono ?_
    rintro e w' ⟨rfl, hb⟩
    have HB := hide hb
    clear hb
    go_wp2_with fail
    go_ret
    exact ⟨rfl, HB.out⟩
  | false =>
    have d : decide (r ≥ 0) = false := hge
    clear hge
    go_enter Tryd.func90, Tryd.ntmps90
    go_wp2_with fail
    refine HC.out.mono ?_
    rintro e w' ⟨rfl, hb⟩
    have HB := hide hb
    clear hb
    go_wp2_with fail
    go_ret
    exact ⟨rfl, HB.out⟩
set_option maxHeartbeats 2000000 in
set_option maxRecDepth 100000 in
/-- slices.IndexFunc. -/
theorem int_indexFunc (w : World) (va : Value) (l : List (Int)) (ha : Rd w va l.length (flat (fun x : Int => [Value.int .i64 x]) l)) (hlt : ∀ b, va.ownBlock = some b → l ≠ [] → b < w.heap.size) (hm : l.length ≤ 140737488351232) (g : Nat) (lb : Array Value) (pr : Int → Bool) (Q : World → Prop) (eg : ∀ args w, (callFunc g args).run Tryd.prog w = .ok (.enter g args) w)
    (hp : ∀ (W : World) (x : Int), x ∈ l → Q W → Calls Tryd.prog g (#[.int .i64 (x)] ++ lb) W fun e W' => e = .returned (.bool (pr x)) ∧ Below W.heap.size W W') (hQ : ∀ W W', Q W → Below W.heap.size W W' → Q W') (hq : Q w) :
    Calls Tryd.prog 70 #[va, .func (.func g) #[] lb] w fun e w' => e = .returned (.int .i64 (idxF pr l)) ∧ Below w.heap.size w w' := by
  obtain ⟨ao, ca, rfl, -, -⟩ := ha.shape
  have HA := hide ha
  have HLT := hide hlt
  have HP := hide hp
  have HQ := hide hQ
  have Hq := hide hq
  clear ha hlt hp hQ hq
  go_enter Tryd.func70, Tryd.ntmps70
  go_wp2_with fail
  go_loopw [8] (fun i wr => ∃ k : Nat, k ≤ l.length ∧ i = .int .i64 k ∧ Hid (∀ x ∈ l.take k, pr x = false) ∧ Hid (Below w.heap.size w wr) ∧ Hid (Q wr)) (fun i _ => l.length - (intOf i).toNat)
  case atStart => exact ⟨0, Nat.zero_le _, rfl, (fun x h => by simp at h), Below.refl _ _, Hq⟩
  case round =>
    obtain ⟨k, hk, rfl, HN, HB, HQr⟩ := hrel
    by_cases hkl : k < l.length
    · have hne : l ≠ [] := by rintro rfl; simp at hkl
      obtain ⟨a', c', e, -, hcs0⟩ := (HA.out.chg (Chg.of_below HB.out) (fun b hb _ h => by have := HLT.out b hb hne; omega)).shape
      obtain ⟨b, off, rfl, hcs⟩ := hcs0 (by omega)
      cases e
      have hcx := hcs k (.int .i64 l[k]) (by rw [flat_one (fun x : Int => Value.int .i64 x)]; simp [hkl])
      have hcall := HP.out wr l[k] (List.getElem_mem hkl) HQr.out
      have htk : l.take (k + 1) = l.take k ++ [l[k]] := (List.take_append_getElem hkl).symm
      have HTK := hide htk
      clear hcs hcs0 hne htk
      cases hx : pr l[k] with
      | true =>
        rw [hx] at hcall
        have HX := hide hx
        have HC := hide hcall
        clear hcall hx
        go_wp2_with (go_at_fn g; refine HC.out.mono ?_; rintro e w' ⟨rfl, hb'⟩; have HB' := hide hb'; clear hb')
        go_ret
        exact ⟨ret_int (idxF_hit k hkl HX.out HN.out).symm, HB.out.trans (HB'.out.mono HB.out.size)⟩
      | false =>
        rw [hx] at hcall
        have HX := hide hx
        have HC := hide hcall
        clear hcall hx
        go_wp2_with (go_at_fn g; refine HC.out.mono ?_; rintro e w' ⟨rfl, hb'⟩; have HB' := hide hb'; clear hb')
        go_roundw
        case rel =>
          refine ⟨k + 1, by omega, by go_num, fun x hx => ?_, HB.out.trans (HB'.out.mono HB.out.size), HQ.out _ _ HQr.out HB'.out⟩
          rw [HTK.out] at hx
          rcases List.mem_append.1 hx with h | h
          · exact HN.out x h
          · rw [List.mem_singleton.1 h]; exact HX.out
        case measure => simp [intOf]; omega
    · obtain rfl : k = l.length := by omega
      have hn := HN.out
      rw [List.take_length] at hn
      have HN2 := hide (idxF_none hn)
      clear hn HN
      go_wp2_with fail
      go_ret
      exact ⟨ret_int HN2.out.symm, HB.out⟩
/-- slices.ContainsFunc. -/
theorem int_containsFunc (w : World) (va : Value) (l : List (Int)) (ha : Rd w va l.length (flat (fun x : Int => [Value.int .i64 x]) l)) (hlt : ∀ b, va.ownBlock = some b → l ≠ [] → b < w.heap.size) (hm : l.length ≤ 140737488351232) (g : Nat) (lb : Array Value) (pr : Int → Bool) (Q : World → Prop) (eg : ∀ args w, (callFunc g args).run Tryd.prog w = .ok (.enter g args) w)
    (hp : ∀ (W : World) (x : Int), x ∈ l → Q W → Calls Tryd.prog g (#[.int .i64 (x)] ++ lb) W fun e W' => e = .returned (.bool (pr x)) ∧ Below W.heap.size W W') (hQ : ∀ W W', Q W → Below W.heap.size W W' → Q W') (hq : Q w) :
    Calls Tryd.prog 46 #[va, .func (.func g) #[] lb] w fun e w' => e = .returned (.bool (l.any pr)) ∧ Below w.heap.size w w' := by
  have HC := hide (int_indexFunc w va l ha hlt hm g lb pr Q eg hp hQ hq)
  have hge := idxF_ge pr l
  obtain ⟨r, hr⟩ : ∃ r, r = idxF pr l := ⟨_, rfl⟩
  rw [← hr] at HC hge
  obtain ⟨c, hc⟩ : ∃ c, c = l.any pr := ⟨_, rfl⟩
  rw [← hc] at hge ⊢
  clear ha hlt hp hQ hq hm hr hc eg
  cases c with
  | true =>
    have d : decide (r ≥ 0) = true := hge
    clear hge
    go_enter Tryd.func46, Tryd.ntmps46
    go_wp2_with fail
    refine HC.out.mono ?_
    rintro e w' ⟨rfl, hb⟩
    have HB := hide hb
    clear hb
    go_wp2_with fail
    go_ret
    exact ⟨rfl, HB.out⟩
  | false =>
    have d : decide (r ≥ 0) = false := hge
    clear hge
    go_enter Tryd.func46, Tryd.ntmps46
    go_wp2_with fail
    refine HC.out.mono ?_
    rintro e w' ⟨rfl, hb⟩
    have HB := hide hb
    clear hb
    go_wp2_with fail
    go_ret
    exact ⟨rfl, HB.out⟩
end Go.Proofs.YtjmmmpnpkialjaaDoor
