/- A repo: how it lies in memory, Len, New, Find. Conditions: none. -/
import Derived.Test.YtnnkbicaokckbaaDoorCmY
namespace Go.Proofs.YtnnkbicaokckbaaDoor
open Go.RowKit Go.Shelf

theorem cv_cells (w : World) (b off : Nat) (l : List CmV) (h : CellsAt w b off (flat cv_enc l)) (i : Nat) (hi : i < l.length) : w.cell? ⟨b, off + i * 3, none⟩ = some l[i].vp ∧ w.cell? ⟨b, off + i * 3 + 1, none⟩ = some l[i].vt ∧ w.cell? ⟨b, off + i * 3 + 2, none⟩ = some (.string l[i].c.note) := by
  have g : ∀ j u, j < 3 → (cv_enc l[i])[j]? = some u → w.cell? ⟨b, off + i * 3 + j, none⟩ = some u := fun j u hj hu => by
    have := h (i * 3 + j) u (by rw [flat_get cv_len (by decide) l i j hi hj]; exact hu)
    rwa [← Nat.add_assoc] at this
  exact ⟨g 0 _ (by decide) rfl, g 1 _ (by decide) rfl, g 2 _ (by decide) rfl⟩
theorem cv_slT : SlT Tryd.prog 22 33 (.agg #[.slice none 0 0, .slice none 0 0, .string ByteArray.empty]) 3 64 := ⟨Tryd.underlying22, by kernel_rfl, rfl, by decide⟩
set_option maxHeartbeats 2000000 in
set_option maxRecDepth 100000 in
/-- slices.IndexFunc. -/
theorem cv_indexFunc (w : World) (va : Value) (l : List (CmV)) (ha : Rd w va l.length (flat (cv_enc) l)) (hlt : ∀ b, va.ownBlock = some b → l ≠ [] → b < w.heap.size) (hm : l.length ≤ 140737488351232) (g : Nat) (lb : Array Value) (pr : CmV → Bool) (Q : World → Prop) (eg : ∀ args w, (callFunc g args).run Tryd.prog w = .ok (.enter g args) w)
    (hp : ∀ (W : World) (x : CmV), x ∈ l → Q W → Calls Tryd.prog g (#[.agg #[(x).vp, (x).vt, .string (x).c.note]] ++ lb) W fun e W' => e = .returned (.bool (pr x)) ∧ Below W.heap.size W W') (hQ : ∀ W W', Q W → Below W.heap.size W W' → Q W') (hq : Q w) :
    Calls Tryd.prog 60 #[va, .func (.func g) #[] lb] w fun e w' => e = .returned (.int .i64 (idxF pr l)) ∧ Below w.heap.size w w' := by
  obtain ⟨ao, ca, rfl, -, -⟩ := ha.shape
  have HA := hide ha
  have HLT := hide hlt
  have HP := hide hp
  have HQ := hide hQ
  have Hq := hide hq
  clear ha hlt hp hQ hq
  go_enter Tryd.func60, Tryd.ntmps60
  go_wp2_with fail
  go_loopw [8] (fun i wr => ∃ k : Nat, k ≤ l.length ∧ i = .int .i64 k ∧ Hid (∀ x ∈ l.take k, pr x = false) ∧ Hid (Below w.heap.size w wr) ∧ Hid (Q wr)) (fun i _ => l.length - (intOf i).toNat)
  case atStart => exact ⟨0, Nat.zero_le _, rfl, (fun x h => by simp at h), Below.refl _ _, Hq⟩
  case round =>
    obtain ⟨k, hk, rfl, HN, HB, HQr⟩ := hrel
    by_cases hkl : k < l.length
    · have hne : l ≠ [] := by rintro rfl; simp at hkl
      obtain ⟨a', c', e, -, hcs0⟩ := (HA.out.chg (Chg.of_below HB.out) (fun b hb _ h => by have := HLT.out b hb hne; omega)).shape
      obtain ⟨b, off, rfl, hcs⟩ := hcs0 (by omega)
      cases e
      obtain ⟨hx0, hx1, hx2⟩ := cv_cells wr b off l hcs k hkl
      have hcall := HP.out wr l[k] (List.getElem_mem hkl) HQr.out
      have htk : l.take (k + 1) = l.take k ++ [l[k]] := (List.take_append_getElem hkl).symm
      have HTK := hide htk
      clear hcs hcs0 hne htk
      cases hx : pr l[k] with
      | true =>
        rw [hx] at hcall
        have HX := hide hx
        have HC := hide hcall
        clear hcall hx
        go_wp2_with (go_at_fn g; refine HC.out.mono ?_; rintro e w' ⟨rfl, hb'⟩; have HB' := hide hb'; clear hb')
        go_ret
        exact ⟨ret_int (idxF_hit k hkl HX.out HN.out).symm, HB.out.trans (HB'.out.mono HB.out.size)⟩
      | false =>
        rw [hx] at hcall
        have HX := hide hx
        have HC := hide hcall
        clear hcall hx
        go_wp2_with (go_at_fn g; refine HC.out.mono ?_; rintro e w' ⟨rfl, hb'⟩; have HB' := hide hb'; clear hb')
        go_roundw
        case rel =>
          refine ⟨k + 1, by omega, by go_num, fun x hx => ?_, HB.out.trans (HB'.out.mono HB.out.size), HQ.out _ _ HQr.out HB'.out⟩
          rw [HTK.out] at hx
          rcases List.mem_append.1 hx with h | h
          · exact HN.out x h
          · rw [List.mem_singleton.1 h]; exact HX.out
        case measure => simp [intOf]; omega
    · obtain rfl : k = l.length := by omega
      have hn := HN.out
      rw [List.take_length] at hn
      have HN2 := hide (idxF_none hn)
      clear hn HN
      go_wp2_with fail
      go_ret
      exact ⟨ret_int HN2.out.symm, HB.out⟩

/-- A repo that lies in blocks of its own. -/
structure RepoAt (base : Nat) (w : World) (p : Nat) (ao : Option Addr) (cap : Nat) (l : List CmV) (room : Int) : Prop where
  box : w.heap[p]? = some (.cells #[.slice ao l.length cap, .int .i64 room] 75 (0, 0))
  row : w.ownsRow base 33 3 (.slice ao l.length cap) l.length (flat cv_enc l)
  cms : ∀ x ∈ l, Own w base x
  may : ∀ x ∈ l, mayC x.c = true
  pb : base ≤ p
  len : l.length ≤ 1000
  room0 : 0 ≤ room ∧ room ≤ 120
/-- What an adding may turn. -/
def RSet (p : Nat) (ao : Option Addr) (k : Nat) : Prop := k = p ∨ (Value.slice ao 0 0).ownBlock = some k
variable {base : Nat} {w : World} {p : Nat} {ao : Option Addr} {cap : Nat} {l : List CmV} {room : Int}
theorem RepoAt.c0 (h : RepoAt base w p ao cap l room) : w.cell? ⟨p, 0, none⟩ = some (.slice ao l.length cap) := cell_of_heap h.box 0
theorem RepoAt.c1 (h : RepoAt base w p ao cap l room) : w.cell? ⟨p, 1, none⟩ = some (.int .i64 room) := cell_of_heap h.box 1
theorem RepoAt.plt (h : RepoAt base w p ao cap l room) : p < w.heap.size := (Array.getElem?_eq_some_iff.1 h.box).1
theorem RepoAt.rd (h : RepoAt base w p ao cap l room) : Rd w (.slice ao l.length cap) l.length (flat cv_enc l) := Rd.of_owns h.row
theorem RepoAt.rb (h : RepoAt base w p ao cap l room) : ∀ b, (Value.slice ao 0 0).ownBlock = some b → base ≤ b ∧ b < w.heap.size := fun b hb => ownsRow_lt h.row b (by rw [own_slice]; exact hb)
theorem RepoAt.chg {S : Nat → Prop} {w' : World} (h : RepoAt base w p ao cap l room) (c : Chg S w w') (hS : ∀ b, base ≤ b → b < w.heap.size → ¬ S b) : RepoAt base w' p ao cap l room :=
  ⟨c.heap h.box (hS p h.pb h.plt), c.owns h.row (fun b hb => hS b (ownsRow_lt h.row b hb).1 (ownsRow_lt h.row b hb).2), fun x hx => (h.cms x hx).chg c hS, h.may, h.pb, h.len, h.room0⟩
theorem RepoAt.same {w' : World} (h : RepoAt base w p ao cap l room) (c : Chg (fun _ => False) w w') : RepoAt base w' p ao cap l room := h.chg c (fun _ _ _ h => h)

theorem repo_New (w : World) (room : Int) (hr : -2147483648 ≤ room ∧ room ≤ 2147483647) : Calls Tryd.prog 17 #[.int .i64 room] w fun e w' => e = .returned (.pointer (some ⟨w.heap.size, 0, none⟩)) ∧ RepoAt w.heap.size w' w.heap.size none 0 [] (min (max room 0) 120) ∧ Below w.heap.size w w' := by
  go_enter Tryd.func17, Tryd.ntmps17
  go_wp2_with fail
  go_ret
  have h0 := heap_alloc_new w (.cells #[.slice none 0 0, .int .i64 (min (max room 0) 120)] 75)
  exact ⟨rfl, ⟨h0, World.ownsRow_nil _ _ _ _, by simp, by simp, Nat.le_refl _, by simp, by omega⟩, (Below.refl _ w).alloc (Nat.le_refl _) _⟩
theorem repo_Len (h : RepoAt base w p ao cap l room) : Calls Tryd.prog 20 #[.pointer (some ⟨p, 0, none⟩)] w fun e w' => e = .returned (.int .i64 l.length) ∧ w' = w := by
  have h0 := h.c0
  clear h
  go_enter Tryd.func20, Tryd.ntmps20
  go_wp2_with fail
  go_ret
  exact ⟨rfl, rfl⟩
theorem repo_Len_nil (w : World) : Calls Tryd.prog 20 #[.pointer none] w fun e w' => e = .returned (.int .i64 0) ∧ w' = w := by
  go_enter Tryd.func20, Tryd.ntmps20
  go_wp2_with fail
  go_ret
  exact ⟨rfl, rfl⟩

set_option maxRecDepth 100000 in
theorem find_same (W : World) (x y : CmV) (b : Nat) (hx : CmAt W x) (hy : CmAt W y) (fx : Few x.c) (fy : Few y.c)
    (hb : W.cell? ⟨b, 0, none⟩ = some y.vp ∧ W.cell? ⟨b, 1, none⟩ = some y.vt ∧ W.cell? ⟨b, 2, none⟩ = some (.string y.c.note)) :
    Calls Tryd.prog 61 #[.agg #[x.vp, x.vt, .string x.c.note], .pointer (some ⟨b, 0, none⟩)] W fun e w' => e = .returned (.bool (cmEq x.c y.c)) ∧ Below W.heap.size W w' := by
  obtain ⟨hb0, hb1, hb2⟩ := hb
  have HB1 := hide ((Below.refl W.heap.size W).alloc (Nat.le_refl _) (.cells #[x.vp, x.vt, .string x.c.note] 33))
  have HC := hide (repo_same _ x y (hx.same (Chg.of_below0 HB1.out)) (hy.same (Chg.of_below0 HB1.out)) fx fy)
  obtain ⟨xc, xp, xt⟩ := x
  obtain ⟨yc, yp, yt⟩ := y
  obtain ⟨yps, yts, yn⟩ := yc
  have HBX := hide (Chg.of_below0 (S := fun _ => False) HB1.out)
  have hb3 := HBX.out.cell hb0 (fun h => h)
  have hb4 := HBX.out.cell hb1 (fun h => h)
  have hb5 := HBX.out.cell hb2 (fun h => h)
  clear hx hy fx fy hb0 hb1 hb2
  go_enter Tryd.func61, Tryd.ntmps61
  go_wp2_with fail
  refine HC.out.mono ?_
  rintro e w3 ⟨rfl, hb⟩
  have HB3 := hide hb
  clear hb
  go_wp2_with fail
  go_ret
  exact ⟨rfl, HB1.out.trans (HB3.out.mono HB1.out.size)⟩
end Go.Proofs.YtnnkbicaokckbaaDoor
