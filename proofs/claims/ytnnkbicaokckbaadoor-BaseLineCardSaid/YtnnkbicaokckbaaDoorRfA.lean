/- The document's repo: New, Has, Find. Conditions: none. -/
import Derived.Test.YtnnkbicaokckbaaDoorRfC
namespace Go.Proofs.YtnnkbicaokckbaaDoor
open Go.RowKit Go.Shelf

/-- The blocks of a commit's lists. -/
def YB (y : CmV) (k : Nat) : Prop := (y.vp.ownBlock = some k ∧ y.c.parents ≠ []) ∨ (y.vt.ownBlock = some k ∧ y.c.tree ≠ [])
/-- The document's repo in memory: its row is its own; the commits' lists lie wherever. -/
structure RefAt (base : Nat) (w : World) (p : Nat) (ao : Option Addr) (cap : Nat) (l : List CmV) (room : Int) : Prop where
  box : w.heap[p]? = some (.cells #[.slice ao l.length cap, .int .i64 room] 55 (0, 0))
  row : w.ownsRow base 33 3 (.slice ao l.length cap) l.length (flat cv_enc l)
  cms : ∀ x ∈ l, CmAt w x ∧ Few x.c
  pb : base ≤ p
  len : l.length ≤ 1000
  room0 : 0 ≤ room ∧ room ≤ 120
  off : ∀ x ∈ l, ¬ YB x p
/-- The blocks that it lies in. -/
def NB (p : Nat) (ao : Option Addr) (l : List CmV) (k : Nat) : Prop := RSet p ao k ∨ ∃ x ∈ l, (x.vp.ownBlock = some k ∧ x.c.parents ≠ []) ∨ (x.vt.ownBlock = some k ∧ x.c.tree ≠ [])
variable {base : Nat} {w : World} {p : Nat} {ao : Option Addr} {cap : Nat} {l : List CmV} {room : Int}
theorem RefAt.c0 (h : RefAt base w p ao cap l room) : w.cell? ⟨p, 0, none⟩ = some (.slice ao l.length cap) := cell_of_heap h.box 0
theorem RefAt.c1 (h : RefAt base w p ao cap l room) : w.cell? ⟨p, 1, none⟩ = some (.int .i64 room) := cell_of_heap h.box 1
theorem RefAt.plt (h : RefAt base w p ao cap l room) : p < w.heap.size := (Array.getElem?_eq_some_iff.1 h.box).1
theorem RefAt.rd (h : RefAt base w p ao cap l room) : Rd w (.slice ao l.length cap) l.length (flat cv_enc l) := Rd.of_owns h.row
theorem RefAt.nlt (h : RefAt base w p ao cap l room) {k : Nat} (hk : NB p ao l k) : k < w.heap.size := by
  rcases hk with (rfl | hk) | ⟨x, hx, ⟨hk, hn⟩ | ⟨hk, hn⟩⟩
  · exact h.plt
  · exact (ownsRow_lt h.row k (by rw [own_slice]; exact hk)).2
  · exact (h.cms x hx).1.pb k hk hn
  · exact (h.cms x hx).1.tb k hk hn
theorem RefAt.turn {S : Nat → Prop} {w' : World} (h : RefAt base w p ao cap l room) (c : Chg S w w') (hS : ∀ k, NB p ao l k → ¬ S k) : RefAt base w' p ao cap l room :=
  ⟨c.heap h.box (hS p (.inl (.inl rfl))), c.owns h.row (fun b hb => hS b (.inl (.inr (by rw [← own_slice]; exact hb)))),
   fun x hx => ⟨(h.cms x hx).1.chg c (fun b hb hn => hS b (.inr ⟨x, hx, .inl ⟨hb, hn⟩⟩)) (fun b hb hn => hS b (.inr ⟨x, hx, .inr ⟨hb, hn⟩⟩)), (h.cms x hx).2⟩, h.pb, h.len, h.room0, h.off⟩
theorem RefAt.same {w' : World} (h : RefAt base w p ao cap l room) (c : Chg (fun _ => False) w w') : RefAt base w' p ao cap l room := h.turn c (fun _ _ h => h)

theorem val_eq' (x : CmV) : x.val = .agg #[x.vp, x.vt, .string x.c.note] := rfl
theorem ref10_New (w : World) (room : Int) (hr : -2147483648 ≤ room ∧ room ≤ 2147483647) : Calls Tryd.prog 26 #[.int .i64 room] w fun e w' => e = .returned (.pointer (some ⟨w.heap.size, 0, none⟩)) ∧ RefAt w.heap.size w' w.heap.size none 0 [] (min (max room 0) 120) ∧ Below w.heap.size w w' := by
  go_enter Tryd.func26, Tryd.ntmps26
  go_wp2_with fail
  go_ret
  have h0 := heap_alloc_new w (.cells #[.slice none 0 0, .int .i64 (min (max room 0) 120)] 55)
  exact ⟨rfl, ⟨h0, World.ownsRow_nil _ _ _ _, by simp, Nat.le_refl _, by simp, by omega, by simp⟩, (Below.refl _ w).alloc (Nat.le_refl _) _⟩
def hasN (m : Nat) (n : Int) : Bool := decide (1 ≤ n) && decide (n ≤ (m : Int))
theorem ref10_Has (h : RefAt base w p ao cap l room) (n : Int) : Calls Tryd.prog 36 #[.pointer (some ⟨p, 0, none⟩), .int .i64 n] w fun e w' => e = .returned (.bool (hasN l.length n)) ∧ w' = w := by
  have h0 := h.c0
  have hl := h.len
  clear h
  by_cases h1 : 1 ≤ n
  · have HR := hide (show hasN l.length n = decide (n ≤ (l.length : Int)) by rw [hasN, decide_eq_true h1]; rfl)
    have d1 : decide (n ≥ 1) = true := decide_eq_true h1
    go_enter Tryd.func36, Tryd.ntmps36
    go_wp2_with fail
    go_ret
    exact ⟨ret_bool HR.out.symm, rfl⟩
  · have HR := hide (show hasN l.length n = false by rw [hasN, decide_eq_false h1]; rfl)
    have d1 : decide (n ≥ 1) = false := decide_eq_false h1
    go_enter Tryd.func36, Tryd.ntmps36
    go_wp2_with fail
    go_ret
    exact ⟨ret_bool HR.out.symm, rfl⟩

set_option maxRecDepth 100000 in
set_option maxHeartbeats 2000000 in
theorem ref10_Find (h : RefAt base w p ao cap l room) (y : CmV) (hy : CmAt w y) (fy : Few y.c) :
    Calls Tryd.prog 31 #[.pointer (some ⟨p, 0, none⟩), y.val] w fun e w' => e = .returned (.int .i64 (idxF (fun x : CmV => cmEq x.c y.c) l + 1)) ∧ Below w.heap.size w w' := by
  have HH := hide h
  have HY := hide hy
  have FY := hide fy
  have hll := h.len
  have hB1 := (Below.refl w.heap.size w).alloc (Nat.le_refl _) (.cells #[y.vp, y.vt, .string y.c.note] 33)
  have hh := heap_alloc_new w (.cells #[y.vp, y.vt, .string y.c.note] 33)
  generalize hw1 : w.alloc (.cells #[y.vp, y.vt, .string y.c.note] 33) = w1 at hB1 hh
  have HW1 := hide hw1
  have HB1 := hide hB1
  have H1 := hide (h.same (Chg.of_below0 hB1))
  have h0 := H1.out.c0
  have HB0 : Hid (w1.cell? ⟨w.heap.size, 0, none⟩ = some y.vp) := hide (cell_of_heap hh 0)
  have HB1' : Hid (w1.cell? ⟨w.heap.size, 1, none⟩ = some y.vt) := hide (cell_of_heap hh 1)
  have HB2 : Hid (w1.cell? ⟨w.heap.size, 2, none⟩ = some (.string y.c.note)) := hide (cell_of_heap hh 2)
  have HYV := hide (fun Wx (hWx : Below w.heap.size w Wx) => hy.same (Chg.of_below0 hWx))
  clear h hy fy hB1 hh hw1
  obtain ⟨yc, yp, yt⟩ := y
  unfold CmV.val
  go_enter Tryd.func31, Tryd.ntmps31
  go_wp2_with (rw [HW1.out])
  clear h0
  go_loopw [5] (fun i wr => ∃ k : Nat, k ≤ l.length ∧ i = .int .i64 k ∧ Hid (∀ x ∈ l.take k, cmEq x.c yc = false) ∧ Hid (Chg (fun _ => False) w1 wr)) (fun i _ => l.length - (intOf i).toNat)
  case atStart => exact ⟨0, Nat.zero_le _, rfl, (fun x h => by simp at h), Chg.refl _ _⟩
  case round =>
    obtain ⟨k, hk, rfl, HN, HC⟩ := hrel
    obtain ⟨wo, rfl⟩ : ∃ wo : World, wo = wr := ⟨_, rfl⟩
    have hat := H1.out.same HC.out
    have h0 := hat.c0
    by_cases hkl : k < l.length
    · obtain ⟨a', c', e, -, hcs0⟩ := hat.rd.shape
      obtain ⟨b, off, rfl, hcs⟩ := hcs0 (by omega)
      cases e
      obtain ⟨hx0, hx1, hx2⟩ := cv_cells wo b off l hcs k hkl
      have hb0 := HC.out.cell HB0.out (fun h => h)
      have hb1 := HC.out.cell HB1'.out (fun h => h)
      have hb2 := HC.out.cell HB2.out (fun h => h)
      have hcm := hat.cms l[k] (List.getElem_mem hkl)
      have hsm : (∀ q, cmEq l[k].c yc = q → ∀ W, Chg (fun _ => False) wo W → Calls Tryd.prog 65 #[.agg #[l[k].vp, l[k].vt, .string l[k].c.note], .agg #[yp, yt, .string yc.note]] W fun e w' => e = .returned (.bool q) ∧ Below W.heap.size W w') := (fun q hq W (hW : Chg (fun _ => False) wo W) => hq ▸ ref10_Same W l[k] ⟨yc, yp, yt⟩ (hcm.1.same hW) ((HYV.out w1 HB1.out).same (HC.out.trans hW (fun _ _ h => h) (fun _ _ h => h))) hcm.2 FY.out)
      have htk : l.take (k + 1) = l.take k ++ [l[k]] := (List.take_append_getElem hkl).symm
      have HTK := hide htk
      have HKL := hide hkl
      clear hat hcs hcs0 hcm htk
      cases hq : cmEq l[k].c yc with
      | true =>
        have HR := hide (idxF_hit (p := fun x : CmV => cmEq x.c yc) k hkl hq HN.out)
        have HSM := hide (hsm _ hq)
        clear hq hsm
        go_wp2_with fail
        refine reg_start (Chg (fun _ => False) wo) 9 9 (by rfl) (by kernel_rfl) (Chg.drew _ _) ?_
        intro hS0
        have hSc := hS0
        refine reg_take (i := 0) (v := ?g2v) rfl (by kernel_rfl) (by kernel_rfl) (by kernel_rfl) (by kernel_rfl) (fun _ _ _ h => h) (by rfl) ?g2y (by assumption) ?g2r
        case g2y => (intro W hS; first | (go_simp; done) | (go_simp; with_reducible rfl))
        simp only [Act.put, List.setIfInBounds_toArray, List.set_cons_zero, List.set_cons_succ]
        refine reg_take (i := 1) (v := ?g3v) rfl (by kernel_rfl) (by kernel_rfl) (by kernel_rfl) (by kernel_rfl) (fun _ _ _ h => h) (by rfl) ?g3y (by assumption) ?g3r
        case g3y => (intro W hS; first | (go_simp; done) | (go_simp; with_reducible rfl))
        simp only [Act.put, List.setIfInBounds_toArray, List.set_cons_zero, List.set_cons_succ]
        refine reg_take (i := 2) (v := ?g4v) rfl (by kernel_rfl) (by kernel_rfl) (by kernel_rfl) (by kernel_rfl) (fun _ _ _ h => h) (by rfl) ?g4y (by assumption) ?g4r
        case g4y => (intro W hS; first | (go_simp; done) | (go_simp; with_reducible rfl))
        simp only [Act.put, List.setIfInBounds_toArray, List.set_cons_zero, List.set_cons_succ]
        refine reg_take (i := 3) (v := ?g5v) rfl (by kernel_rfl) (by kernel_rfl) (by kernel_rfl) (by kernel_rfl) (fun _ _ _ h => h) (by rfl) ?g5y (by assumption) ?g5r
        case g5y => (intro W hS; have f0 := hS.cell h0 (fun h => h); have f1 := hS.cell hx0 (fun h => h); have f2 := hS.cell hx1 (fun h => h); have f3 := hS.cell hx2 (fun h => h); have f4 := hS.cell hb0 (fun h => h); have f5 := hS.cell hb1 (fun h => h); have f6 := hS.cell hb2 (fun h => h); first | (go_simp; done) | (go_simp; with_reducible rfl))
        simp only [Act.put, List.setIfInBounds_toArray, List.set_cons_zero, List.set_cons_succ]
        refine reg_take (i := 4) (v := ?g6v) rfl (by kernel_rfl) (by kernel_rfl) (by kernel_rfl) (by kernel_rfl) (fun _ _ _ h => h) (by rfl) ?g6y (by assumption) ?g6r
        case g6y => (intro W hS; first | (go_simp; done) | (go_simp; with_reducible rfl))
        simp only [Act.put, List.setIfInBounds_toArray, List.set_cons_zero, List.set_cons_succ]
        refine reg_take (i := 5) (v := ?g7v) rfl (by kernel_rfl) (by kernel_rfl) (by kernel_rfl) (by kernel_rfl) (fun _ _ _ h => h) (by rfl) ?g7y (by assumption) ?g7r
        case g7y => (intro W hS; first | (go_simp; done) | (go_simp; with_reducible rfl))
        simp only [Act.put, List.setIfInBounds_toArray, List.set_cons_zero, List.set_cons_succ]
        refine reg_take (i := 6) (v := ?g8v) rfl (by kernel_rfl) (by kernel_rfl) (by kernel_rfl) (by kernel_rfl) (fun _ _ _ h => h) (by rfl) ?g8y (by assumption) ?g8r
        case g8y => (intro W hS; have f0 := hS.cell h0 (fun h => h); have f1 := hS.cell hx0 (fun h => h); have f2 := hS.cell hx1 (fun h => h); have f3 := hS.cell hx2 (fun h => h); have f4 := hS.cell hb0 (fun h => h); have f5 := hS.cell hb1 (fun h => h); have f6 := hS.cell hb2 (fun h => h); first | (go_simp; done) | (go_simp; with_reducible rfl))
        simp only [Act.put, List.setIfInBounds_toArray, List.set_cons_zero, List.set_cons_succ]
        refine reg_take (i := 7) (v := ?g9v) rfl (by kernel_rfl) (by kernel_rfl) (by kernel_rfl) (by kernel_rfl) (fun _ _ _ h => h) (by rfl) ?g9y (by assumption) ?g9r
        case g9y => (intro W hS; have f0 := hS.cell h0 (fun h => h); have f1 := hS.cell hx0 (fun h => h); have f2 := hS.cell hx1 (fun h => h); have f3 := hS.cell hx2 (fun h => h); have f4 := hS.cell hb0 (fun h => h); have f5 := hS.cell hb1 (fun h => h); have f6 := hS.cell hb2 (fun h => h); first | (go_simp; done) | (go_simp; with_reducible rfl))
        simp only [Act.put, List.setIfInBounds_toArray, List.set_cons_zero, List.set_cons_succ]
        refine reg_one (i := 8) (by kernel_rfl) ?_
        refine op_call (i := 8) (#[.agg #[l[k].vp, l[k].vt, .string l[k].c.note], .agg #[yp, yt, .string yc.note]]) rfl (by rfl) (enters_of Tryd.func65 (by kernel_rfl) rfl) (by first | (simp [Act.eval]; done) | rfl | (simp only [List.map_toArray, List.map_cons, List.map_nil, Act.eval]; rfl) | (simp [Act.eval]; trace_state; done)) ?_
        refine (HSM.out _ hSc).mono ?_
        rintro e W3 ⟨rfl, hb3⟩
        have hSc := hSc.trans (Chg.of_below0 (S := fun _ => False) hb3) (S'' := fun _ => False) (fun _ _ h => h) (fun _ _ h => h)
        clear hb3
        refine ⟨_, rfl, hSc, ?_⟩
        simp only [Act.put, List.setIfInBounds_toArray, List.set_cons_zero, List.set_cons_succ]
        refine wpAnyG_done (by kernel_rfl) ?_ _
        have HC3 := hide (HC.out.trans hSc (S'' := fun _ => False) (fun _ _ h => h) (fun _ _ h => h))
        clear hS0 hSc h0 hx0 hx1 hx2 hb0 hb1 hb2
        go_wp2_with fail
        go_ret
        exact ⟨ret_int (by rw [HR.out]), HB1.out.trans (HC3.out.below HB1.out.size (fun _ _ h => h))⟩
      | false =>
        have HNX := hide (fun x (hx : x ∈ l.take (k + 1)) => show cmEq x.c yc = false from by
          rw [HTK.out] at hx
          rcases List.mem_append.1 hx with h | h
          · exact HN.out x h
          · rw [List.mem_singleton.1 h]; exact hq)
        have HSM := hide (hsm _ hq)
        clear hq hsm
        go_wp2_with fail
        refine reg_start (Chg (fun _ => False) wo) 9 9 (by rfl) (by kernel_rfl) (Chg.drew _ _) ?_
        intro hS0
        have hSc := hS0
        refine reg_take (i := 0) (v := ?g11v) rfl (by kernel_rfl) (by kernel_rfl) (by kernel_rfl) (by kernel_rfl) (fun _ _ _ h => h) (by rfl) ?g11y (by assumption) ?g11r
        case g11y => (intro W hS; first | (go_simp; done) | (go_simp; with_reducible rfl))
        simp only [Act.put, List.setIfInBounds_toArray, List.set_cons_zero, List.set_cons_succ]
        refine reg_take (i := 1) (v := ?g12v) rfl (by kernel_rfl) (by kernel_rfl) (by kernel_rfl) (by kernel_rfl) (fun _ _ _ h => h) (by rfl) ?g12y (by assumption) ?g12r
        case g12y => (intro W hS; first | (go_simp; done) | (go_simp; with_reducible rfl))
        simp only [Act.put, List.setIfInBounds_toArray, List.set_cons_zero, List.set_cons_succ]
        refine reg_take (i := 2) (v := ?g13v) rfl (by kernel_rfl) (by kernel_rfl) (by kernel_rfl) (by kernel_rfl) (fun _ _ _ h => h) (by rfl) ?g13y (by assumption) ?g13r
        case g13y => (intro W hS; first | (go_simp; done) | (go_simp; with_reducible rfl))
        simp only [Act.put, List.setIfInBounds_toArray, List.set_cons_zero, List.set_cons_succ]
        refine reg_take (i := 3) (v := ?g14v) rfl (by kernel_rfl) (by kernel_rfl) (by kernel_rfl) (by kernel_rfl) (fun _ _ _ h => h) (by rfl) ?g14y (by assumption) ?g14r
        case g14y => (intro W hS; have f0 := hS.cell h0 (fun h => h); have f1 := hS.cell hx0 (fun h => h); have f2 := hS.cell hx1 (fun h => h); have f3 := hS.cell hx2 (fun h => h); have f4 := hS.cell hb0 (fun h => h); have f5 := hS.cell hb1 (fun h => h); have f6 := hS.cell hb2 (fun h => h); first | (go_simp; done) | (go_simp; with_reducible rfl))
        simp only [Act.put, List.setIfInBounds_toArray, List.set_cons_zero, List.set_cons_succ]
        refine reg_take (i := 4) (v := ?g15v) rfl (by kernel_rfl) (by kernel_rfl) (by kernel_rfl) (by kernel_rfl) (fun _ _ _ h => h) (by rfl) ?g15y (by assumption) ?g15r
        case g15y => (intro W hS; first | (go_simp; done) | (go_simp; with_reducible rfl))
        simp only [Act.put, List.setIfInBounds_toArray, List.set_cons_zero, List.set_cons_succ]
        refine reg_take (i := 5) (v := ?g16v) rfl (by kernel_rfl) (by kernel_rfl) (by kernel_rfl) (by kernel_rfl) (fun _ _ _ h => h) (by rfl) ?g16y (by assumption) ?g16r
        case g16y => (intro W hS; first | (go_simp; done) | (go_simp; with_reducible rfl))
        simp only [Act.put, List.setIfInBounds_toArray, List.set_cons_zero, List.set_cons_succ]
        refine reg_take (i := 6) (v := ?g17v) rfl (by kernel_rfl) (by kernel_rfl) (by kernel_rfl) (by kernel_rfl) (fun _ _ _ h => h) (by rfl) ?g17y (by assumption) ?g17r
        case g17y => (intro W hS; have f0 := hS.cell h0 (fun h => h); have f1 := hS.cell hx0 (fun h => h); have f2 := hS.cell hx1 (fun h => h); have f3 := hS.cell hx2 (fun h => h); have f4 := hS.cell hb0 (fun h => h); have f5 := hS.cell hb1 (fun h => h); have f6 := hS.cell hb2 (fun h => h); first | (go_simp; done) | (go_simp; with_reducible rfl))
        simp only [Act.put, List.setIfInBounds_toArray, List.set_cons_zero, List.set_cons_succ]
        refine reg_take (i := 7) (v := ?g18v) rfl (by kernel_rfl) (by kernel_rfl) (by kernel_rfl) (by kernel_rfl) (fun _ _ _ h => h) (by rfl) ?g18y (by assumption) ?g18r
        case g18y => (intro W hS; have f0 := hS.cell h0 (fun h => h); have f1 := hS.cell hx0 (fun h => h); have f2 := hS.cell hx1 (fun h => h); have f3 := hS.cell hx2 (fun h => h); have f4 := hS.cell hb0 (fun h => h); have f5 := hS.cell hb1 (fun h => h); have f6 := hS.cell hb2 (fun h => h); first | (go_simp; done) | (go_simp; with_reducible rfl))
        simp only [Act.put, List.setIfInBounds_toArray, List.set_cons_zero, List.set_cons_succ]
        refine reg_one (i := 8) (by kernel_rfl) ?_
        refine op_call (i := 8) (#[.agg #[l[k].vp, l[k].vt, .string l[k].c.note], .agg #[yp, yt, .string yc.note]]) rfl (by rfl) (enters_of Tryd.func65 (by kernel_rfl) rfl) (by first | (simp [Act.eval]; done) | rfl | (simp only [List.map_toArray, List.map_cons, List.map_nil, Act.eval]; rfl) | (simp [Act.eval]; trace_state; done)) ?_
        refine (HSM.out _ hSc).mono ?_
        rintro e W3 ⟨rfl, hb3⟩
        have hSc := hSc.trans (Chg.of_below0 (S := fun _ => False) hb3) (S'' := fun _ => False) (fun _ _ h => h) (fun _ _ h => h)
        clear hb3
        refine ⟨_, rfl, hSc, ?_⟩
        simp only [Act.put, List.setIfInBounds_toArray, List.set_cons_zero, List.set_cons_succ]
        refine wpAnyG_done (by kernel_rfl) ?_ _
        have HC3 := hide (HC.out.trans hSc (S'' := fun _ => False) (fun _ _ h => h) (fun _ _ h => h))
        clear hS0 hSc h0 hx0 hx1 hx2 hb0 hb1 hb2
        go_wp2_with fail
        go_roundw
        case rel => exact ⟨k + 1, by omega, by go_num, HNX, HC3⟩
        case measure => simp [intOf]; omega
    · obtain rfl : k = l.length := by omega
      have hn := HN.out
      rw [List.take_length] at hn
      have HR := hide (idxF_none (p := fun x : CmV => cmEq x.c yc) hn)
      clear hn HN hat
      go_wp2_with fail
      go_ret
      exact ⟨ret_int (by rw [HR.out]; rfl), HB1.out.trans (HC.out.below HB1.out.size (fun _ _ h => h))⟩
end Go.Proofs.YtnnkbicaokckbaaDoor
