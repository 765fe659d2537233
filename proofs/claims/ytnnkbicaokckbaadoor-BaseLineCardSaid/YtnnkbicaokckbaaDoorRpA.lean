/- Repos: Add. Conditions: none. -/
import Derived.Test.YtnnkbicaokckbaaDoorRpG
import Derived.Outline
import Derived.Deep.QuietTactic
import Derived.BigQuiet
namespace Go.Proofs.YtnnkbicaokckbaaDoor
open Go.RowKit Go.Shelf

def badP (m : Nat) (p : Int) : Bool := decide (p < 1) || decide (p > (m : Int))
def hasC (cs : List Cm) (c : Cm) : Bool := cs.any (fun x => cmEq x c)
def addR (cs : List Cm) (room : Int) (c : Cm) : Int × Int :=
  if mayC c = false then (0, 6) else if c.parents.any (badP cs.length) then (0, 7) else if hasC cs c then (idxF (fun x => cmEq x c) cs + 1, 0) else if room ≤ cs.length then (0, 3) else ((cs.length : Int) + 1, 0)
def addL (cs : List Cm) (room : Int) (c : Cm) : List Cm :=
  if mayC c = false then cs else if c.parents.any (badP cs.length) then cs else if hasC cs c then cs else if room ≤ cs.length then cs else cs ++ [c]
def cms (l : List CmV) : List Cm := l.map (·.c)
theorem cms_length (l : List CmV) : (cms l).length = l.length := by simp [cms]
theorem cms_idx (l : List CmV) (c : Cm) : idxF (fun x : CmV => cmEq x.c c) l = idxF (fun x => cmEq x c) (cms l) := by
  unfold idxF cms
  rw [List.any_map, List.findIdx_map]
  rfl
theorem cms_has (l : List CmV) (c : Cm) : l.any (fun x : CmV => cmEq x.c c) = hasC (cms l) c := by
  unfold hasC cms
  rw [List.any_map]
  rfl
/-- The blocks that a repo lies in. -/
def RB (p : Nat) (ao : Option Addr) (l : List CmV) (k : Nat) : Prop := RSet p ao k ∨ ∃ x ∈ l, x.vp.ownBlock = some k ∨ x.vt.ownBlock = some k
variable {base : Nat} {w : World} {p : Nat} {ao : Option Addr} {cap : Nat} {l : List CmV} {room : Int}
theorem RepoAt.rbl (h : RepoAt base w p ao cap l room) {k : Nat} (hk : RB p ao l k) : base ≤ k ∧ k < w.heap.size := by
  rcases hk with (rfl | hk) | ⟨x, hx, hk | hk⟩
  · exact ⟨h.pb, h.plt⟩
  · exact h.rb k hk
  · exact ownsRow_lt (h.cms x hx).ps k hk
  · exact ownsRow_lt (h.cms x hx).ts k hk
theorem RepoAt.turn {S : Nat → Prop} {w' : World} (h : RepoAt base w p ao cap l room) (c : Chg S w w') (hS : ∀ k, RB p ao l k → ¬ S k) : RepoAt base w' p ao cap l room :=
  ⟨c.heap h.box (hS p (.inl (.inl rfl))), c.owns h.row (fun b hb => hS b (.inl (.inr (by rw [← own_slice]; exact hb)))), fun x hx => ⟨c.owns (h.cms x hx).ps (fun b hb => hS b (.inr ⟨x, hx, .inl hb⟩)), c.owns (h.cms x hx).ts (fun b hb => hS b (.inr ⟨x, hx, .inr hb⟩))⟩, h.may, h.pb, h.len, h.room0⟩

/-- Rows of unlike types lie in unlike blocks. -/
theorem ownsRow_disj {w : World} {base base' : Nat} {e e' : TypeId} {size size' n n' : Nat} {v v' : Value} {xs xs' : List Value} (h : w.ownsRow base e size v n xs) (h' : w.ownsRow base' e' size' v' n' xs') (hne : e ≠ e') : ∀ b, v.ownBlock = some b → v'.ownBlock ≠ some b := by
  intro b hb hb'
  rcases h.2 with ⟨rfl, rfl⟩ | ⟨g, cap, cur, rfl, _, hg, _⟩
  · cases hb
  · cases hb
    rcases h'.2 with ⟨rfl, rfl⟩ | ⟨g', cap', cur', rfl, _, hg', _⟩
    · cases hb'
    · cases hb'
      rw [hg] at hg'
      cases hg'
      exact hne rfl
theorem ret_pair {r : Int × Int} {a b : Int} (h : r = (a, b)) : Ending.returned (.tuple #[.int .i64 a, .int .i64 b]) = .returned (.tuple #[.int .i64 r.1, .int .i64 r.2]) := by rw [h]
theorem add_bad (W : World) (n : Int) (b : Nat) (hb : W.cell? ⟨b, 0, none⟩ = some (.pointer (some ⟨p, 0, none⟩))) (h : RepoAt base W p ao cap l room) :
    Calls Tryd.prog 57 #[.int .i64 n, .pointer (some ⟨b, 0, none⟩)] W fun e w' => e = .returned (.bool (badP l.length n)) ∧ Below W.heap.size W w' := by
  have h0 := h.c0
  clear h
  by_cases h1 : n < 1
  · have d1 : decide (n < 1) = true := decide_eq_true h1
    have HR := hide (show badP l.length n = true by rw [badP, d1]; rfl)
    clear h1
    go_enter Tryd.func57, Tryd.ntmps57
    go_wp2_with fail
    go_ret
    exact ⟨ret_bool HR.out.symm, Below.refl _ _⟩
  · have d1 : decide (n < 1) = false := decide_eq_false h1
    have HR := hide (show badP l.length n = decide (n > (l.length : Int)) by rw [badP, d1]; rfl)
    clear h1
    go_enter Tryd.func57, Tryd.ntmps57
    go_wp2_with fail
    go_ret
    exact ⟨ret_bool HR.out.symm, Below.refl _ _⟩
/-- What an adding leaves. -/
structure Added (base : Nat) (w : World) (p : Nat) (ao : Option Addr) (l : List CmV) (room : Int) (c : Cm) (w' : World) : Prop where
  ex : ∃ ao' cap' l', RepoAt base w' p ao' cap' l' room ∧ cms l' = addL (cms l) room c ∧ (∀ k, RB p ao' l' k → RB p ao l k ∨ w.heap.size ≤ k)
  chg : Chg (RSet p ao) w w'
theorem Added.no {c : Cm} {w' : World} (h : RepoAt base w p ao cap l room) (hl : addL (cms l) room c = cms l) (hb : Below w.heap.size w w') : Added base w p ao l room c w' :=
  ⟨⟨ao, cap, l, h.same (Chg.of_below0 hb), hl.symm, fun _ h => .inl h⟩, Chg.of_below0 hb⟩
theorem repo_Add_nil (w : World) (y : CmV) : Calls Tryd.prog 18 #[.pointer none, y.val] w fun e w' => e = .returned (.tuple #[.int .i64 0, .int .i64 1]) ∧ Below w.heap.size w w' := by
  obtain ⟨yc, yp, yt⟩ := y
  have HB1 := hide (((Below.refl w.heap.size w).alloc (Nat.le_refl _) (.cells #[.pointer none] 25)).alloc (by simp) (.cells #[yp, yt, .string yc.note] 33))
  unfold CmV.val
  go_enter Tryd.func18, Tryd.ntmps18
  go_wp2_with fail
  go_ret2
  exact ⟨rfl, HB1.out⟩

set_option maxRecDepth 100000 in
set_option maxHeartbeats 4000000 in
theorem repo_Add (h : RepoAt base w p ao cap l room) (hM : Mx w) (y : CmV) (hy : CmAt w y) (fy : Few y.c) (hl : l.length < 1000) :
    Calls Tryd.prog 18 #[.pointer (some ⟨p, 0, none⟩), y.val] w fun e w' => e = .returned (.tuple #[.int .i64 (addR (cms l) room y.c).1, .int .i64 (addR (cms l) room y.c).2]) ∧ Added base w p ao l room y.c w' := by
  have hB1 : Below w.heap.size w (w.alloc (.cells #[.pointer (some ⟨p, 0, none⟩)] 25)) := (Below.refl _ w).alloc (Nat.le_refl _) _
  have hs1 : (w.alloc (.cells #[.pointer (some ⟨p, 0, none⟩)] 25)).heap.size = w.heap.size + 1 := World.size_alloc _ _
  have hh1 := heap_alloc_new w (.cells #[.pointer (some ⟨p, 0, none⟩)] 25)
  generalize hw1 : w.alloc (.cells #[.pointer (some ⟨p, 0, none⟩)] 25) = w1 at hB1 hs1 hh1
  have hB2 := hB1.alloc hB1.size (.cells #[y.vp, y.vt, .string y.c.note] 33)
  have hh2 := (Chg.alloc (fun _ => False) w1 (.cells #[y.vp, y.vt, .string y.c.note] 33)).heap hh1 (fun h => h)
  have hk2 := heap_alloc_new w1 (.cells #[y.vp, y.vt, .string y.c.note] 33)
  generalize hw2 : w1.alloc (.cells #[y.vp, y.vt, .string y.c.note] 33) = w2 at hB2 hh2 hk2
  have HW1 := hide hw1
  have HS1 := hide hs1
  have HW2 := hide hw2
  have hc2 := Chg.of_below0 (S := fun _ => False) hB2
  have h2 := h.same hc2
  have g0 : w2.cell? ⟨w.heap.size, 0, none⟩ = some (.pointer (some ⟨p, 0, none⟩)) := cell_of_heap hh2 0
  have y0 : w2.cell? ⟨w1.heap.size, 0, none⟩ = some y.vp := cell_of_heap hk2 0
  have y1 : w2.cell? ⟨w1.heap.size, 1, none⟩ = some y.vt := cell_of_heap hk2 1
  have y2 : w2.cell? ⟨w1.heap.size, 2, none⟩ = some (.string y.c.note) := cell_of_heap hk2 2
  have r0 := h2.c0
  have r1 := h2.c1
  have HY2 := hide (hy.same hc2)
  have HM := hide (repo_May w2 y HY2.out fy (hM.chg hc2 (fun h => h)))
  have HB2 := hide hB2
  have HC2 := hide hc2
  have H2 := hide h2
  have HH := hide h
  have HG0 := hide g0
  have HY0 := hide y0
  have HY1 := hide y1
  have HY2' := hide y2
  have HLL := hide hl
  have FY := hide fy
  have hps : Rd w2 y.vp y.c.parents.length (flat int_enc y.c.parents) := HY2.out.ps
  obtain ⟨vpo, vpc, hvp, -, -⟩ := hps.shape
  have HVP := hide hvp
  clear h hM hy fy hw1 hw2 hc2 h2 hB1 hB2 hs1 hh1 hh2 hk2 hl hps hvp
  obtain ⟨yc, yp, yt⟩ := y
  simp only at y0 y1 y2
  cases hmay : mayC yc with
  | false =>
    have hA : addR (cms l) room yc = (0, 6) := by simp [addR, hmay]
    have hL : addL (cms l) room yc = cms l := by simp [addL, hmay]
    have HR := hide hA
    have HL := hide hL
    have HM' : Hid (Calls Tryd.prog 29 #[.agg #[yp, yt, .string yc.note]] w2 fun e w' => e = .returned (.bool false) ∧ Below w2.heap.size w2 w') := hide (by have := HM.out; simp only [hmay] at this; exact this)
    clear hA hL hmay HM r0 r1
    unfold CmV.val
    go_enter Tryd.func18, Tryd.ntmps18
    go_wp2_with (first | rw [HW1.out] | rw [HW2.out])
    refine HM'.out.mono ?_
    rintro e w3 ⟨rfl, hb3⟩
    have HB3 := hide (HB2.out.trans (hb3.mono HB2.out.size))
    clear hb3
    go_wp2_with fail
    go_ret2
    exact ⟨ret_pair HR.out, Added.no HH.out HL.out HB3.out⟩
  | true =>
    have HMAY := hide hmay
    have HM' : Hid (Calls Tryd.prog 29 #[.agg #[yp, yt, .string yc.note]] w2 fun e w' => e = .returned (.bool true) ∧ Below w2.heap.size w2 w') := hide (by have := HM.out; simp only [hmay] at this; exact this)
    clear HM
    have HCT := hide (fun W (hW : Chg (fun _ => False) w2 W) => int_containsFunc W yp yc.parents ((HY2.out.same hW).ps) (fun b hb hn => (HY2.out.same hW).pb b hb hn) (by have := (mayC_few hmay).1; omega) 57 #[.pointer (some ⟨w.heap.size, 0, none⟩)] (badP l.length)
      (fun W' => Chg (fun _ => False) w2 W') (enters_of Tryd.func57 (by kernel_rfl) rfl)
      (fun W' n _ hW' => add_bad W' n w.heap.size (hW'.cell HG0.out (fun h => h)) (H2.out.same hW')) (fun W W' h hb => h.trans (Chg.of_below0 (S := fun _ => False) hb) (fun _ _ h => h) (fun _ _ h => h)) hW)
    cases hbad : yc.parents.any (badP l.length) with
    | true =>
      have hA : addR (cms l) room yc = (0, 7) := by simp [addR, hmay, cms_length, hbad]
      have hL : addL (cms l) room yc = cms l := by simp [addL, hmay, cms_length, hbad]
      have HR := hide hA
      have HL := hide hL
      rw [hbad] at HCT
      clear hA hL hmay r0 r1
      unfold CmV.val
      go_enter Tryd.func18, Tryd.ntmps18
      go_wp2_with (first | rw [HW1.out] | rw [HW2.out])
      refine HM'.out.mono ?_
      rintro e w3 ⟨rfl, hb3⟩
      have HB3 := hide (HB2.out.trans (hb3.mono HB2.out.size))
      have HC3 := hide (Chg.of_below0 (S := fun _ => False) hb3)
      have y3 := HC3.out.cell y0 (fun h => h)
      have y4 := HC3.out.cell y1 (fun h => h)
      have y5 := HC3.out.cell y2 (fun h => h)
      clear hb3 y0 y1 y2
      go_wp2_with fail
      refine (HCT.out _ HC3.out).mono ?_
      rintro e w4 ⟨rfl, hb4⟩
      have HB4 := hide (HB3.out.trans (hb4.mono HB3.out.size))
      clear hb4 y3 y4 y5
      go_wp2_with fail
      go_ret2
      exact ⟨ret_pair HR.out, Added.no HH.out HL.out HB4.out⟩
    | false =>
      rw [hbad] at HCT
      have HFI := hide (fun W (hW : Chg (fun _ => False) w2 W) => repo_Find (H2.out.same hW) ⟨yc, yp, yt⟩ (HY2.out.same hW) FY.out)
      have hge := idxF_ge (fun x : CmV => cmEq x.c yc) l
      have hlt := idxF_lt (fun x : CmV => cmEq x.c yc) l
      rw [cms_has] at hge
      rw [cms_idx] at hge hlt
      have hFI2 : Hid (∀ W, Chg (fun _ => False) w2 W → Calls Tryd.prog 21 #[.pointer (some ⟨p, 0, none⟩), .agg #[yp, yt, .string yc.note]] W fun e w' => e = .returned (.int .i64 (idxF (fun x => cmEq x yc) (cms l) + 1)) ∧ Below W.heap.size W w') := hide (fun W hW => by have := HFI.out W hW; simp only [cms_idx] at this; exact this)
      clear HFI
      have hA : addR (cms l) room yc = if hasC (cms l) yc then (idxF (fun x => cmEq x yc) (cms l) + 1, 0) else if room ≤ (cms l).length then (0, 3) else (((cms l).length : Int) + 1, 0) := by simp [addR, hmay, cms_length, hbad]
      have hL : addL (cms l) room yc = if hasC (cms l) yc then cms l else if room ≤ (cms l).length then cms l else cms l ++ [yc] := by simp [addL, hmay, cms_length, hbad]
      obtain ⟨i, hi⟩ : ∃ i, i = idxF (fun x => cmEq x yc) (cms l) := ⟨_, rfl⟩
      rw [← hi] at hA hge hlt hFI2
      clear hbad hi
      cases hhas : hasC (cms l) yc with
      | true =>
        rw [hhas] at hge hA hL
        have d1 : decide (i + 1 > 0) = true := decide_eq_true (by have := of_decide_eq_true hge; omega)
        have hbi : -1 ≤ i ∧ i ≤ 1000 := by have := HLL.out; omega
        have HR : Hid (addR (cms l) room yc = (i + 1, 0)) := hide hA
        have HL : Hid (addL (cms l) room yc = cms l) := hide hL
        clear hA hL hmay hge hlt hhas r0 r1
        unfold CmV.val
        go_enter Tryd.func18, Tryd.ntmps18
        go_wp2_with (first | rw [HW1.out] | rw [HW2.out])
        refine HM'.out.mono ?_
        rintro e w3 ⟨rfl, hb3⟩
        have HB3 := hide (HB2.out.trans (hb3.mono HB2.out.size))
        have HC3 := hide (Chg.of_below0 (S := fun _ => False) hb3)
        have y3 := HC3.out.cell y0 (fun h => h)
        have y4 := HC3.out.cell y1 (fun h => h)
        have y5 := HC3.out.cell y2 (fun h => h)
        clear hb3
        go_wp2_with fail
        refine (HCT.out _ HC3.out).mono ?_
        rintro e w4 ⟨rfl, hb4⟩
        have HB4 := hide (HB3.out.trans (hb4.mono HB3.out.size))
        have HC4 := hide (HC3.out.trans (Chg.of_below0 (S := fun _ => False) hb4) (S'' := fun _ => False) (fun _ _ h => h) (fun _ _ h => h))
        have y6 := HC4.out.cell y0 (fun h => h)
        have y7 := HC4.out.cell y1 (fun h => h)
        have y8 := HC4.out.cell y2 (fun h => h)
        have g4 := HC4.out.cell g0 (fun h => h)
        clear hb4 y3 y4 y5 y0 y1 y2 g0
        go_wp2_with fail
        refine (hFI2.out _ HC4.out).mono ?_
        rintro e w5 ⟨rfl, hb5⟩
        have HB5 := hide (HB4.out.trans (hb5.mono HB4.out.size))
        clear hb5 y6 y7 y8 g4
        go_wp2_with fail
        go_ret2
        exact ⟨ret_pair HR.out, Added.no HH.out HL.out HB5.out⟩
      | false =>
        rw [hhas] at hge hA hL
        have hin : i = -1 := by have := of_decide_eq_false hge; omega
        subst hin
        clear hge hlt hhas
        have hrr := H2.out.room0
        have hll := HLL.out
        by_cases hfull : room ≤ l.length
        · have d1 : decide ((l.length : Int) ≥ room) = true := decide_eq_true (by omega)
          have HR : Hid (addR (cms l) room yc = (0, 3)) := hide (by rw [hA, cms_length]; simp [hfull])
          have HL : Hid (addL (cms l) room yc = cms l) := hide (by rw [hL, cms_length]; simp [hfull])
          clear hA hL hmay hrr hfull
          unfold CmV.val
          go_enter Tryd.func18, Tryd.ntmps18
          go_wp2_with (first | rw [HW1.out] | rw [HW2.out])
          refine HM'.out.mono ?_
          rintro e w3 ⟨rfl, hb3⟩
          have HB3 := hide (HB2.out.trans (hb3.mono HB2.out.size))
          have HC3 := hide (Chg.of_below0 (S := fun _ => False) hb3)
          have y3 := HC3.out.cell y0 (fun h => h)
          have y4 := HC3.out.cell y1 (fun h => h)
          have y5 := HC3.out.cell y2 (fun h => h)
          clear hb3
          go_wp2_with fail
          refine (HCT.out _ HC3.out).mono ?_
          rintro e w4 ⟨rfl, hb4⟩
          have HB4 := hide (HB3.out.trans (hb4.mono HB3.out.size))
          have HC4 := hide (HC3.out.trans (Chg.of_below0 (S := fun _ => False) hb4) (S'' := fun _ => False) (fun _ _ h => h) (fun _ _ h => h))
          have y6 := HC4.out.cell y0 (fun h => h)
          have y7 := HC4.out.cell y1 (fun h => h)
          have y8 := HC4.out.cell y2 (fun h => h)
          have g4 := HC4.out.cell g0 (fun h => h)
          clear hb4 y3 y4 y5
          go_wp2_with fail
          refine (hFI2.out _ HC4.out).mono ?_
          rintro e w5 ⟨rfl, hb5⟩
          have HB5 := hide (HB4.out.trans (hb5.mono HB4.out.size))
          have HC5 := hide (HC4.out.trans (Chg.of_below0 (S := fun _ => False) hb5) (S'' := fun _ => False) (fun _ _ h => h) (fun _ _ h => h))
          have z0 := HC5.out.cell g0 (fun h => h)
          have z1 := HC5.out.cell r0 (fun h => h)
          have z2 := HC5.out.cell r1 (fun h => h)
          have z3 := HC5.out.cell y0 (fun h => h)
          have z4 := HC5.out.cell y1 (fun h => h)
          have z5 := HC5.out.cell y2 (fun h => h)
          have hm1 : ((-1 : Int) + 1) = 0 := by decide
          rw [hm1]
          have HHG := hide HC5.out
          clear hb5 y6 y7 y8 g4 y0 y1 y2 g0 r0 r1 hm1
          go_wp2_with fail
          go_quiet (fail)
          go_wp2_with fail
          go_ret2
          exact ⟨ret_pair HR.out, Added.no HH.out HL.out (by simpa using bdrewN HB5.out _)⟩
        · have d1 : decide ((l.length : Int) ≥ room) = false := decide_eq_false (by omega)
          have HR : Hid (addR (cms l) room yc = ((l.length : Int) + 1, 0)) := hide (by rw [hA, cms_length]; simp [hfull])
          have HL : Hid (addL (cms l) room yc = cms l ++ [yc]) := hide (by rw [hL, cms_length]; simp [hfull])
          clear hA hL hmay hfull
          unfold CmV.val
          go_enter Tryd.func18, Tryd.ntmps18
          go_wp2_with (first | rw [HW1.out] | rw [HW2.out])
          refine HM'.out.mono ?_
          rintro e w3 ⟨rfl, hb3⟩
          have HB3 := hide (HB2.out.trans (hb3.mono HB2.out.size))
          have HC3 := hide (Chg.of_below0 (S := fun _ => False) hb3)
          have y3 := HC3.out.cell y0 (fun h => h)
          have y4 := HC3.out.cell y1 (fun h => h)
          have y5 := HC3.out.cell y2 (fun h => h)
          clear hb3
          go_wp2_with fail
          refine (HCT.out _ HC3.out).mono ?_
          rintro e w4 ⟨rfl, hb4⟩
          have HB4 := hide (HB3.out.trans (hb4.mono HB3.out.size))
          have HC4 := hide (HC3.out.trans (Chg.of_below0 (S := fun _ => False) hb4) (S'' := fun _ => False) (fun _ _ h => h) (fun _ _ h => h))
          have y6 := HC4.out.cell y0 (fun h => h)
          have y7 := HC4.out.cell y1 (fun h => h)
          have y8 := HC4.out.cell y2 (fun h => h)
          have g4 := HC4.out.cell g0 (fun h => h)
          clear hb4 y3 y4 y5
          go_wp2_with fail
          refine (hFI2.out _ HC4.out).mono ?_
          rintro e w5 ⟨rfl, hb5⟩
          have HB5 := hide (HB4.out.trans (hb5.mono HB4.out.size))
          have HC5 := hide (HC4.out.trans (Chg.of_below0 (S := fun _ => False) hb5) (S'' := fun _ => False) (fun _ _ h => h) (fun _ _ h => h))
          have z0 := HC5.out.cell g0 (fun h => h)
          have z1 := HC5.out.cell r0 (fun h => h)
          have z2 := HC5.out.cell r1 (fun h => h)
          have z3 := HC5.out.cell y0 (fun h => h)
          have z4 := HC5.out.cell y1 (fun h => h)
          have z5 := HC5.out.cell y2 (fun h => h)
          have hm1 : ((-1 : Int) + 1) = 0 := by decide
          rw [hm1]
          have HHG := hide HC5.out
          clear hb5 y6 y7 y8 g4 y0 y1 y2 g0 r0 r1 hm1
          go_wp2_with fail
          go_quiet (fail)
          go_wp2_with fail
          have hc6 := HC5.out.trans (Chg.drewN (fun _ => False) w5 nq) (S'' := fun _ => False) (fun _ _ h => h) (fun _ _ h => h)
          have hb6 := bdrewN HB5.out nq
          clear z0 z1 z2 z3 z4 z5 HHG
          generalize w5.drewN nq = w6 at hc6 hb6 ⊢
          have HC6 := hide hc6
          have HB6 := hide hb6
          have z0 := hc6.cell HG0.out (fun h => h)
          have z1 := hc6.cell H2.out.c0 (fun h => h)
          have z3 : w6.cell? ⟨w1.heap.size, 0, none⟩ = some yp := hc6.cell HY0.out (fun h => h)
          have z4 : w6.cell? ⟨w1.heap.size, 1, none⟩ = some yt := hc6.cell HY1.out (fun h => h)
          have z5 : w6.cell? ⟨w1.heap.size, 2, none⟩ = some (.string yc.note) := hc6.cell HY2'.out (fun h => h)
          have H6 := hide (H2.out.same hc6)
          clear hc6 hb6
          have hna : ∀ k, (Value.slice ao l.length cap).ownBlock = some k → k < w.heap.size ∧ k ≠ p := fun k hk => ⟨(ownsRow_lt HH.out.row k hk).2, fun e => ownsRow_ne HH.out.row HH.out.box (by decide) (e ▸ hk)⟩
          have HNA := hide hna
          have hpw := HH.out.plt
          have hs1 := HS1.out
          have n0 : ¬ (Value.slice ao l.length cap).ownBlock = some w.heap.size := fun h => by have := (hna _ h).1; omega
          have n1 : ¬ (Value.slice ao l.length cap).ownBlock = some p := fun h => (hna _ h).2 rfl
          have n2 : ¬ (Value.slice ao l.length cap).ownBlock = some w1.heap.size := fun h => by have := (hna _ h).1; omega
          clear hna hs1 hpw
          refine reg_start (Chg (fun k => (Value.slice ao l.length cap).ownBlock = some k) w6) 12 11 (by rfl) (by kernel_rfl) (Chg.drew _ _) ?_
          intro hS0
          have hSc := hS0
          refine reg_take (i := 0) (v := ?g2v) rfl (by kernel_rfl) (by kernel_rfl) (by kernel_rfl) (by kernel_rfl) (fun _ _ _ h => h) (by rfl) ?g2y (by assumption) ?g2r
          case g2y => (intro W hS; have f0 := hS.cell z0 n0; have f1 := hS.cell z1 n1; have f3 := hS.cell z3 n2; have f4 := hS.cell z4 n2; have f5 := hS.cell z5 n2; first | (go_simp; done) | (go_simp; with_reducible rfl))
          simp only [Act.put, List.setIfInBounds_toArray, List.set_cons_zero, List.set_cons_succ]
          refine reg_take (i := 1) (v := ?g3v) rfl (by kernel_rfl) (by kernel_rfl) (by kernel_rfl) (by kernel_rfl) (fun _ _ _ h => h) (by rfl) ?g3y (by assumption) ?g3r
          case g3y => (intro W hS; have f0 := hS.cell z0 n0; have f1 := hS.cell z1 n1; have f3 := hS.cell z3 n2; have f4 := hS.cell z4 n2; have f5 := hS.cell z5 n2; first | (go_simp; done) | (go_simp; with_reducible rfl))
          simp only [Act.put, List.setIfInBounds_toArray, List.set_cons_zero, List.set_cons_succ]
          refine reg_take (i := 2) (v := ?g4v) rfl (by kernel_rfl) (by kernel_rfl) (by kernel_rfl) (by kernel_rfl) (fun _ _ _ h => h) (by rfl) ?g4y (by assumption) ?g4r
          case g4y => (intro W hS; first | (go_simp; done) | (go_simp; with_reducible rfl))
          simp only [Act.put, List.setIfInBounds_toArray, List.set_cons_zero, List.set_cons_succ]
          refine reg_take (i := 3) (v := ?g5v) rfl (by kernel_rfl) (by kernel_rfl) (by kernel_rfl) (by kernel_rfl) (fun _ _ _ h => h) (by rfl) ?g5y (by assumption) ?g5r
          case g5y => (intro W hS; first | (go_simp; done) | (go_simp; with_reducible rfl))
          simp only [Act.put, List.setIfInBounds_toArray, List.set_cons_zero, List.set_cons_succ]
          refine reg_take (i := 4) (v := ?g6v) rfl (by kernel_rfl) (by kernel_rfl) (by kernel_rfl) (by kernel_rfl) (fun _ _ _ h => h) (by rfl) ?g6y (by assumption) ?g6r
          case g6y => (intro W hS; have f0 := hS.cell z0 n0; have f1 := hS.cell z1 n1; have f3 := hS.cell z3 n2; have f4 := hS.cell z4 n2; have f5 := hS.cell z5 n2; first | (go_simp; done) | (go_simp; with_reducible rfl))
          simp only [Act.put, List.setIfInBounds_toArray, List.set_cons_zero, List.set_cons_succ]
          refine reg_take (i := 5) (v := ?g7v) rfl (by kernel_rfl) (by kernel_rfl) (by kernel_rfl) (by kernel_rfl) (fun _ _ _ h => h) (by rfl) ?g7y (by assumption) ?g7r
          case g7y => (intro W hS; have f0 := hS.cell z0 n0; have f1 := hS.cell z1 n1; have f3 := hS.cell z3 n2; have f4 := hS.cell z4 n2; have f5 := hS.cell z5 n2; first | (go_simp; done) | (go_simp; with_reducible rfl))
          simp only [Act.put, List.setIfInBounds_toArray, List.set_cons_zero, List.set_cons_succ]
          refine reg_one (i := 6) (by kernel_rfl) ?_
          refine op_call (i := 6) (#[.agg #[yp, yt, .string yc.note]]) rfl (by rfl) (enters_of Tryd.func58 (by kernel_rfl) rfl) (by first | (simp [Act.eval]; done) | rfl | (simp only [List.map_toArray, List.map_cons, List.map_nil, Act.eval]; rfl) | (simp [Act.eval]; trace_state; done)) ?_
          refine (repo_own _ ⟨yc, yp, yt⟩ (HY2.out.same (HC6.out.trans (Chg.drew (fun _ => False) _) (S'' := fun _ => False) (fun _ _ h => h) (fun _ _ h => h))) FY.out).mono ?_
          rintro e W7 ⟨vp, vt, rfl, hown, hb7⟩
          have hps : W7.ownsRow _ _ _ vp yc.parents.length _ := hown.ps
          have hts : W7.ownsRow _ _ _ vt yc.tree.length _ := hown.ts
          obtain ⟨aop, cap1, rfl⟩ := ownsRow_shape hps
          obtain ⟨aot, cap2, rfl⟩ := ownsRow_shape hts
          have HO7 := hide (hown.base (show w6.heap.size ≤ _ from Nat.le_refl _))
          have hSf := (Chg.drew (fun _ => False) w6).trans (Chg.of_below0 (S := fun _ => False) hb7) (S'' := fun _ => False) (fun _ _ h => h) (fun _ _ h => h)
          have hSc : Chg (fun k => (Value.slice ao l.length cap).ownBlock = some k) w6 W7 := hSf.mono (fun _ _ h => h.elim)
          clear hown hps hts hb7
          refine ⟨.agg #[.slice aop yc.parents.length cap1, .slice aot yc.tree.length cap2, .string yc.note], rfl, hSc, ?_⟩
          simp only [Act.put, List.setIfInBounds_toArray, List.set_cons_zero, List.set_cons_succ]
          refine reg_one (i := 7) (by kernel_rfl) ?_
          refine op_val (i := 7) (v := .slice (some ⟨W7.heap.size, 0, none⟩) 1 1) (w' := W7.alloc (.cells #[.slice aop yc.parents.length cap1, .slice aot yc.tree.length cap2, .string yc.note] 33)) rfl (by rfl) (by go_simp) ?_
          have hrl := Rd_lit W7 #[.slice aop yc.parents.length cap1, .slice aot yc.tree.length cap2, .string yc.note] 33 1
          have hal := Chg.alloc (fun _ => False) W7 (.cells #[.slice aop yc.parents.length cap1, .slice aot yc.tree.length cap2, .string yc.note] 33)
          generalize W7.alloc (.cells #[.slice aop yc.parents.length cap1, .slice aot yc.tree.length cap2, .string yc.note] 33) = W8 at hrl hal ⊢
          have HO8 := hide (HO7.out.chg hal (fun _ _ _ h => h))
          have hSf := hSf.trans hal (S'' := fun _ => False) (fun _ _ h => h) (fun _ _ h => h)
          have hSc : Chg (fun k => (Value.slice ao l.length cap).ownBlock = some k) w6 W8 := hSf.mono (fun _ _ h => h.elim)
          refine ⟨hSc, ?_⟩
          simp only [Act.put, List.setIfInBounds_toArray, List.set_cons_zero, List.set_cons_succ]
          refine reg_one (i := 8) (by kernel_rfl) ?_
          refine op_append (i := 8) rfl (by rfl) cv_slT base (H6.out.same hSf).row hrl rfl rfl rfl (HO8.out.at.one) (by unfold maxLen; omega) (by omega) (by have := (H6.out.same hSf).pb; have := (H6.out.same hSf).plt; omega) ?_
          intro ao9 cap9 W9 hown9 hg9 hat9
          have hbox8 := (H6.out.same hSf).box
          have hbox9 := hg9.heap hbox8 n1
          have f9 : W9.cell? ⟨p, 0, none⟩ = some (.slice ao l.length cap) := cell_of_heap hbox9 0
          have e9 := free_of_heap hbox9 0
          have hSc := hSc.trans hg9 (S'' := fun k => (Value.slice ao l.length cap).ownBlock = some k) (fun _ _ h => h) (fun _ _ h => h)
          refine ⟨hSc, ?_⟩
          simp only [Act.put, List.setIfInBounds_toArray, List.set_cons_zero, List.set_cons_succ]
          refine reg_one (i := 9) (by kernel_rfl) ?_
          refine op_val (i := 9) (v := .pointer (some ⟨p, 0, none⟩)) (w' := W9) rfl (by rfl) (by go_simp) ?_
          refine ⟨hSc, ?_⟩
          simp only [Act.put, List.setIfInBounds_toArray, List.set_cons_zero, List.set_cons_succ]
          refine reg_take (i := 10) (v := ?g8v) rfl (by kernel_rfl) (by kernel_rfl) (by kernel_rfl) (by kernel_rfl) (fun _ _ _ h => h) (by rfl) ?g8y (by assumption) ?g8r
          case g8y => (intro W hS; first | (go_simp; done) | (go_simp; with_reducible rfl))
          simp only [Act.put, List.setIfInBounds_toArray, List.set_cons_zero, List.set_cons_succ]
          refine reg_late (i := 11) (by kernel_rfl) (by decide) ?_
          refine op_store (i := 11) rfl (by rfl) (w' := W9.setCell ⟨p, 0, none⟩ (.slice ao9 (l.length + 1) cap9)) (by go_simp) ?_
          simp only [Act.put]
          refine wpAnyG_done (by kernel_rfl) ?_ _
          have hne8 := hbox9
          have hs8 := hSf.size
          have hc10 := Chg.setCell W9 ⟨p, 0, none⟩ (.slice ao9 (l.length + 1) cap9)
          have hx10 := heap_setCell_same hbox9 (i := 0) (.slice ao9 (l.length + 1) cap9)
          have hn9 := ownsRow_ne hown9 hbox9 (by decide)
          have hrow10 := hc10.owns hown9 (fun b hb e => hn9 (by rw [hb]; exact congrArg some e))
          have hdis : ∀ (e : TypeId) (size : Nat) (v : Value) (n : Nat) (cs : List Value), W8.ownsRow base e size v n cs → e ≠ 33 → e ≠ 75 → (W9.setCell ⟨p, 0, none⟩ (.slice ao9 (l.length + 1) cap9)).ownsRow base e size v n cs := fun e size v n cs ho h1 h2 => by
            refine hc10.owns (hg9.owns ho (fun b hb hb' => ownsRow_disj ho (H6.out.same hSf).row h1 b hb hb')) (fun b hb hb' => ?_)
            have hb'' : b = p := hb'
            subst hb''
            exact ownsRow_ne ho hbox8 (fun e => h2 e.symm) hb
          have hcm : ∀ x : CmV, Own W8 base x → Own (W9.setCell ⟨p, 0, none⟩ (.slice ao9 (l.length + 1) cap9)) base x := fun x hx => ⟨hdis _ _ _ _ _ hx.ps (by decide) (by decide), hdis _ _ _ _ _ hx.ts (by decide) (by decide)⟩
          have hyo := HO8.out.base (show base ≤ w6.heap.size by have := H6.out.pb; have := H6.out.plt; omega)
          have hwy : w.heap.size ≤ w6.heap.size := HB6.out.size
          have hAD : Added base w p ao l room yc (W9.setCell ⟨p, 0, none⟩ (.slice ao9 (l.length + 1) cap9)) := by
            refine ⟨⟨ao9, cap9, l ++ [⟨yc, .slice aop yc.parents.length cap1, .slice aot yc.tree.length cap2⟩], ⟨?_, ?_, ?_, ?_, HH.out.pb, by simp; omega, HH.out.room0⟩, ?_, ?_⟩, ?_⟩
            · rw [List.length_append]; simpa using hx10
            · rw [List.length_append, flat_append]
              exact hrow10
            · intro x hx
              rcases List.mem_append.1 hx with hx | hx
              · exact hcm x ((H6.out.same hSf).cms x hx)
              · rw [List.mem_singleton.1 hx]
                exact hcm _ hyo
            · intro x hx
              rcases List.mem_append.1 hx with hx | hx
              · exact HH.out.may x hx
              · rw [List.mem_singleton.1 hx]
                exact HMAY.out
            · rw [HL.out]; simp [cms]
            · intro k hk
              have hys := HO8.out
              rcases hk with (hk | hk) | ⟨x, hx, hk⟩
              · exact .inl (.inl (.inl hk))
              · rcases hat9 with e | e
                · left; left; right
                  rw [← hk, ← own_slice ao l.length cap, ← e, own_slice]
                · right
                  rw [own_slice] at e
                  rw [e] at hk
                  have := Option.some.inj hk
                  omega
              · rcases List.mem_append.1 hx with hx | hx
                · exact .inl (.inr ⟨x, hx, hk⟩)
                · right
                  rw [List.mem_singleton.1 hx] at hk
                  rcases hk with hk | hk
                  · have := (ownsRow_lt hys.ps k hk).1; omega
                  · have := (ownsRow_lt hys.ts k hk).1; omega
            · refine ((Chg.of_below0 (S := RSet p ao) HB6.out).trans hSf (S'' := RSet p ao) (fun _ _ h => h) (fun _ _ h => h.elim)).trans (hg9.trans hc10 (S'' := RSet p ao) (fun k _ h => .inr (by rw [← own_slice]; exact h)) (fun k _ h => .inl h)) (fun _ _ h => h) (fun _ _ h => h)
          have HAD := hide hAD
          have q0 : (W9.setCell ⟨p, 0, none⟩ (.slice ao9 (l.length + 1) cap9)).cell? ⟨p, 0, none⟩ = some (.slice ao9 (l.length + 1) cap9) := cell_of_heap hx10 0
          have q1 := hc10.cell (hg9.cell (hSf.cell z0 (fun h => h)) n0) (fun h => by have := HH.out.plt; have h' : w.heap.size = p := h; omega)
          have hl1 := HLL.out
          clear hS0 hSc hAD hx10 hc10 hn9 hrow10 hdis hcm hyo hwy hown9 hg9 hat9 hbox9 hbox8 hne8 hs8 hSf f9 e9 n0 n1 n2 hrl hal z0 z1 z3 z4 z5
          generalize W9.setCell ⟨p, 0, none⟩ (.slice ao9 (l.length + 1) cap9) = W10 at HAD q0 q1 ⊢
          go_wp2_with fail
          go_ret2
          exact ⟨ret_pair HR.out, HAD.out⟩
/-- A repo of which only the commits are told. -/
def RepoIs (base : Nat) (w : World) (p : Nat) (cs : List Cm) (room : Int) : Prop := ∃ ao cap l, RepoAt base w p ao cap l room ∧ cms l = cs
theorem RepoIs.chg {S : Nat → Prop} {w' : World} {cs : List Cm} (h : RepoIs base w p cs room) (c : Chg S w w') (hS : ∀ b, base ≤ b → b < w.heap.size → ¬ S b) : RepoIs base w' p cs room := by
  obtain ⟨ao, cap, l, h, e⟩ := h
  exact ⟨ao, cap, l, h.chg c hS, e⟩
theorem RepoIs.same {w' : World} {cs : List Cm} (h : RepoIs base w p cs room) (c : Chg (fun _ => False) w w') : RepoIs base w' p cs room := h.chg c (fun _ _ _ h => h)
theorem RepoIs.small {cs : List Cm} (h : RepoIs base w p cs room) : cs.length ≤ 1000 ∧ 0 ≤ room ∧ room ≤ 120 ∧ base < w.heap.size := by
  obtain ⟨ao, cap, l, h, rfl⟩ := h
  have h1 := h.len
  have h2 := h.room0
  have h3 := h.pb
  have h4 := h.plt
  rw [cms_length]
  omega
theorem RepoIs.add {cs : List Cm} (h : RepoIs base w p cs room) (hM : Mx w) (y : CmV) (hy : CmAt w y) (fy : Few y.c) (hl : cs.length < 1000) :
    Calls Tryd.prog 18 #[.pointer (some ⟨p, 0, none⟩), y.val] w fun e w' => e = .returned (.tuple #[.int .i64 (addR cs room y.c).1, .int .i64 (addR cs room y.c).2]) ∧ RepoIs base w' p (addL cs room y.c) room ∧ Below base w w' := by
  obtain ⟨ao, cap, l, h, rfl⟩ := h
  rw [cms_length] at hl
  refine (repo_Add h hM y hy fy hl).mono ?_
  rintro e w' ⟨rfl, ⟨ao', cap', l', h', hl', -⟩, hc⟩
  refine ⟨rfl, ⟨ao', cap', l', h', hl'⟩, hc.below ?_ (fun k hk hS => ?_)⟩
  · have := h.pb; have := h.plt; omega
  · rcases hS with rfl | hS
    · have := h.pb; omega
    · have := (h.rb k hS).1; omega
theorem RepoIs.new (w : World) (room : Int) (hr : -2147483648 ≤ room ∧ room ≤ 2147483647) : Calls Tryd.prog 17 #[.int .i64 room] w fun e w' => e = .returned (.pointer (some ⟨w.heap.size, 0, none⟩)) ∧ RepoIs w.heap.size w' w.heap.size [] (min (max room 0) 120) ∧ Below w.heap.size w w' := by
  refine (repo_New w room hr).mono ?_
  rintro e w' ⟨rfl, h, hb⟩
  exact ⟨rfl, ⟨none, 0, [], h, rfl⟩, hb⟩
theorem RepoIs.lenC {cs : List Cm} (h : RepoIs base w p cs room) : Calls Tryd.prog 20 #[.pointer (some ⟨p, 0, none⟩)] w fun e w' => e = .returned (.int .i64 cs.length) ∧ w' = w := by
  obtain ⟨ao, cap, l, h, rfl⟩ := h
  rw [cms_length]
  exact repo_Len h
theorem RepoIs.find {cs : List Cm} (h : RepoIs base w p cs room) (y : CmV) (hy : CmAt w y) (fy : Few y.c) :
    Calls Tryd.prog 21 #[.pointer (some ⟨p, 0, none⟩), y.val] w fun e w' => e = .returned (.int .i64 (idxF (fun x : Cm => cmEq x y.c) cs + 1)) ∧ Below w.heap.size w w' := by
  obtain ⟨ao, cap, l, h, rfl⟩ := h
  rw [← cms_idx]
  exact repo_Find h y hy fy
theorem RepoIs.get {cs : List Cm} (h : RepoIs base w p cs room) (n : Int) (k : Nat) (hk : k < cs.length) (hn : n = (k : Int) + 1) :
    Calls Tryd.prog 25 #[.pointer (some ⟨p, 0, none⟩), .int .i64 n] w fun e w' => ∃ vp vt, e = .returned (.tuple #[CmV.val ⟨cs[k], vp, vt⟩, .bool true]) ∧ Own w' w.heap.size ⟨cs[k], vp, vt⟩ ∧ Below w.heap.size w w' := by
  obtain ⟨ao, cap, l, h, rfl⟩ := h
  have hk' : k < l.length := by rw [cms_length] at hk; exact hk
  have e : (cms l)[k] = l[k].c := by simp [cms]
  rw [e]
  exact repo_Get h n k hk' hn
theorem RepoIs.get_no {cs : List Cm} (h : RepoIs base w p cs room) (n : Int) (hn : n < 1 ∨ n > cs.length) (hr : -9223372036854775808 ≤ n ∧ n ≤ 9223372036854775807) :
    Calls Tryd.prog 25 #[.pointer (some ⟨p, 0, none⟩), .int .i64 n] w fun e w' => e = .returned (.tuple #[CmV.val cv0, .bool false]) ∧ Below w.heap.size w w' := by
  obtain ⟨ao, cap, l, h, rfl⟩ := h
  exact repo_Get_no h n (by rw [cms_length] at hn; exact hn) hr
end Go.Proofs.YtnnkbicaokckbaaDoor
