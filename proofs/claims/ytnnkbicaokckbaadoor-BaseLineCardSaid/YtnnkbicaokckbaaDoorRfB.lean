/- The document's repo: Add. Conditions: none. -/
import Derived.Test.YtnnkbicaokckbaaDoorRfA
import Derived.Test.YtnnkbicaokckbaaDoorRpC
namespace Go.Proofs.YtnnkbicaokckbaaDoor
open Go.RowKit Go.Shelf

variable {base : Nat} {w : World} {p : Nat} {ao : Option Addr} {cap : Nat} {l : List CmV} {room : Int}
/-- What an adding leaves. -/
structure RefAdded (base : Nat) (w : World) (p : Nat) (ao : Option Addr) (l : List CmV) (room : Int) (y : CmV) (w' : World) : Prop where
  ex : ∃ ao' cap' l', RefAt base w' p ao' cap' l' room ∧ cms l' = addL (cms l) room y.c ∧ (∀ k, NB p ao' l' k → NB p ao l k ∨ w.heap.size ≤ k ∨ YB y k)
  chg : Chg (fun k => k = p) w w'
theorem RefAdded.no {y : CmV} {w' : World} (h : RefAt base w p ao cap l room) (hl : addL (cms l) room y.c = cms l) (hb : Below w.heap.size w w') : RefAdded base w p ao l room y w' :=
  ⟨⟨ao, cap, l, h.same (Chg.of_below0 hb), hl.symm, fun _ h => .inl h⟩, Chg.of_below0 hb⟩
theorem badP_has (m : Nat) (n : Int) : badP m n = !hasN m n := by
  unfold badP hasN
  by_cases h1 : 1 ≤ n <;> by_cases h2 : n ≤ (m : Int) <;> simp [h1, h2] <;> omega

theorem cv_flat_one {w : World} {l : List CmV} (h : ∀ x ∈ l, CmAt w x) : ∀ u ∈ flat cv_enc l, u.oneCell' = true := by
  intro u hu
  obtain ⟨x, hx, hu⟩ := List.mem_flatMap.1 hu
  exact (h x hx).one u hu
/-- One more commit behind the others: what comes of it. -/
theorem RefAt.push {w0 W9 : World} {y : CmV} {ao9 : Option Addr} {cap9 : Nat} (h : RefAt base w0 p ao cap l room) (c9 : Chg (fun _ => False) w0 W9) (hy : CmAt w0 y) (fy : Few y.c) (hoff : ¬ YB y p) (hl : l.length < 1000)
    (hown9 : W9.ownsRow w0.heap.size 33 3 (.slice ao9 (l.length + 1) cap9) (l.length + 1) (flat cv_enc l ++ cv_enc y)) :
    RefAt base (W9.setCell ⟨p, 0, none⟩ (.slice ao9 (l.length + 1) cap9)) p ao9 cap9 (l ++ [y]) room ∧ (∀ k, NB p ao9 (l ++ [y]) k → NB p ao l k ∨ w0.heap.size ≤ k ∨ YB y k) ∧ Chg (fun k => k = p) w0 (W9.setCell ⟨p, 0, none⟩ (.slice ao9 (l.length + 1) cap9)) := by
  have hc10 := Chg.setCell W9 ⟨p, 0, none⟩ (.slice ao9 (l.length + 1) cap9)
  have hx10 := heap_setCell_same (h.same c9).box (i := 0) (.slice ao9 (l.length + 1) cap9)
  have hc : Chg (fun k => k = p) w0 (W9.setCell ⟨p, 0, none⟩ (.slice ao9 (l.length + 1) cap9)) := c9.trans hc10 (fun _ _ h => h.elim) (fun _ _ h => h)
  have hpl := h.plt
  have hpb := h.pb
  refine ⟨⟨?_, ?_, ?_, hpb, by simp; omega, h.room0, ?_⟩, ?_, hc⟩
  · rw [List.length_append]; simpa using hx10
  · rw [List.length_append, flat_append]
    refine ownsRow_base (hc10.owns (by simpa [flat] using hown9) (fun b hb e => by have := (ownsRow_lt hown9 b hb).1; have e' : b = p := e; omega)) (fun b hb => ?_)
    have := (ownsRow_lt hown9 b hb).1; omega
  · intro x hx
    rcases List.mem_append.1 hx with hx | hx
    · exact ⟨(h.cms x hx).1.chg hc (fun b hb hn e => h.off x hx (.inl ⟨by rw [← show b = p from e]; exact hb, hn⟩)) (fun b hb hn e => h.off x hx (.inr ⟨by rw [← show b = p from e]; exact hb, hn⟩)), (h.cms x hx).2⟩
    · rw [List.mem_singleton.1 hx]
      exact ⟨hy.chg hc (fun b hb hn e => hoff (.inl ⟨by rw [← show b = p from e]; exact hb, hn⟩)) (fun b hb hn e => hoff (.inr ⟨by rw [← show b = p from e]; exact hb, hn⟩)), fy⟩
  · intro x hx
    rcases List.mem_append.1 hx with hx | hx
    · exact h.off x hx
    · rw [List.mem_singleton.1 hx]; exact hoff
  · intro k hk
    rcases hk with (hk | hk) | ⟨x, hx, hk⟩
    · exact .inl (.inl (.inl hk))
    · exact .inr (.inl (ownsRow_lt hown9 k (by rw [own_slice]; exact hk)).1)
    · rcases List.mem_append.1 hx with hx | hx
      · exact .inl (.inr ⟨x, hx, hk⟩)
      · rw [List.mem_singleton.1 hx] at hk
        exact .inr (.inr hk)
section
variable {P : Program} {ops : Array Oper} {Q : Exit → Act → World → Prop}
/-- append onto none. -/
theorem op_append0 {i : Nat} {dst : Option Tmp} {ty : TypeId} {pos : String} {after : Array Edge} {guard : Option (Nat × Bool)} {K : Act → World → Prop} {a : Act} {w : World} {s x : Operand} {t : TypeId}
    (hi : ops[i]? = some ⟨dst, .call { callee := .builtin .append, args := #[s, x], argTypes := #[t, t] }, ty, pos, after, guard⟩)
    (hw : Region.wanted ⟨dst, .call { callee := .builtin .append, args := #[s, x], argTypes := #[t, t] }, ty, pos, after, guard⟩ (yielded ops a.tmps) = true)
    {e : TypeId} {z : Value} {size bytes : Nat} (hT : SlT P t e z size bytes)
    {vx : Value} {m : Nat} {news : List Value} (hrd : Rd w vx m news) (hs : a.eval s = .slice none 0 0) (hx : a.eval x = vx) (hl : news.length = m * size) (h1 : ∀ u ∈ news, u.oneCell' = true)
    (h63 : m ≤ maxLen) (hbytes : m * bytes ≤ 140737488355328)
    (h : ∀ ao cap w', w'.ownsRow w.heap.size e size (.slice ao m cap) m news → Chg (fun _ => False) w w' → K (a.put dst (.slice ao m cap)) w') : wpOp P ops Q i K a w := by
  refine op_append hi hw hT w.heap.size (World.ownsRow_nil _ _ _ _) hrd hs hx hl h1 (by omega) (by rw [Nat.zero_add]; exact hbytes) (Nat.le_refl _) ?_
  intro ao cap w' g1 g2 g3
  simp only [Nat.zero_add, List.nil_append] at g1 ⊢
  exact h ao cap w' g1 (g2.mono (fun k _ hk => by cases hk))
end

set_option maxRecDepth 100000 in
set_option maxHeartbeats 4000000 in
theorem ref10_Add (h : RefAt base w p ao cap l room) (y : CmV) (hy : CmAt w y) (fy : Few y.c) (hsz : ∀ f ∈ y.c.tree, f.path.size ≤ 100000) (hl : l.length < 1000) (hoff : ¬ YB y p) :
    Calls Tryd.prog 27 #[.pointer (some ⟨p, 0, none⟩), y.val] w fun e w' => e = .returned (.tuple #[.int .i64 (addR (cms l) room y.c).1, .int .i64 (addR (cms l) room y.c).2]) ∧ RefAdded base w p ao l room y w' := by
  have hB1 := (Below.refl w.heap.size w).alloc (Nat.le_refl _) (.cells #[y.vp, y.vt, .string y.c.note] 33)
  have hk1 := heap_alloc_new w (.cells #[y.vp, y.vt, .string y.c.note] 33)
  generalize hw1 : w.alloc (.cells #[y.vp, y.vt, .string y.c.note] 33) = w1 at hB1 hk1
  have HW1 := hide hw1
  have hc1 := Chg.of_below0 (S := fun _ => False) hB1
  have h1 := h.same hc1
  have y0 : w1.cell? ⟨w.heap.size, 0, none⟩ = some y.vp := cell_of_heap hk1 0
  have y1 : w1.cell? ⟨w.heap.size, 1, none⟩ = some y.vt := cell_of_heap hk1 1
  have y2 : w1.cell? ⟨w.heap.size, 2, none⟩ = some (.string y.c.note) := cell_of_heap hk1 2
  have HY1 := hide (hy.same hc1)
  have HM := hide (ref10_May w1 y HY1.out fy hsz)
  have HB1 := hide hB1
  have HC1 := hide hc1
  have H1 := hide h1
  have HH := hide h
  have HY := hide hy
  have HY0 := hide y0
  have HY1' := hide y1
  have HY2' := hide y2
  have HLL := hide hl
  have FY := hide fy
  have HSZ := hide hsz
  have hps : Rd w1 y.vp y.c.parents.length (flat int_enc y.c.parents) := HY1.out.ps
  have hfew : y.c.parents.length ≤ 1000000 := fy.1
  clear h hy fy hw1 hc1 h1 hB1 hk1 hl hsz
  obtain ⟨yc, yp, yt⟩ := y
  simp only at y0 y1 y2 hps hfew
  obtain ⟨vpo, vpc, rfl, -, hcs0⟩ := hps.shape
  have HPS := hide hcs0
  have hts : Rd w1 yt yc.tree.length (flat fl_enc yc.tree) := HY1.out.ts
  obtain ⟨vto, vtc, rfl, -, -⟩ := hts.shape
  have HOFF := hide hoff
  clear hps hcs0 hts hoff
  cases hmay : mayC yc with
  | false =>
    have HR : Hid (addR (cms l) room yc = (0, 6)) := hide (by simp [addR, hmay])
    have HL : Hid (addL (cms l) room yc = cms l) := hide (by simp [addL, hmay])
    have HM' : Hid (Calls Tryd.prog 30 #[.agg #[.slice vpo yc.parents.length vpc, .slice vto yc.tree.length vtc, .string yc.note]] w1 fun e w' => e = .returned (.bool false) ∧ Below w1.heap.size w1 w') := hide (by have := HM.out; simp only [hmay] at this; exact this)
    clear hmay HM
    unfold CmV.val
    go_enter Tryd.func27, Tryd.ntmps27
    go_wp2_with (rw [HW1.out])
    refine HM'.out.mono ?_
    rintro e w3 ⟨rfl, hb3⟩
    have HB3 := hide (HB1.out.trans (hb3.mono HB1.out.size))
    clear hb3
    go_wp2_with fail
    go_ret2
    exact ⟨ret_pair HR.out, RefAdded.no HH.out HL.out HB3.out⟩
  | true =>
    have HM' : Hid (Calls Tryd.prog 30 #[.agg #[.slice vpo yc.parents.length vpc, .slice vto yc.tree.length vtc, .string yc.note]] w1 fun e w' => e = .returned (.bool true) ∧ Below w1.heap.size w1 w') := hide (by have := HM.out; simp only [hmay] at this; exact this)
    have HA0 : Hid (addR (cms l) room yc = if yc.parents.any (badP l.length) then (0, 7) else if hasC (cms l) yc then (idxF (fun x => cmEq x yc) (cms l) + 1, 0) else if room ≤ (l.length : Int) then (0, 3) else ((l.length : Int) + 1, 0)) := hide (by simp [addR, hmay, cms_length])
    have HL0 : Hid (addL (cms l) room yc = if yc.parents.any (badP l.length) then cms l else if hasC (cms l) yc then cms l else if room ≤ (l.length : Int) then cms l else cms l ++ [yc]) := hide (by simp [addL, hmay, cms_length])
    clear hmay HM
    have hll := HLL.out
    unfold CmV.val
    go_enter Tryd.func27, Tryd.ntmps27
    go_wp2_with (rw [HW1.out])
    refine HM'.out.mono ?_
    rintro e w3 ⟨rfl, hb3⟩
    have HB3 := hide (HB1.out.trans (hb3.mono HB1.out.size))
    have HC3 := hide (Chg.of_below0 (S := fun _ => False) hb3)
    clear hb3 y0 y1 y2
    go_wp2_with fail
    go_loopw [6] (fun i wr => ∃ k : Nat, k ≤ yc.parents.length ∧ i = .int .i64 k ∧ Hid (∀ x ∈ yc.parents.take k, badP l.length x = false) ∧ Hid (Chg (fun _ => False) w1 wr)) (fun i _ => yc.parents.length - (intOf i).toNat)
    case atStart => exact ⟨0, Nat.zero_le _, rfl, (fun x h => by simp at h), HC3.out⟩
    case round =>
      obtain ⟨k, hk, rfl, HN, HC⟩ := hrel
      obtain ⟨wo, rfl⟩ : ∃ wo : World, wo = wr := ⟨_, rfl⟩
      have y3 := HC.out.cell HY0.out (fun h => h)
      have y4 := HC.out.cell HY1'.out (fun h => h)
      have y5 := HC.out.cell HY2'.out (fun h => h)

      by_cases hkl : k < yc.parents.length
      · obtain ⟨b, off, rfl, hcs⟩ := HPS.out (by omega)
        have hx : wo.cell? ⟨b, off + k, none⟩ = some (.int .i64 yc.parents[k]) := (hcs.chg HC.out (fun _ h => h)) k (.int .i64 yc.parents[k]) (by rw [flat_int, List.getElem?_map, List.getElem?_eq_getElem hkl]; rfl)
        have htk : yc.parents.take (k + 1) = yc.parents.take k ++ [yc.parents[k]] := (List.take_append_getElem hkl).symm
        have HTK := hide htk
        have HHAS := hide (ref10_Has (H1.out.same HC.out) yc.parents[k])
        have hbp := badP_has l.length yc.parents[k]
        have HMEM := hide (List.getElem_mem hkl)
        clear hcs htk
        generalize yc.parents[k] = x at *
        cases hq : hasN l.length x with
        | false =>
          have hbad : yc.parents.any (badP l.length) = true := List.any_eq_true.2 ⟨x, HMEM.out, by rw [hbp, hq]; rfl⟩
          have HR : Hid (addR (cms l) room yc = (0, 7)) := hide (by rw [HA0.out, hbad]; rfl)
          have HL : Hid (addL (cms l) room yc = cms l) := hide (by rw [HL0.out, hbad]; rfl)
          rw [hq] at HHAS
          clear hq hbp hbad
          go_wp2_with fail
          refine HHAS.out.mono ?_
          rintro e w4 ⟨rfl, rfl⟩
          go_wp2_with fail
          go_ret2
          exact ⟨ret_pair HR.out, RefAdded.no HH.out HL.out (HB1.out.trans (HC.out.below HB1.out.size (fun _ _ h => h)))⟩
        | true =>
          have HBP := hide (show badP l.length x = false by rw [hbp, hq]; rfl)
          rw [hq] at HHAS
          clear hq hbp
          go_wp2_with fail
          refine HHAS.out.mono ?_
          rintro e w4 ⟨rfl, rfl⟩
          go_wp2_with fail
          go_roundw
          case rel =>
            refine ⟨k + 1, by omega, by go_num, fun z hz => ?_, HC.out⟩
            rw [HTK.out] at hz
            rcases List.mem_append.1 hz with h | h
            · exact HN.out z h
            · rw [List.mem_singleton.1 h]; exact HBP.out
          case measure => simp [intOf]; omega
      · obtain rfl : k = yc.parents.length := by omega
        have hn := HN.out
        rw [List.take_length] at hn
        have hbad : yc.parents.any (badP l.length) = false := List.any_eq_false.2 fun x hx => by rw [hn x hx]; simp
        have hA : addR (cms l) room yc = if hasC (cms l) yc then (idxF (fun x => cmEq x yc) (cms l) + 1, 0) else if room ≤ (l.length : Int) then (0, 3) else ((l.length : Int) + 1, 0) := by rw [HA0.out, hbad]; rfl
        have hL : addL (cms l) room yc = if hasC (cms l) yc then cms l else if room ≤ (l.length : Int) then cms l else cms l ++ [yc] := by rw [HL0.out, hbad]; rfl
        have HF := hide (ref10_Find (H1.out.same HC.out) ⟨yc, .slice vpo yc.parents.length vpc, .slice vto yc.tree.length vtc⟩ (HY1.out.same HC.out) FY.out)
        have hge := idxF_ge (fun x : CmV => cmEq x.c yc) l
        have hlt := idxF_lt (fun x : CmV => cmEq x.c yc) l
        rw [cms_has] at hge
        rw [cms_idx] at hge hlt
        have HF2 : Hid (Calls Tryd.prog 31 #[.pointer (some ⟨p, 0, none⟩), .agg #[.slice vpo yc.parents.length vpc, .slice vto yc.tree.length vtc, .string yc.note]] wo fun e w' => e = .returned (.int .i64 (idxF (fun x => cmEq x yc) (cms l) + 1)) ∧ Below wo.heap.size wo w') := hide (by have := HF.out; simp only [cms_idx] at this; exact this)
        obtain ⟨i, hi⟩ : ∃ i, i = idxF (fun x => cmEq x yc) (cms l) := ⟨_, rfl⟩
        rw [← hi] at hA hge hlt HF2
        clear hbad hi hn HN HF HA0 HL0
        cases hhas : hasC (cms l) yc with
        | true =>
          rw [hhas] at hge hA hL
          have d1 : decide (i + 1 > 0) = true := decide_eq_true (by have := of_decide_eq_true hge; omega)
          have hbi : -1 ≤ i ∧ i ≤ 1000 := by have := HLL.out; omega
          have HR : Hid (addR (cms l) room yc = (i + 1, 0)) := hide hA
          have HL : Hid (addL (cms l) room yc = cms l) := hide hL
          clear hA hL hge hlt hhas
          go_wp2_with fail
          refine HF2.out.mono ?_
          rintro e w5 ⟨rfl, hb5⟩
          have HB5 := hide ((HB1.out.trans (HC.out.below HB1.out.size (fun _ _ h => h))).trans (hb5.mono (by have := HB1.out.size; have := HC.out.size; omega)))
          clear hb5 y3 y4 y5
          go_wp2_with fail
          go_ret2
          exact ⟨ret_pair HR.out, RefAdded.no HH.out HL.out HB5.out⟩
        | false =>
          rw [hhas] at hge hA hL
          have hin : i = -1 := by have := of_decide_eq_false hge; omega
          subst hin
          clear hge hlt hhas
          go_wp2_with fail
          refine HF2.out.mono ?_
          rintro e w5 ⟨rfl, hb5⟩
          have HC5 := hide (HC.out.trans (Chg.of_below0 (S := fun _ => False) hb5) (S'' := fun _ => False) (fun _ _ h => h) (fun _ _ h => h))
          have hm1 : ((-1 : Int) + 1) = 0 := by decide
          rw [hm1]
          clear hb5 y3 y4 y5 hm1
          have H5 := hide (H1.out.same HC5.out)
          have z0 := H5.out.c0
          have z1 := H5.out.c1
          have hrr := HH.out.room0
          by_cases hfull : room ≤ l.length
          · have d1 : decide ((l.length : Int) ≥ room) = true := decide_eq_true hfull
            have HR : Hid (addR (cms l) room yc = (0, 3)) := hide (by rw [hA]; simp [hfull])
            have HL : Hid (addL (cms l) room yc = cms l) := hide (by rw [hL]; simp [hfull])
            clear hA hL hfull
            go_wp2_with fail
            go_quiet (fail)
            go_wp2_with fail
            go_ret2
            exact ⟨ret_pair HR.out, RefAdded.no HH.out HL.out (by simpa using bdrewN (HB1.out.trans (HC5.out.below HB1.out.size (fun _ _ h => h))) _)⟩
          · have d1 : decide ((l.length : Int) ≥ room) = false := decide_eq_false (by omega)
            have HR : Hid (addR (cms l) room yc = ((l.length : Int) + 1, 0)) := hide (by rw [hA]; simp [hfull])
            have HL : Hid (addL (cms l) room yc = cms l ++ [yc]) := hide (by rw [hL]; simp [hfull])
            clear hA hL hfull
            go_wp2_with fail
            go_quiet (fail)
            go_wp2_with fail
            have hc6 := HC5.out.trans (Chg.drewN (fun _ => False) w5 nq) (S'' := fun _ => False) (fun _ _ h => h) (fun _ _ h => h)
            clear z0 z1
            generalize w5.drewN nq = w6 at hc6 ⊢
            have HC6 := hide hc6
            have H6 := hide (H1.out.same hc6)
            have z0 := H6.out.c0
            have y6 : w6.cell? ⟨w.heap.size, 0, none⟩ = some (.slice vpo yc.parents.length vpc) := hc6.cell HY0.out (fun h => h)
            have y7 : w6.cell? ⟨w.heap.size, 1, none⟩ = some (.slice vto yc.tree.length vtc) := hc6.cell HY1'.out (fun h => h)
            have y8 : w6.cell? ⟨w.heap.size, 2, none⟩ = some (.string yc.note) := hc6.cell HY2'.out (fun h => h)
            clear hc6
            refine reg_start (Chg (fun _ => False) w6) 12 11 (by rfl) (by kernel_rfl) (Chg.drew _ _) ?_
            intro hS0
            have hSc := hS0
            refine reg_take (i := 0) (v := ?g2v) rfl (by kernel_rfl) (by kernel_rfl) (by kernel_rfl) (by kernel_rfl) (fun _ _ _ h => h) (by rfl) ?g2y (by assumption) ?g2r
            case g2y => (intro W hS; first | (go_simp; done) | (go_simp; with_reducible rfl))
            simp only [Act.put, List.setIfInBounds_toArray, List.set_cons_zero, List.set_cons_succ]
            refine reg_take (i := 1) (v := ?g3v) rfl (by kernel_rfl) (by kernel_rfl) (by kernel_rfl) (by kernel_rfl) (fun _ _ _ h => h) (by rfl) ?g3y (by assumption) ?g3r
            case g3y => (intro W hS; first | (go_simp; done) | (go_simp; with_reducible rfl))
            simp only [Act.put, List.setIfInBounds_toArray, List.set_cons_zero, List.set_cons_succ]
            refine reg_take (i := 2) (v := ?g4v) rfl (by kernel_rfl) (by kernel_rfl) (by kernel_rfl) (by kernel_rfl) (fun _ _ _ h => h) (by rfl) ?g4y (by assumption) ?g4r
            case g4y => (intro W hS; first | (go_simp; done) | (go_simp; with_reducible rfl))
            simp only [Act.put, List.setIfInBounds_toArray, List.set_cons_zero, List.set_cons_succ]
            refine reg_take (i := 3) (v := ?g5v) rfl (by kernel_rfl) (by kernel_rfl) (by kernel_rfl) (by kernel_rfl) (fun _ _ _ h => h) (by rfl) ?g5y (by assumption) ?g5r
            case g5y => (intro W hS; first | (go_simp; done) | (go_simp; with_reducible rfl))
            simp only [Act.put, List.setIfInBounds_toArray, List.set_cons_zero, List.set_cons_succ]
            refine reg_take (i := 4) (v := ?g6v) rfl (by kernel_rfl) (by kernel_rfl) (by kernel_rfl) (by kernel_rfl) (fun _ _ _ h => h) (by rfl) ?g6y (by assumption) ?g6r
            case g6y => (intro W hS; have f0 := hS.cell z0 (fun h => h); have f3 := hS.cell y6 (fun h => h); have f4 := hS.cell y7 (fun h => h); have f5 := hS.cell y8 (fun h => h); first | (go_simp; done) | (go_simp; with_reducible rfl))
            simp only [Act.put, List.setIfInBounds_toArray, List.set_cons_zero, List.set_cons_succ]
            refine reg_take (i := 6) (v := ?g7v) rfl (by kernel_rfl) (by kernel_rfl) (by kernel_rfl) (by kernel_rfl) (fun _ _ _ h => h) (by rfl) ?g7y (by assumption) ?g7r
            case g7y => (intro W hS; have f0 := hS.cell z0 (fun h => h); have f3 := hS.cell y6 (fun h => h); have f4 := hS.cell y7 (fun h => h); have f5 := hS.cell y8 (fun h => h); first | (go_simp; done) | (go_simp; with_reducible rfl))
            simp only [Act.put, List.setIfInBounds_toArray, List.set_cons_zero, List.set_cons_succ]
            refine reg_two (i := 5) (j := 7) (by kernel_rfl) ?_ ?_
            · refine op_append0 (i := 5) rfl (by rfl) cv_slT (H6.out.same hSc).rd rfl rfl (flat_length cv_len _) (cv_flat_one (fun x hx => ((H6.out.same hSc).cms x hx).1)) (by unfold maxLen; omega) (by omega) ?_
              intro ao7 cap7 W7 hown7 hg7
              have HO7 := hide (ownsRow_base hown7 (fun k hk => Nat.le_trans hSc.size (ownsRow_lt hown7 k hk).1))
              have hSc := hSc.trans hg7 (S'' := fun _ => False) (fun _ _ h => h) (fun _ _ h => h)
              clear hown7 hg7
              refine ⟨hSc, ?_⟩
              simp only [Act.put, List.setIfInBounds_toArray, List.set_cons_zero, List.set_cons_succ]
              refine reg_one (i := 7) (by kernel_rfl) ?_
              refine op_val (i := 7) (v := .slice (some ⟨W7.heap.size, 0, none⟩) 1 1) (w' := W7.alloc (.cells #[.slice vpo yc.parents.length vpc, .slice vto yc.tree.length vtc, .string yc.note] 33)) rfl (by rfl) (by go_simp) ?_
              have hrl := Rd_lit W7 #[.slice vpo yc.parents.length vpc, .slice vto yc.tree.length vtc, .string yc.note] 33 1
              have hal := Chg.alloc (fun _ => False) W7 (.cells #[.slice vpo yc.parents.length vpc, .slice vto yc.tree.length vtc, .string yc.note] 33)
              generalize W7.alloc (.cells #[.slice vpo yc.parents.length vpc, .slice vto yc.tree.length vtc, .string yc.note] 33) = W8 at hrl hal ⊢
              have HO8 := hide (hal.owns HO7.out (fun _ _ h => h))
              have hSc := hSc.trans hal (S'' := fun _ => False) (fun _ _ h => h) (fun _ _ h => h)
              have HRL := hide hrl
              clear hrl hal
              refine ⟨hSc, ?_⟩
              simp only [Act.put, List.setIfInBounds_toArray, List.set_cons_zero, List.set_cons_succ]
              refine reg_one (i := 8) (by kernel_rfl) ?_
              refine op_append (i := 8) rfl (by rfl) cv_slT w6.heap.size HO8.out HRL.out rfl rfl rfl ((HY.out.same (HC1.out.trans (HC6.out.trans hSc (S'' := fun _ => False) (fun _ _ h => h) (fun _ _ h => h)) (S'' := fun _ => False) (fun _ _ h => h) (fun _ _ h => h))).one) (by unfold maxLen; omega) (by omega) hSc.size ?_
              intro ao9 cap9 W9 hown9 hg9 hat9
              have hS9 := hSc.trans hg9 (S'' := fun _ => False) (fun _ _ h => h) (fun k hk h => by have := (ownsRow_lt HO8.out k h).1; omega)
              have hbox9 := (H6.out.same hS9).box
              have f9 : W9.cell? ⟨p, 0, none⟩ = some (.slice ao l.length cap) := cell_of_heap hbox9 0
              have e9 := free_of_heap hbox9 0
              have HS9 := hide hS9
              have HO9 := hide hown9
              clear hown9 hg9 hat9 hbox9
              refine ⟨hS9, ?_⟩
              simp only [Act.put, List.setIfInBounds_toArray, List.set_cons_zero, List.set_cons_succ]
              refine reg_one (i := 9) (by kernel_rfl) ?_
              refine op_val (i := 9) (v := .pointer (some ⟨p, 0, none⟩)) (w' := W9) rfl (by rfl) (by go_simp) ?_
              refine ⟨HS9.out, ?_⟩
              simp only [Act.put, List.setIfInBounds_toArray, List.set_cons_zero, List.set_cons_succ]
              refine reg_take (i := 10) (v := ?g8v) rfl (by kernel_rfl) (by kernel_rfl) (by kernel_rfl) (by kernel_rfl) (fun _ _ _ h => h) (by rfl) ?g8y (by assumption) ?g8r
              case g8y => (intro W hS; first | (go_simp; done) | (go_simp; with_reducible rfl))
              simp only [Act.put, List.setIfInBounds_toArray, List.set_cons_zero, List.set_cons_succ]
              refine reg_late (i := 11) (by kernel_rfl) (by decide) ?_
              refine op_store (i := 11) rfl (by rfl) (w' := W9.setCell ⟨p, 0, none⟩ (.slice ao9 (l.length + 1) cap9)) (by go_simp) ?_
              simp only [Act.put]
              refine wpAnyG_done (by kernel_rfl) ?_ _
              have hpush := HH.out.push (HC1.out.trans (HC6.out.trans HS9.out (S'' := fun _ => False) (fun _ _ h => h) (fun _ _ h => h)) (S'' := fun _ => False) (fun _ _ h => h) (fun _ _ h => h)) HY.out FY.out HOFF.out HLL.out (ownsRow_base HO9.out (fun k hk => Nat.le_trans (Nat.le_trans HC1.out.size HC6.out.size) (ownsRow_lt HO9.out k hk).1))
              have HPU := hide hpush
              have hl1 := HLL.out
              clear hS0 hSc hS9 hpush f9 e9 z0 y6 y7 y8
              generalize W9.setCell ⟨p, 0, none⟩ (.slice ao9 (l.length + 1) cap9) = W10 at HPU ⊢
              have q0 := HPU.out.1.c0
              simp only [List.length_append, List.length_cons, List.length_nil, Nat.zero_add] at q0
              go_wp2_with fail
              go_ret2
              exact ⟨ret_pair HR.out, ⟨_, _, _, HPU.out.1, by rw [HL.out]; simp [cms], HPU.out.2.1⟩, HPU.out.2.2⟩
            · refine op_val (i := 7) (v := .slice (some ⟨w6.drew.heap.size, 0, none⟩) 1 1) (w' := w6.drew.alloc (.cells #[.slice vpo yc.parents.length vpc, .slice vto yc.tree.length vtc, .string yc.note] 33)) rfl (by rfl) (by go_simp) ?_
              have hrl := Rd_lit w6.drew #[.slice vpo yc.parents.length vpc, .slice vto yc.tree.length vtc, .string yc.note] 33 1
              have hal := Chg.alloc (fun _ => False) w6.drew (.cells #[.slice vpo yc.parents.length vpc, .slice vto yc.tree.length vtc, .string yc.note] 33)
              generalize w6.drew.alloc (.cells #[.slice vpo yc.parents.length vpc, .slice vto yc.tree.length vtc, .string yc.note] 33) = W7 at hrl hal ⊢
              generalize w6.drew.heap.size = bl at hrl ⊢
              have hSc := hSc.trans hal (S'' := fun _ => False) (fun _ _ h => h) (fun _ _ h => h)
              have HRL := hide hrl
              clear hrl hal
              refine ⟨hSc, ?_⟩
              simp only [Act.put, List.setIfInBounds_toArray, List.set_cons_zero, List.set_cons_succ]
              refine reg_one (i := 5) (by kernel_rfl) ?_
              refine op_append0 (i := 5) rfl (by rfl) cv_slT (H6.out.same hSc).rd rfl rfl (flat_length cv_len _) (cv_flat_one (fun x hx => ((H6.out.same hSc).cms x hx).1)) (by unfold maxLen; omega) (by omega) ?_
              intro ao7 cap7 W8 hown7 hg7
              have HO8 := hide (ownsRow_base hown7 (fun k hk => Nat.le_trans hSc.size (ownsRow_lt hown7 k hk).1))
              have hSc := hSc.trans hg7 (S'' := fun _ => False) (fun _ _ h => h) (fun _ _ h => h)
              have HRL := hide (HRL.out.chg hg7 (fun _ _ _ h => h))
              clear hown7 hg7
              refine ⟨hSc, ?_⟩
              simp only [Act.put, List.setIfInBounds_toArray, List.set_cons_zero, List.set_cons_succ]
              refine reg_one (i := 8) (by kernel_rfl) ?_
              refine op_append (i := 8) rfl (by rfl) cv_slT w6.heap.size HO8.out HRL.out rfl rfl rfl ((HY.out.same (HC1.out.trans (HC6.out.trans hSc (S'' := fun _ => False) (fun _ _ h => h) (fun _ _ h => h)) (S'' := fun _ => False) (fun _ _ h => h) (fun _ _ h => h))).one) (by unfold maxLen; omega) (by omega) hSc.size ?_
              intro ao9 cap9 W9 hown9 hg9 hat9
              have hS9 := hSc.trans hg9 (S'' := fun _ => False) (fun _ _ h => h) (fun k hk h => by have := (ownsRow_lt HO8.out k h).1; omega)
              have hbox9 := (H6.out.same hS9).box
              have f9 : W9.cell? ⟨p, 0, none⟩ = some (.slice ao l.length cap) := cell_of_heap hbox9 0
              have e9 := free_of_heap hbox9 0
              have HS9 := hide hS9
              have HO9 := hide hown9
              clear hown9 hg9 hat9 hbox9
              refine ⟨hS9, ?_⟩
              simp only [Act.put, List.setIfInBounds_toArray, List.set_cons_zero, List.set_cons_succ]
              refine reg_one (i := 9) (by kernel_rfl) ?_
              refine op_val (i := 9) (v := .pointer (some ⟨p, 0, none⟩)) (w' := W9) rfl (by rfl) (by go_simp) ?_
              refine ⟨HS9.out, ?_⟩
              simp only [Act.put, List.setIfInBounds_toArray, List.set_cons_zero, List.set_cons_succ]
              refine reg_take (i := 10) (v := ?g9v) rfl (by kernel_rfl) (by kernel_rfl) (by kernel_rfl) (by kernel_rfl) (fun _ _ _ h => h) (by rfl) ?g9y (by assumption) ?g9r
              case g9y => (intro W hS; first | (go_simp; done) | (go_simp; with_reducible rfl))
              simp only [Act.put, List.setIfInBounds_toArray, List.set_cons_zero, List.set_cons_succ]
              refine reg_late (i := 11) (by kernel_rfl) (by decide) ?_
              refine op_store (i := 11) rfl (by rfl) (w' := W9.setCell ⟨p, 0, none⟩ (.slice ao9 (l.length + 1) cap9)) (by go_simp) ?_
              simp only [Act.put]
              refine wpAnyG_done (by kernel_rfl) ?_ _
              have hpush := HH.out.push (HC1.out.trans (HC6.out.trans HS9.out (S'' := fun _ => False) (fun _ _ h => h) (fun _ _ h => h)) (S'' := fun _ => False) (fun _ _ h => h) (fun _ _ h => h)) HY.out FY.out HOFF.out HLL.out (ownsRow_base HO9.out (fun k hk => Nat.le_trans (Nat.le_trans HC1.out.size HC6.out.size) (ownsRow_lt HO9.out k hk).1))
              have HPU := hide hpush
              have hl1 := HLL.out
              clear hS0 hSc hS9 hpush f9 e9 z0 y6 y7 y8
              generalize W9.setCell ⟨p, 0, none⟩ (.slice ao9 (l.length + 1) cap9) = W10 at HPU ⊢
              have q0 := HPU.out.1.c0
              simp only [List.length_append, List.length_cons, List.length_nil, Nat.zero_add] at q0
              go_wp2_with fail
              go_ret2
              exact ⟨ret_pair HR.out, ⟨_, _, _, HPU.out.1, by rw [HL.out]; simp [cms], HPU.out.2.1⟩, HPU.out.2.2⟩
end Go.Proofs.YtnnkbicaokckbaaDoor
