/- The document's common beginnings: Common, Best. Conditions: parents are lesser numbers. -/
import Derived.Test.YtnnkbicaokckbaaDoorRfG
import Derived.Test.YtnnkbicaokckbaaDoorBsL
namespace Go.Proofs.YtnnkbicaokckbaaDoor
open Go.RowKit Go.Shelf

variable {base : Nat} {w : World} {p : Nat} {ao : Option Addr} {cap : Nat} {l : List CmV} {room : Int}
set_option maxRecDepth 100000 in
set_option maxHeartbeats 4000000 in
theorem ref12_Common (h : RefAt base w p ao cap l room) (hd : DagOk (cms l)) (a b : Int) :
    Calls Tryd.prog 52 #[.pointer (some ⟨p, 0, none⟩), .int .i64 a, .int .i64 b] w fun e w' => ∃ a' c, e = .returned (.slice a' (commonN (cms l) a b).length c) ∧ w'.ownsRow w.heap.size 3 1 (.slice a' (commonN (cms l) a b).length c) (commonN (cms l) a b).length ((commonN (cms l) a b).map (Value.int .i64)) ∧ Below w.heap.size w w' := by
  have HA := hide (ref11_Ahead h hd a)
  have HA2 := hide (fun Wx (hc : Chg (fun _ => False) w Wx) => ref11_Ahead (h.same hc) hd b)
  have hXl := aheadN_length (cms l) a
  have hYl := aheadN_length (cms l) b
  have hCl := common_len (cms l) a b
  have hl60 := hd.len
  have hXf := ahead_falls (cms l) a
  have hYf := ahead_falls (cms l) b
  obtain ⟨X, hX⟩ : ∃ X, X = aheadN (cms l) a := ⟨_, rfl⟩
  obtain ⟨Y, hY⟩ : ∃ Y, Y = aheadN (cms l) b := ⟨_, rfl⟩
  obtain ⟨C, hC⟩ : ∃ C, C = commonN (cms l) a b := ⟨_, rfl⟩
  have HCE : Hid (C = restL X Y) := hide (by rw [hC, hX, hY]; rfl)
  rw [← hC] at hCl ⊢
  rw [← hX] at HA hXl hXf
  rw [← hY] at HA2 hYl hYf
  have HXF := hide hXf
  have HYF := hide hYf
  clear h hd hX hY hC hXf hYf
  have hwx : IntKind.i64.wrap ((X.length : Int) - 1) = (X.length : Int) - 1 := IntWalk.i64_in _ (by omega)
  have hwy : IntKind.i64.wrap ((Y.length : Int) - 1) = (Y.length : Int) - 1 := IntWalk.i64_in _ (by omega)
  go_enter Tryd.func52, Tryd.ntmps52
  go_wp2_with fail
  refine HA.out.mono ?_
  rintro e w2 ⟨a2, c2, rfl, ho2, hb2⟩
  have HO2 := hide ho2
  have HB2 := hide hb2
  have HA3 := hide (HA2.out w2 (Chg.of_below0 hb2))
  clear ho2 hb2
  go_wp2_with fail
  refine HA3.out.mono ?_
  rintro e w3 ⟨a3, c3, rfl, ho3, hb3⟩
  have HXR := hide ((Rd.of_owns HO2.out).chg (Chg.of_below0 (S := fun _ => False) hb3) (fun _ _ _ h => h))
  have HYR := hide (Rd.of_owns ho3)
  have HB3 := hide (HB2.out.trans (hb3.mono HB2.out.size))
  clear ho3 hb3
  go_wp2_with fail
  go_loopw [9, 10, 11] (fun v s t wr => ∃ (i k : Nat) (out : List Int), i ≤ X.length ∧ k ≤ Y.length ∧ s = .int .i64 ((i : Int) - 1) ∧ t = .int .i64 ((k : Int) - 1) ∧ out.length ≤ 60 ∧ (∃ a1 c1, v = .slice a1 out.length c1 ∧ Hid (wr.ownsRow w3.heap.size 3 1 (.slice a1 out.length c1) out.length (out.map (Value.int .i64)))) ∧ Hid (out ++ restL (X.take i) (Y.take k) = C) ∧ Hid (Chg (fun _ => False) w3 wr)) (fun _ s t _ => (intOf s + 1).toNat + (intOf t + 1).toNat)
  case atStart => exact ⟨X.length, Y.length, [], Nat.le_refl _, Nat.le_refl _, rfl, rfl, by simp, ⟨none, 0, rfl, World.ownsRow_nil _ _ _ _⟩, by rw [List.take_length, List.take_length]; exact HCE.out.symm, Chg.refl _ _⟩
  case round =>
    obtain ⟨i, k, out, hi, hk, rfl, rfl, hol, ⟨a1, c1, rfl, HR⟩, HE, HC⟩ := hrel
    obtain ⟨wo, rfl⟩ : ∃ wo : World, wo = wr := ⟨_, rfl⟩
    cases i with
    | zero =>
      have he := HE.out
      rw [List.take_zero, restL_nil, List.append_nil] at he
      subst he
      have d1 : decide (((0 : Nat) : Int) - 1 ≥ 0) = false := decide_eq_false (by omega)
      have HB := hide (HB3.out.trans (HC.out.below HB3.out.size (fun _ _ h => h)))
      go_wp2_with fail
      go_ret
      exact ⟨a1, c1, rfl, ownsRow_base HR.out (fun k hk => by have h1 := (ownsRow_lt HR.out k hk).1; have h2 := HB3.out.size; omega), HB.out⟩
    | succ i =>
      have hti : ((i + 1 : Nat) : Int) - 1 = (i : Int) := by omega
      rw [hti]
      cases k with
      | zero =>
        have he := HE.out
        rw [List.take_zero, restL_nil', List.append_nil] at he
        subst he
        have d1 : decide (((0 : Nat) : Int) - 1 ≥ 0) = false := decide_eq_false (by omega)
        have d2 : decide ((i : Int) ≥ 0) = true := decide_eq_true (by omega)
        have HB := hide (HB3.out.trans (HC.out.below HB3.out.size (fun _ _ h => h)))
        go_wp2_with fail
        go_ret
        exact ⟨a1, c1, rfl, ownsRow_base HR.out (fun k hk => by have h1 := (ownsRow_lt HR.out k hk).1; have h2 := HB3.out.size; omega), HB.out⟩
      | succ k =>
        have htk : ((k + 1 : Nat) : Int) - 1 = (k : Int) := by omega
        rw [htk]
        have hil : i < X.length := by omega
        have hkl : k < Y.length := by omega
        obtain ⟨a', c', e, -, hcs0⟩ := (HXR.out.chg HC.out (fun _ _ _ h => h)).shape
        obtain ⟨b0, off0, rfl, hcs⟩ := hcs0 (by omega)
        cases e
        have hx0 : wo.cell? ⟨b0, off0 + i, none⟩ = some (.int .i64 X[i]) := hcs i (.int .i64 X[i]) (by rw [List.getElem?_map, List.getElem?_eq_getElem hil]; rfl)
        obtain ⟨a', c', e, -, hcs1⟩ := (HYR.out.chg HC.out (fun _ _ _ h => h)).shape
        obtain ⟨b1, off1, rfl, hcsy⟩ := hcs1 (by omega)
        cases e
        have hy0 : wo.cell? ⟨b1, off1 + k, none⟩ = some (.int .i64 Y[k]) := hcsy k (.int .i64 Y[k]) (by rw [List.getElem?_map, List.getElem?_eq_getElem hkl]; rfl)
        have d2 : decide ((i : Int) ≥ 0) = true := decide_eq_true (by omega)
        have d3 : decide ((k : Int) ≥ 0) = true := decide_eq_true (by omega)
        have hix : (i : Int) < (X.length : Int) := by omega
        have hky : (k : Int) < (Y.length : Int) := by omega
        have hwi : IntKind.i64.wrap ((i : Int) - 1) = (i : Int) - 1 := IntWalk.i64_in _ (by omega)
        have hwk : IntKind.i64.wrap ((k : Int) - 1) = (k : Int) - 1 := IntWalk.i64_in _ (by omega)
        have he := HE.out
        rcases Int.lt_trichotomy X[i] Y[k] with hlt | heq | hgt
        · rw [restL_lt HXF.out HYF.out hil hkl hlt] at he
          have HE2 := hide he
          have d4 : (X[i] == Y[k]) = false := by simp; omega
          have d5 : decide (X[i] < Y[k]) = true := decide_eq_true hlt
          generalize X[i] = xi at *
          generalize Y[k] = yk at *
          clear hcs hcs0 hcsy hcs1 he hlt
          go_wp2_with fail
          refine reg_start (Chg (fun _ => False) wo) 10 10 (by rfl) (by kernel_rfl) (Chg.drew _ _) ?_
          intro hS0
          have hSc := hS0
          refine reg_take (i := 0) (v := ?g2v) rfl (by kernel_rfl) (by kernel_rfl) (by kernel_rfl) (by kernel_rfl) (fun _ _ _ h => h) (by rfl) ?g2y (by assumption) ?g2r
          case g2y => (intro W hS; first | (go_simp; done) | (go_simp; with_reducible rfl))
          simp only [Act.put, List.setIfInBounds_toArray, List.set_cons_zero, List.set_cons_succ]
          refine reg_take (i := 1) (v := ?g3v) rfl (by kernel_rfl) (by kernel_rfl) (by kernel_rfl) (by kernel_rfl) (fun _ _ _ h => h) (by rfl) ?g3y (by assumption) ?g3r
          case g3y => (intro W hS; first | (go_simp; done) | (go_simp; with_reducible rfl))
          simp only [Act.put, List.setIfInBounds_toArray, List.set_cons_zero, List.set_cons_succ]
          refine reg_take (i := 2) (v := ?g4v) rfl (by kernel_rfl) (by kernel_rfl) (by kernel_rfl) (by kernel_rfl) (fun _ _ _ h => h) (by rfl) ?g4y (by assumption) ?g4r
          case g4y => (intro W hS; first | (go_simp; done) | (go_simp; with_reducible rfl))
          simp only [Act.put, List.setIfInBounds_toArray, List.set_cons_zero, List.set_cons_succ]
          refine reg_take (i := 3) (v := ?g5v) rfl (by kernel_rfl) (by kernel_rfl) (by kernel_rfl) (by kernel_rfl) (fun _ _ _ h => h) (by rfl) ?g5y (by assumption) ?g5r
          case g5y => (intro W hS; have f0 := hS.cell hx0 (fun h => h); have f1 := hS.cell hy0 (fun h => h); first | (go_simp; done) | (go_simp; with_reducible rfl))
          simp only [Act.put, List.setIfInBounds_toArray, List.set_cons_zero, List.set_cons_succ]
          refine reg_take (i := 4) (v := ?g6v) rfl (by kernel_rfl) (by kernel_rfl) (by kernel_rfl) (by kernel_rfl) (fun _ _ _ h => h) (by rfl) ?g6y (by assumption) ?g6r
          case g6y => (intro W hS; first | (go_simp; done) | (go_simp; with_reducible rfl))
          simp only [Act.put, List.setIfInBounds_toArray, List.set_cons_zero, List.set_cons_succ]
          refine reg_take (i := 5) (v := ?g7v) rfl (by kernel_rfl) (by kernel_rfl) (by kernel_rfl) (by kernel_rfl) (fun _ _ _ h => h) (by rfl) ?g7y (by assumption) ?g7r
          case g7y => (intro W hS; first | (go_simp; done) | (go_simp; with_reducible rfl))
          simp only [Act.put, List.setIfInBounds_toArray, List.set_cons_zero, List.set_cons_succ]
          refine reg_take (i := 6) (v := ?g8v) rfl (by kernel_rfl) (by kernel_rfl) (by kernel_rfl) (by kernel_rfl) (fun _ _ _ h => h) (by rfl) ?g8y (by assumption) ?g8r
          case g8y => (intro W hS; first | (go_simp; done) | (go_simp; with_reducible rfl))
          simp only [Act.put, List.setIfInBounds_toArray, List.set_cons_zero, List.set_cons_succ]
          refine reg_take (i := 7) (v := ?g9v) rfl (by kernel_rfl) (by kernel_rfl) (by kernel_rfl) (by kernel_rfl) (fun _ _ _ h => h) (by rfl) ?g9y (by assumption) ?g9r
          case g9y => (intro W hS; have f0 := hS.cell hx0 (fun h => h); have f1 := hS.cell hy0 (fun h => h); first | (go_simp; done) | (go_simp; with_reducible rfl))
          simp only [Act.put, List.setIfInBounds_toArray, List.set_cons_zero, List.set_cons_succ]
          refine reg_take (i := 8) (v := ?g10v) rfl (by kernel_rfl) (by kernel_rfl) (by kernel_rfl) (by kernel_rfl) (fun _ _ _ h => h) (by rfl) ?g10y (by assumption) ?g10r
          case g10y => (intro W hS; first | (go_simp; done) | (go_simp; with_reducible rfl))
          simp only [Act.put, List.setIfInBounds_toArray, List.set_cons_zero, List.set_cons_succ]
          refine reg_take (i := 9) (v := ?g11v) rfl (by kernel_rfl) (by kernel_rfl) (by kernel_rfl) (by kernel_rfl) (fun _ _ _ h => h) (by rfl) ?g11y (by assumption) ?g11r
          case g11y => (intro W hS; first | (go_simp; done) | (go_simp; with_reducible rfl))
          simp only [Act.put, List.setIfInBounds_toArray, List.set_cons_zero, List.set_cons_succ]
          refine wpAnyG_done (by kernel_rfl) ?_ _
          clear hS0 hSc
          have hx1 : wo.drew.cell? ⟨b0, off0 + i, none⟩ = some (.int .i64 xi) := hx0
          have hy1 : wo.drew.cell? ⟨b1, off1 + k, none⟩ = some (.int .i64 yk) := hy0
          have hcd := Chg.drew (fun _ => False) wo
          generalize wo.drew = wp at hx1 hy1 hcd ⊢
          go_wp2_with fail
          refine reg_start (Chg (fun _ => False) wp) 10 10 (by rfl) (by kernel_rfl) (Chg.drew _ _) ?_
          intro hS0
          have hSc := hS0
          refine reg_take (i := 0) (v := ?g13v) rfl (by kernel_rfl) (by kernel_rfl) (by kernel_rfl) (by kernel_rfl) (fun _ _ _ h => h) (by rfl) ?g13y (by assumption) ?g13r
          case g13y => (intro W hS; first | (go_simp; done) | (go_simp; with_reducible rfl))
          simp only [Act.put, List.setIfInBounds_toArray, List.set_cons_zero, List.set_cons_succ]
          refine reg_take (i := 1) (v := ?g14v) rfl (by kernel_rfl) (by kernel_rfl) (by kernel_rfl) (by kernel_rfl) (fun _ _ _ h => h) (by rfl) ?g14y (by assumption) ?g14r
          case g14y => (intro W hS; first | (go_simp; done) | (go_simp; with_reducible rfl))
          simp only [Act.put, List.setIfInBounds_toArray, List.set_cons_zero, List.set_cons_succ]
          refine reg_take (i := 2) (v := ?g15v) rfl (by kernel_rfl) (by kernel_rfl) (by kernel_rfl) (by kernel_rfl) (fun _ _ _ h => h) (by rfl) ?g15y (by assumption) ?g15r
          case g15y => (intro W hS; first | (go_simp; done) | (go_simp; with_reducible rfl))
          simp only [Act.put, List.setIfInBounds_toArray, List.set_cons_zero, List.set_cons_succ]
          refine reg_take (i := 3) (v := ?g16v) rfl (by kernel_rfl) (by kernel_rfl) (by kernel_rfl) (by kernel_rfl) (fun _ _ _ h => h) (by rfl) ?g16y (by assumption) ?g16r
          case g16y => (intro W hS; have f0 := hS.cell hx1 (fun h => h); have f1 := hS.cell hy1 (fun h => h); first | (go_simp; done) | (go_simp; with_reducible rfl))
          simp only [Act.put, List.setIfInBounds_toArray, List.set_cons_zero, List.set_cons_succ]
          refine reg_take (i := 4) (v := ?g17v) rfl (by kernel_rfl) (by kernel_rfl) (by kernel_rfl) (by kernel_rfl) (fun _ _ _ h => h) (by rfl) ?g17y (by assumption) ?g17r
          case g17y => (intro W hS; first | (go_simp; done) | (go_simp; with_reducible rfl))
          simp only [Act.put, List.setIfInBounds_toArray, List.set_cons_zero, List.set_cons_succ]
          refine reg_take (i := 5) (v := ?g18v) rfl (by kernel_rfl) (by kernel_rfl) (by kernel_rfl) (by kernel_rfl) (fun _ _ _ h => h) (by rfl) ?g18y (by assumption) ?g18r
          case g18y => (intro W hS; first | (go_simp; done) | (go_simp; with_reducible rfl))
          simp only [Act.put, List.setIfInBounds_toArray, List.set_cons_zero, List.set_cons_succ]
          refine reg_take (i := 6) (v := ?g19v) rfl (by kernel_rfl) (by kernel_rfl) (by kernel_rfl) (by kernel_rfl) (fun _ _ _ h => h) (by rfl) ?g19y (by assumption) ?g19r
          case g19y => (intro W hS; first | (go_simp; done) | (go_simp; with_reducible rfl))
          simp only [Act.put, List.setIfInBounds_toArray, List.set_cons_zero, List.set_cons_succ]
          refine reg_take (i := 7) (v := ?g20v) rfl (by kernel_rfl) (by kernel_rfl) (by kernel_rfl) (by kernel_rfl) (fun _ _ _ h => h) (by rfl) ?g20y (by assumption) ?g20r
          case g20y => (intro W hS; have f0 := hS.cell hx1 (fun h => h); have f1 := hS.cell hy1 (fun h => h); first | (go_simp; done) | (go_simp; with_reducible rfl))
          simp only [Act.put, List.setIfInBounds_toArray, List.set_cons_zero, List.set_cons_succ]
          refine reg_take (i := 8) (v := ?g21v) rfl (by kernel_rfl) (by kernel_rfl) (by kernel_rfl) (by kernel_rfl) (fun _ _ _ h => h) (by rfl) ?g21y (by assumption) ?g21r
          case g21y => (intro W hS; first | (go_simp; done) | (go_simp; with_reducible rfl))
          simp only [Act.put, List.setIfInBounds_toArray, List.set_cons_zero, List.set_cons_succ]
          refine reg_take (i := 9) (v := ?g22v) rfl (by kernel_rfl) (by kernel_rfl) (by kernel_rfl) (by kernel_rfl) (fun _ _ _ h => h) (by rfl) ?g22y (by assumption) ?g22r
          case g22y => (intro W hS; first | (go_simp; done) | (go_simp; with_reducible rfl))
          simp only [Act.put, List.setIfInBounds_toArray, List.set_cons_zero, List.set_cons_succ]
          refine wpAnyG_done (by kernel_rfl) ?_ _
          have HC2 := hide ((HC.out.trans hcd (S'' := fun _ => False) (fun _ _ h => h) (fun _ _ h => h)).trans hSc (S'' := fun _ => False) (fun _ _ h => h) (fun _ _ h => h))
          have HR2 := hide (hSc.owns (hcd.owns HR.out (fun _ _ h => h)) (fun _ _ h => h))
          clear hS0 hSc hcd hx0 hy0 hx1 hy1
          go_wp2_with fail
          go_roundw
          case rel => exact ⟨i, k + 1, out, by omega, by omega, rfl, by (show Value.int .i64 _ = Value.int .i64 _; congr 1; omega), hol, ⟨a1, c1, rfl, HR2.out⟩, HE2.out, HC2.out⟩
          case measure => simp only [intOf]; omega
        · rw [restL_eq HXF.out HYF.out hil hkl heq] at he
          have HE2 : Hid ((out ++ [X[i]]) ++ restL (X.take i) (Y.take k) = C) := hide (by rw [List.append_assoc]; exact he)
          have hol2 : (out ++ [X[i]]).length ≤ 60 := by have := congrArg List.length he; simp at this ⊢; omega
          have d4 : (X[i] == Y[k]) = true := by simp [heq]
          generalize X[i] = xi at *
          generalize Y[k] = yk at *
          clear hcs hcs0 hcsy hcs1 he heq
          have hol1 : out.length ≤ 59 := by simp at hol2; omega
          go_wp2_with fail
          refine reg_start (Chg (fun _ => False) wo) 10 10 (by rfl) (by kernel_rfl) (Chg.drew _ _) ?_
          intro hS0
          have hSc := hS0
          refine reg_take (i := 0) (v := ?g24v) rfl (by kernel_rfl) (by kernel_rfl) (by kernel_rfl) (by kernel_rfl) (fun _ _ _ h => h) (by rfl) ?g24y (by assumption) ?g24r
          case g24y => (intro W hS; first | (go_simp; done) | (go_simp; with_reducible rfl))
          simp only [Act.put, List.setIfInBounds_toArray, List.set_cons_zero, List.set_cons_succ]
          refine reg_take (i := 1) (v := ?g25v) rfl (by kernel_rfl) (by kernel_rfl) (by kernel_rfl) (by kernel_rfl) (fun _ _ _ h => h) (by rfl) ?g25y (by assumption) ?g25r
          case g25y => (intro W hS; first | (go_simp; done) | (go_simp; with_reducible rfl))
          simp only [Act.put, List.setIfInBounds_toArray, List.set_cons_zero, List.set_cons_succ]
          refine reg_take (i := 2) (v := ?g26v) rfl (by kernel_rfl) (by kernel_rfl) (by kernel_rfl) (by kernel_rfl) (fun _ _ _ h => h) (by rfl) ?g26y (by assumption) ?g26r
          case g26y => (intro W hS; first | (go_simp; done) | (go_simp; with_reducible rfl))
          simp only [Act.put, List.setIfInBounds_toArray, List.set_cons_zero, List.set_cons_succ]
          refine reg_take (i := 3) (v := ?g27v) rfl (by kernel_rfl) (by kernel_rfl) (by kernel_rfl) (by kernel_rfl) (fun _ _ _ h => h) (by rfl) ?g27y (by assumption) ?g27r
          case g27y => (intro W hS; have f0 := hS.cell hx0 (fun h => h); have f1 := hS.cell hy0 (fun h => h); first | (go_simp; done) | (go_simp; with_reducible rfl))
          simp only [Act.put, List.setIfInBounds_toArray, List.set_cons_zero, List.set_cons_succ]
          refine reg_take (i := 4) (v := ?g28v) rfl (by kernel_rfl) (by kernel_rfl) (by kernel_rfl) (by kernel_rfl) (fun _ _ _ h => h) (by rfl) ?g28y (by assumption) ?g28r
          case g28y => (intro W hS; first | (go_simp; done) | (go_simp; with_reducible rfl))
          simp only [Act.put, List.setIfInBounds_toArray, List.set_cons_zero, List.set_cons_succ]
          refine reg_take (i := 5) (v := ?g29v) rfl (by kernel_rfl) (by kernel_rfl) (by kernel_rfl) (by kernel_rfl) (fun _ _ _ h => h) (by rfl) ?g29y (by assumption) ?g29r
          case g29y => (intro W hS; first | (go_simp; done) | (go_simp; with_reducible rfl))
          simp only [Act.put, List.setIfInBounds_toArray, List.set_cons_zero, List.set_cons_succ]
          refine reg_take (i := 6) (v := ?g30v) rfl (by kernel_rfl) (by kernel_rfl) (by kernel_rfl) (by kernel_rfl) (fun _ _ _ h => h) (by rfl) ?g30y (by assumption) ?g30r
          case g30y => (intro W hS; first | (go_simp; done) | (go_simp; with_reducible rfl))
          simp only [Act.put, List.setIfInBounds_toArray, List.set_cons_zero, List.set_cons_succ]
          refine reg_take (i := 7) (v := ?g31v) rfl (by kernel_rfl) (by kernel_rfl) (by kernel_rfl) (by kernel_rfl) (fun _ _ _ h => h) (by rfl) ?g31y (by assumption) ?g31r
          case g31y => (intro W hS; have f0 := hS.cell hx0 (fun h => h); have f1 := hS.cell hy0 (fun h => h); first | (go_simp; done) | (go_simp; with_reducible rfl))
          simp only [Act.put, List.setIfInBounds_toArray, List.set_cons_zero, List.set_cons_succ]
          refine reg_take (i := 8) (v := ?g32v) rfl (by kernel_rfl) (by kernel_rfl) (by kernel_rfl) (by kernel_rfl) (fun _ _ _ h => h) (by rfl) ?g32y (by assumption) ?g32r
          case g32y => (intro W hS; first | (go_simp; done) | (go_simp; with_reducible rfl))
          simp only [Act.put, List.setIfInBounds_toArray, List.set_cons_zero, List.set_cons_succ]
          refine reg_take (i := 9) (v := ?g33v) rfl (by kernel_rfl) (by kernel_rfl) (by kernel_rfl) (by kernel_rfl) (fun _ _ _ h => h) (by rfl) ?g33y (by assumption) ?g33r
          case g33y => (intro W hS; first | (go_simp; done) | (go_simp; with_reducible rfl))
          simp only [Act.put, List.setIfInBounds_toArray, List.set_cons_zero, List.set_cons_succ]
          refine wpAnyG_done (by kernel_rfl) ?_ _
          clear hS0 hSc
          have hx1 : wo.drew.cell? ⟨b0, off0 + i, none⟩ = some (.int .i64 xi) := hx0
          have hcd := Chg.drew (fun _ => False) wo
          generalize wo.drew = wp at hx1 hcd ⊢
          have HRP := hide (hcd.owns HR.out (fun _ _ h => h))
          have HCP := hide (HC.out.trans hcd (S'' := fun _ => False) (fun _ _ h => h) (fun _ _ h => h))
          clear hx0 hy0 hcd
          go_wp2_with (at_builtin; go_loud ((refine wpl_append rfl _ _ _ rfl int_slT w3.heap.size (HRP.out.alloc _) (Rd_lit wp #[.int .i64 xi] 3 1) rfl rfl rfl (by simp [Value.oneCell']) (by unfold maxLen; omega) (by omega) (by have := HCP.out.size; simp; omega) ?_); intro ao1 cap1 w9 hown hg hat hnil; have hg9 := (Chg.alloc (fun _ => False) wp _).trans hg (S'' := fun j => (Value.slice a1 out.length c1).ownBlock = some j) (fun _ _ h => h.elim) (fun _ _ h => h); have HO9 := hide hown; have HG9 := hide hg9; clear hown hg hat hnil hg9 hx1))
          go_roundw
          case rel =>
            refine ⟨i, k, out ++ [xi], by omega, by omega, rfl, rfl, hol2, ⟨ao1, cap1, by rw [List.length_append]; rfl, ?_⟩, HE2.out, HCP.out.trans HG9.out (fun _ _ h => h) (fun j hj h => by have := (ownsRow_lt HRP.out j h).1; omega)⟩
            have := HO9.out
            refine hide ?_
            rw [List.length_append, List.length_singleton, List.map_append]
            exact this
          case measure => simp only [intOf]; omega
        · rw [restL_gt HXF.out HYF.out hil hkl hgt] at he
          have HE2 := hide he
          have d4 : (X[i] == Y[k]) = false := by simp; omega
          have d5 : decide (X[i] < Y[k]) = false := decide_eq_false (by omega)
          generalize X[i] = xi at *
          generalize Y[k] = yk at *
          clear hcs hcs0 hcsy hcs1 he hgt
          go_wp2_with fail
          refine reg_start (Chg (fun _ => False) wo) 10 10 (by rfl) (by kernel_rfl) (Chg.drew _ _) ?_
          intro hS0
          have hSc := hS0
          refine reg_take (i := 0) (v := ?g35v) rfl (by kernel_rfl) (by kernel_rfl) (by kernel_rfl) (by kernel_rfl) (fun _ _ _ h => h) (by rfl) ?g35y (by assumption) ?g35r
          case g35y => (intro W hS; first | (go_simp; done) | (go_simp; with_reducible rfl))
          simp only [Act.put, List.setIfInBounds_toArray, List.set_cons_zero, List.set_cons_succ]
          refine reg_take (i := 1) (v := ?g36v) rfl (by kernel_rfl) (by kernel_rfl) (by kernel_rfl) (by kernel_rfl) (fun _ _ _ h => h) (by rfl) ?g36y (by assumption) ?g36r
          case g36y => (intro W hS; first | (go_simp; done) | (go_simp; with_reducible rfl))
          simp only [Act.put, List.setIfInBounds_toArray, List.set_cons_zero, List.set_cons_succ]
          refine reg_take (i := 2) (v := ?g37v) rfl (by kernel_rfl) (by kernel_rfl) (by kernel_rfl) (by kernel_rfl) (fun _ _ _ h => h) (by rfl) ?g37y (by assumption) ?g37r
          case g37y => (intro W hS; first | (go_simp; done) | (go_simp; with_reducible rfl))
          simp only [Act.put, List.setIfInBounds_toArray, List.set_cons_zero, List.set_cons_succ]
          refine reg_take (i := 3) (v := ?g38v) rfl (by kernel_rfl) (by kernel_rfl) (by kernel_rfl) (by kernel_rfl) (fun _ _ _ h => h) (by rfl) ?g38y (by assumption) ?g38r
          case g38y => (intro W hS; have f0 := hS.cell hx0 (fun h => h); have f1 := hS.cell hy0 (fun h => h); first | (go_simp; done) | (go_simp; with_reducible rfl))
          simp only [Act.put, List.setIfInBounds_toArray, List.set_cons_zero, List.set_cons_succ]
          refine reg_take (i := 4) (v := ?g39v) rfl (by kernel_rfl) (by kernel_rfl) (by kernel_rfl) (by kernel_rfl) (fun _ _ _ h => h) (by rfl) ?g39y (by assumption) ?g39r
          case g39y => (intro W hS; first | (go_simp; done) | (go_simp; with_reducible rfl))
          simp only [Act.put, List.setIfInBounds_toArray, List.set_cons_zero, List.set_cons_succ]
          refine reg_take (i := 5) (v := ?g40v) rfl (by kernel_rfl) (by kernel_rfl) (by kernel_rfl) (by kernel_rfl) (fun _ _ _ h => h) (by rfl) ?g40y (by assumption) ?g40r
          case g40y => (intro W hS; first | (go_simp; done) | (go_simp; with_reducible rfl))
          simp only [Act.put, List.setIfInBounds_toArray, List.set_cons_zero, List.set_cons_succ]
          refine reg_take (i := 6) (v := ?g41v) rfl (by kernel_rfl) (by kernel_rfl) (by kernel_rfl) (by kernel_rfl) (fun _ _ _ h => h) (by rfl) ?g41y (by assumption) ?g41r
          case g41y => (intro W hS; first | (go_simp; done) | (go_simp; with_reducible rfl))
          simp only [Act.put, List.setIfInBounds_toArray, List.set_cons_zero, List.set_cons_succ]
          refine reg_take (i := 7) (v := ?g42v) rfl (by kernel_rfl) (by kernel_rfl) (by kernel_rfl) (by kernel_rfl) (fun _ _ _ h => h) (by rfl) ?g42y (by assumption) ?g42r
          case g42y => (intro W hS; have f0 := hS.cell hx0 (fun h => h); have f1 := hS.cell hy0 (fun h => h); first | (go_simp; done) | (go_simp; with_reducible rfl))
          simp only [Act.put, List.setIfInBounds_toArray, List.set_cons_zero, List.set_cons_succ]
          refine reg_take (i := 8) (v := ?g43v) rfl (by kernel_rfl) (by kernel_rfl) (by kernel_rfl) (by kernel_rfl) (fun _ _ _ h => h) (by rfl) ?g43y (by assumption) ?g43r
          case g43y => (intro W hS; first | (go_simp; done) | (go_simp; with_reducible rfl))
          simp only [Act.put, List.setIfInBounds_toArray, List.set_cons_zero, List.set_cons_succ]
          refine reg_take (i := 9) (v := ?g44v) rfl (by kernel_rfl) (by kernel_rfl) (by kernel_rfl) (by kernel_rfl) (fun _ _ _ h => h) (by rfl) ?g44y (by assumption) ?g44r
          case g44y => (intro W hS; first | (go_simp; done) | (go_simp; with_reducible rfl))
          simp only [Act.put, List.setIfInBounds_toArray, List.set_cons_zero, List.set_cons_succ]
          refine wpAnyG_done (by kernel_rfl) ?_ _
          clear hS0 hSc
          have hx1 : wo.drew.cell? ⟨b0, off0 + i, none⟩ = some (.int .i64 xi) := hx0
          have hy1 : wo.drew.cell? ⟨b1, off1 + k, none⟩ = some (.int .i64 yk) := hy0
          have hcd := Chg.drew (fun _ => False) wo
          generalize wo.drew = wp at hx1 hy1 hcd ⊢
          go_wp2_with fail
          refine reg_start (Chg (fun _ => False) wp) 10 10 (by rfl) (by kernel_rfl) (Chg.drew _ _) ?_
          intro hS0
          have hSc := hS0
          refine reg_take (i := 0) (v := ?g46v) rfl (by kernel_rfl) (by kernel_rfl) (by kernel_rfl) (by kernel_rfl) (fun _ _ _ h => h) (by rfl) ?g46y (by assumption) ?g46r
          case g46y => (intro W hS; first | (go_simp; done) | (go_simp; with_reducible rfl))
          simp only [Act.put, List.setIfInBounds_toArray, List.set_cons_zero, List.set_cons_succ]
          refine reg_take (i := 1) (v := ?g47v) rfl (by kernel_rfl) (by kernel_rfl) (by kernel_rfl) (by kernel_rfl) (fun _ _ _ h => h) (by rfl) ?g47y (by assumption) ?g47r
          case g47y => (intro W hS; first | (go_simp; done) | (go_simp; with_reducible rfl))
          simp only [Act.put, List.setIfInBounds_toArray, List.set_cons_zero, List.set_cons_succ]
          refine reg_take (i := 2) (v := ?g48v) rfl (by kernel_rfl) (by kernel_rfl) (by kernel_rfl) (by kernel_rfl) (fun _ _ _ h => h) (by rfl) ?g48y (by assumption) ?g48r
          case g48y => (intro W hS; first | (go_simp; done) | (go_simp; with_reducible rfl))
          simp only [Act.put, List.setIfInBounds_toArray, List.set_cons_zero, List.set_cons_succ]
          refine reg_take (i := 3) (v := ?g49v) rfl (by kernel_rfl) (by kernel_rfl) (by kernel_rfl) (by kernel_rfl) (fun _ _ _ h => h) (by rfl) ?g49y (by assumption) ?g49r
          case g49y => (intro W hS; have f0 := hS.cell hx1 (fun h => h); have f1 := hS.cell hy1 (fun h => h); first | (go_simp; done) | (go_simp; with_reducible rfl))
          simp only [Act.put, List.setIfInBounds_toArray, List.set_cons_zero, List.set_cons_succ]
          refine reg_take (i := 4) (v := ?g50v) rfl (by kernel_rfl) (by kernel_rfl) (by kernel_rfl) (by kernel_rfl) (fun _ _ _ h => h) (by rfl) ?g50y (by assumption) ?g50r
          case g50y => (intro W hS; first | (go_simp; done) | (go_simp; with_reducible rfl))
          simp only [Act.put, List.setIfInBounds_toArray, List.set_cons_zero, List.set_cons_succ]
          refine reg_take (i := 5) (v := ?g51v) rfl (by kernel_rfl) (by kernel_rfl) (by kernel_rfl) (by kernel_rfl) (fun _ _ _ h => h) (by rfl) ?g51y (by assumption) ?g51r
          case g51y => (intro W hS; first | (go_simp; done) | (go_simp; with_reducible rfl))
          simp only [Act.put, List.setIfInBounds_toArray, List.set_cons_zero, List.set_cons_succ]
          refine reg_take (i := 6) (v := ?g52v) rfl (by kernel_rfl) (by kernel_rfl) (by kernel_rfl) (by kernel_rfl) (fun _ _ _ h => h) (by rfl) ?g52y (by assumption) ?g52r
          case g52y => (intro W hS; first | (go_simp; done) | (go_simp; with_reducible rfl))
          simp only [Act.put, List.setIfInBounds_toArray, List.set_cons_zero, List.set_cons_succ]
          refine reg_take (i := 7) (v := ?g53v) rfl (by kernel_rfl) (by kernel_rfl) (by kernel_rfl) (by kernel_rfl) (fun _ _ _ h => h) (by rfl) ?g53y (by assumption) ?g53r
          case g53y => (intro W hS; have f0 := hS.cell hx1 (fun h => h); have f1 := hS.cell hy1 (fun h => h); first | (go_simp; done) | (go_simp; with_reducible rfl))
          simp only [Act.put, List.setIfInBounds_toArray, List.set_cons_zero, List.set_cons_succ]
          refine reg_take (i := 8) (v := ?g54v) rfl (by kernel_rfl) (by kernel_rfl) (by kernel_rfl) (by kernel_rfl) (fun _ _ _ h => h) (by rfl) ?g54y (by assumption) ?g54r
          case g54y => (intro W hS; first | (go_simp; done) | (go_simp; with_reducible rfl))
          simp only [Act.put, List.setIfInBounds_toArray, List.set_cons_zero, List.set_cons_succ]
          refine reg_take (i := 9) (v := ?g55v) rfl (by kernel_rfl) (by kernel_rfl) (by kernel_rfl) (by kernel_rfl) (fun _ _ _ h => h) (by rfl) ?g55y (by assumption) ?g55r
          case g55y => (intro W hS; first | (go_simp; done) | (go_simp; with_reducible rfl))
          simp only [Act.put, List.setIfInBounds_toArray, List.set_cons_zero, List.set_cons_succ]
          refine wpAnyG_done (by kernel_rfl) ?_ _
          have HC2 := hide ((HC.out.trans hcd (S'' := fun _ => False) (fun _ _ h => h) (fun _ _ h => h)).trans hSc (S'' := fun _ => False) (fun _ _ h => h) (fun _ _ h => h))
          have HR2 := hide (hSc.owns (hcd.owns HR.out (fun _ _ h => h)) (fun _ _ h => h))
          clear hS0 hSc hcd hx0 hy0 hx1 hy1
          go_wp2_with fail
          go_roundw
          case rel => exact ⟨i + 1, k, out, by omega, by omega, by (show Value.int .i64 _ = Value.int .i64 _; congr 1; omega), rfl, hol, ⟨a1, c1, rfl, HR2.out⟩, HE2.out, HC2.out⟩
          case measure => simp only [intOf]; omega
theorem mkF_all (ms : List Bool) (zs : List Int) {x : Int} (hx : 1 ≤ x ∧ x < ms.length) (hz : ∀ z ∈ zs, 1 ≤ z) : mkF (markAll ms zs) x = (mkF ms x || zs.contains x) := by
  have h := markAll_get zs ms x.toNat (by omega)
  rw [Bool.eq_iff_iff]
  show (markAll ms zs).getD x.toNat false = true ↔ (ms.getD x.toNat false || zs.contains x) = true
  rw [h, Bool.or_eq_true, List.contains_iff_mem]
  constructor
  · rintro (h | ⟨z, hz1, h⟩)
    · exact .inl h
    · have := hz z hz1
      have e : z = x := by omega
      exact .inr (e ▸ hz1)
  · rintro (h | h)
    · exact .inl h
    · exact .inr ⟨x, h, rfl⟩
set_option maxRecDepth 100000 in
set_option maxHeartbeats 4000000 in
theorem ref12_Best (h : RefAt base w p ao cap l room) (hd : DagOk (cms l)) (a b : Int) :
    Calls Tryd.prog 53 #[.pointer (some ⟨p, 0, none⟩), .int .i64 a, .int .i64 b] w fun e w' => ∃ a' c, e = .returned (.slice a' (bestN (cms l) a b).length c) ∧ w'.ownsRow w.heap.size 3 1 (.slice a' (bestN (cms l) a b).length c) (bestN (cms l) a b).length ((bestN (cms l) a b).map (Value.int .i64)) ∧ Below w.heap.size w w' := by
  obtain ⟨i0, hi, hz0, hz1, hz2⟩ := info_parts bool_slT.info
  have HCM := hide (ref12_Common h hd a b)
  have HAH := hide (fun Wx (hc : Chg (fun _ => False) w Wx) n => ref11_Ahead (h.same hc) hd n)
  have hCl := common_len (cms l) a b
  have hl60 := hd.len
  have hcl := cms_length l
  have HCR : Hid (∀ x ∈ commonN (cms l) a b, 1 ≤ x ∧ x ≤ (l.length : Int)) := hide (fun x hx => by
    have := ahead_range (common_mem.1 hx).1
    rw [hcl] at this; omega)
  have HBN : Hid (bestN (cms l) a b = (bestF (cms l) (commonN (cms l) a b).reverse (fun _ => false)).reverse) := hide rfl
  have HBL := best_len (cms l) a b
  obtain ⟨C, hC⟩ : ∃ C, C = commonN (cms l) a b := ⟨_, rfl⟩
  obtain ⟨BN, hBN⟩ : ∃ BN, BN = bestN (cms l) a b := ⟨_, rfl⟩
  rw [← hC] at hCl HCM HCR HBN
  rw [← hBN] at HBN HBL ⊢
  rw [hcl] at hl60 hCl HBL
  have HH := hide (fun Wx (hc : Chg (fun _ => False) w Wx) => (h.same hc).c0)
  obtain ⟨L, hLL⟩ : ∃ L, L = l.length := ⟨_, rfl⟩
  rw [← hLL] at hl60 hCl HBL HCR HH
  have HLL := hide hLL
  clear h hd hC hBN hcl hLL
  have hwx : IntKind.i64.wrap ((C.length : Int) - 1) = (C.length : Int) - 1 := IntWalk.i64_in _ (by omega)
  have hwL : IntKind.i64.wrap ((L : Int) + 1) = (L : Int) + 1 := IntWalk.i64_in _ (by omega)
  go_enter Tryd.func53, Tryd.ntmps53
  go_wp2_with fail
  refine HCM.out.mono ?_
  rintro e w2 ⟨a2, c2, rfl, ho2, hb2⟩
  have HO2 := hide ho2
  have HB2 := hide hb2
  have h0 := HH.out w2 (Chg.of_below0 hb2)
  have hsz2 : w2.heap.size ≤ w2.heap.size := Nat.le_refl _
  obtain ⟨g, hgg⟩ : ∃ g, g = w2.heap.size := ⟨_, rfl⟩
  have HGG := hide hgg
  clear ho2 hb2
  go_wp2_with (at_make; go_loud ((refine wpList_make_full _ rfl _ _ 68 rfl w2.heap.size 4 i0 (.bool false) 1 bool_slT.under hi hz0 hz1 _ _ _ _ (L + 1) rfl rfl (by omega) (by omega) (by rw [hz2]; omega) (by unfold maxLen; omega) (Nat.le_refl _) ?_); intro w5 hown hgr; rw [← hgg] at hown ⊢; clear hgg; have HO5 := hide hown; have HG5 := hide hgr; clear hown hgr))
  have hc5 : Chg (fun _ => False) w2 w5 := (Chg.grown HG5.out).mono (fun _ _ h => by cases h)
  have HC5 := hide hc5
  have HB5 := hide (HB2.out.trans (hc5.below HB2.out.size (fun _ _ h => h)))
  have HCW : Hid (∀ Wx, Chg (fun k => k = g) w5 Wx → Chg (fun _ => False) w Wx ∧ Chg (fun _ => False) w2 Wx) := hide (fun Wx h => (by
    have h2 := HC5.out.trans h (S'' := fun _ => False) (fun _ _ h => h) (fun i hi h => by have e : i = g := h; have := HGG.out; omega)
    exact ⟨(Chg.of_below0 (S := fun _ => False) HB2.out).trans h2 (fun _ _ h => h) (fun _ _ h => h), h2⟩))
  have HCR2 := hide (fun Wx (h : Chg (fun k => k = g) w5 Wx) => (Rd.of_owns HO2.out).chg (HCW.out Wx h).2 (fun _ _ _ h => h))
  have HMK : Hid (MkR g g L w5 (List.replicate (L + 1) false) w5) := hide ⟨by
    have e : (List.replicate (L + 1) false).map Value.bool = (madeCells (Value.bool false).cells ((L + 1) * 1)).toList := by
      have e1 : (Value.bool false).cells = #[.bool false] := rfl
      have e2 : (madeCells #[Value.bool false] ((L + 1) * 1)).toList = List.replicate (L + 1) (.bool false) := by
        rw [Nat.mul_one]
        apply List.ext_getElem
        · simp [madeCells]
        · intro i h1 h2
          simp [madeCells, Nat.mod_one]
      rw [e1, e2, List.map_replicate]
    rw [e]
    exact HO5.out, Chg.refl _ _⟩
  have HG5L := hide (ownsRow_lt HO5.out g rfl).2
  have HST : Hid (bestF (cms l) (C.take C.length).reverse (mkF (List.replicate (L + 1) false)) = bestF (cms l) C.reverse (fun _ => false)) := hide (by
    rw [List.take_length]
    refine bestF_congr _ _ _ _ (fun x _ => ?_)
    unfold mkF
    rw [List.getD_eq_getElem?_getD, List.getElem?_replicate]
    split <;> rfl)
  clear hc5 hi hz0 hz1 hz2 h0 hsz2
  go_wp2_with fail
  go_loopw [9, 10] (fun v s wr => ∃ (k : Nat) (out : List Int) (ms : List Bool), k ≤ C.length ∧ s = .int .i64 ((k : Int) - 1) ∧ out.length ≤ 60 ∧ (∃ a1 c1, v = .slice a1 out.length c1 ∧ Hid (wr.ownsRow w5.heap.size 3 1 (.slice a1 out.length c1) out.length (out.map (Value.int .i64)))) ∧ Hid (MkR g g L w5 ms wr) ∧ Hid (out.reverse ++ bestF (cms l) (C.take k).reverse (mkF ms) = bestF (cms l) C.reverse (fun _ => false))) (fun _ s _ => (intOf s + 1).toNat)
  case atStart => exact ⟨C.length, [], _, Nat.le_refl _, rfl, by simp, ⟨none, 0, rfl, World.ownsRow_nil _ _ _ _⟩, HMK.out, HST.out⟩
  case round =>
    obtain ⟨k, out, ms, hk, rfl, hol, ⟨a1, c1, rfl, HR⟩, HMR, HE⟩ := hrel
    obtain ⟨wo, rfl⟩ : ∃ wo : World, wo = wr := ⟨_, rfl⟩
    cases k with
    | zero =>
      have he := HE.out
      have he2 : out = BN := by
        rw [List.take_zero, List.reverse_nil] at he
        have e0 : bestF (cms l) [] (mkF ms) = [] := rfl
        rw [e0, List.append_nil] at he
        rw [HBN.out, ← he, List.reverse_reverse]
      subst he2
      have d1 : decide (((0 : Nat) : Int) - 1 ≥ 0) = false := decide_eq_false (by omega)
      have HB := hide ((HCW.out wo HMR.out.chg).1.below (n := w.heap.size) (Nat.le_refl _) (fun _ _ h => h))
      have HRR := hide (ownsRow_base HR.out (base' := w.heap.size) (fun k hk => by have h1 := (ownsRow_lt HR.out k hk).1; have h2 := HB5.out.size; omega))
      clear he
      go_wp2_with fail
      go_ret
      exact ⟨a1, c1, rfl, HRR.out, HB.out⟩
    | succ k =>
      have hti : ((k + 1 : Nat) : Int) - 1 = (k : Int) := by omega
      rw [hti]
      have hkl : k < C.length := by omega
      obtain ⟨a', c', e, -, hcs0⟩ := (HCR2.out wo HMR.out.chg).shape
      obtain ⟨b0, off0, rfl, hcs⟩ := hcs0 (by omega)
      cases e
      have hx0 : wo.cell? ⟨b0, off0 + k, none⟩ = some (.int .i64 C[k]) := hcs k (.int .i64 C[k]) (by rw [List.getElem?_map, List.getElem?_eq_getElem hkl]; rfl)
      have hxr := HCR.out C[k] (List.getElem_mem hkl)
      have htk : (C.take (k + 1)).reverse = C[k] :: (C.take k).reverse := by rw [take_succ_get C k hkl, List.reverse_append]; rfl
      have he := HE.out
      rw [htk] at he
      obtain ⟨x, hx⟩ : ∃ x, x = C[k] := ⟨_, rfl⟩
      rw [← hx] at hx0 hxr he
      have HXC : Hid (∀ Wx, Chg (fun k => k = g) w5 Wx → Wx.cell? ⟨b0, off0 + k, none⟩ = some (.int .i64 x)) := hide (fun Wx h => by
        have h1 := (HCR2.out Wx h).add k (.int .i64 C[k]) (by rw [List.getElem?_map, List.getElem?_eq_getElem hkl]; rfl)
        rw [Addr.add_lit, ← hx] at h1
        exact h1)
      obtain ⟨xn, rfl⟩ : ∃ xn : Nat, x = (xn : Int) := ⟨x.toNat, by omega⟩
      have hms := HMR.out.len
      have hxl : xn < ms.length := by omega
      have hm0 : wo.cell? ⟨g, xn, none⟩ = some (.bool ms[xn]) := by
        have := (Rd.of_owns HMR.out.row).add xn (.bool ms[xn]) (by rw [List.getElem?_map, List.getElem?_eq_getElem hxl]; rfl)
        rw [Addr.add_lit, Nat.zero_add] at this
        exact this
      have hmk : mkF ms (xn : Int) = ms[xn] := by
        unfold mkF
        rw [Int.toNat_natCast, List.getD_eq_getElem?_getD, List.getElem?_eq_getElem hxl]; rfl
      have hd0 : decide ((k : Int) ≥ 0) = true := decide_eq_true (by omega)
      have hki : (k : Int) < (C.length : Int) := by omega
      have hxi : (xn : Int) < (L : Int) + 1 := by omega
      have hwk : IntKind.i64.wrap ((k : Int) - 1) = (k : Int) - 1 := IntWalk.i64_in _ (by omega)
      clear hcs hcs0 htk hx
      cases hbt : ms[xn] with
      | true =>
        rw [hbt] at hm0 hmk
        have HE2 := hide (show out.reverse ++ bestF (cms l) (C.take k).reverse (mkF ms) = bestF (cms l) C.reverse (fun _ => false) by
          rw [← he]; conv => rhs; rw [bestF, if_pos hmk])
        clear hbt hmk he
        go_wp2_with fail
        go_roundw
        case rel => exact ⟨k, out, ms, by omega, by (show Value.int .i64 _ = Value.int .i64 _; congr 1), hol, ⟨a1, c1, rfl, HR.out⟩, HMR.out, HE2.out⟩
        case measure => simp only [intOf]; omega
      | false =>
        rw [hbt] at hm0 hmk
        have he2 : ((xn : Int) :: out).reverse ++ bestF (cms l) (C.take k).reverse (fun y => mkF ms y || (aheadN (cms l) xn).contains y) = bestF (cms l) C.reverse (fun _ => false) := by
          rw [← he]
          conv => rhs; rw [bestF, hmk, if_neg (by decide)]
          rw [List.reverse_cons, List.append_assoc]; rfl
        have HE2 := hide he2
        have hol1 : out.length ≤ 59 := by
          have := congrArg List.length he2
          have h2 := bestF_len (cms l) C.reverse (fun _ => false)
          rw [List.length_append, List.length_reverse, List.length_cons] at this
          rw [List.length_reverse] at h2
          omega
        clear hbt hmk he he2
        go_wp2_with (at_builtin; go_loud ((refine wpl_append rfl _ _ _ rfl int_slT w5.heap.size (v := .slice (some ⟨wo.heap.size, 0, none⟩) 1 1) (n := 1) (xs := [.int .i64 (xn : Int)]) ⟨rfl, .inr ⟨wo.heap.size, 1, #[.int .i64 (xn : Int)], rfl, HMR.out.chg.size, heap_alloc_new wo _, Nat.le_refl _, (by unfold maxLen; omega), (by simp), rfl⟩⟩ (vx := .slice a1 out.length c1) (m := out.length) (news := out.map (Value.int .i64)) ((Rd.of_owns HR.out).chg (Chg.alloc (fun _ => False) wo _) (fun _ _ _ h => h)) rfl rfl (by simp) (fun u hu => (by obtain ⟨y, _, rfl⟩ := List.mem_map.1 hu; rfl)) (by unfold maxLen; omega) (by omega) (by have := HMR.out.chg.size; simp; omega) ?_); intro ao1 cap1 w9 hown hg hat hnil; have hg9 := (Chg.alloc (fun _ => False) wo _).trans hg (S'' := fun j => wo.heap.size ≤ j) (fun _ _ h => h.elim) (fun j _ h => (by have e : some wo.heap.size = some j := h; injection e with e; omega)); have q9 := HXC.out w9 (HMR.out.chg.trans hg9 (fun _ _ h => h) (fun j hj h => (by have h1 := HMR.out.chg.size; have h2 : wo.heap.size ≤ j := h; omega))); have HO9 := hide hown; have HG9 := hide hg9; clear hown hg hat hnil hg9 hx0 hm0))
        have hc59 : Chg (fun k => k = g) w5 w9 := HMR.out.chg.trans HG9.out (fun _ _ h => h) (fun j hj h => by have h1 := HMR.out.chg.size; have h2 : wo.heap.size ≤ j := h; omega)
        have hgw : g < wo.heap.size := by have := HMR.out.chg.size; have := HG5L.out; omega
        have hmr9 : MkR g g L w5 ms w9 := ⟨HG9.out.owns HMR.out.row (fun j hj h => by cases hj; have h2 : wo.heap.size ≤ g := h; omega), hc59⟩
        have HROW9 : Hid (w9.ownsRow w5.heap.size 3 1 (.slice ao1 ((xn : Int) :: out).length cap1) ((xn : Int) :: out).length (((xn : Int) :: out).map (Value.int .i64))) := hide (by
          have := HO9.out
          rw [List.length_cons, Nat.add_comm, List.map_cons]
          exact this)
        have HAX := hide (HAH.out w9 (HCW.out w9 hc59).1 (xn : Int))
        have hal := aheadN_length (cms l) (xn : Int)
        rw [cms_length, ← HLL.out] at hal
        have HZR : Hid (∀ z ∈ aheadN (cms l) (xn : Int), 1 ≤ z ∧ z < (L : Int) + 1) := hide (fun z hz => by have := ahead_range hz; omega)
        obtain ⟨zs, hzs⟩ : ∃ zs, zs = aheadN (cms l) (xn : Int) := ⟨_, rfl⟩
        rw [← hzs] at HAX HE2 HZR hal
        have HM9 := hide hmr9
        have hll : l.length ≤ 60 ∨ True := .inr trivial
        clear hc59 hmr9 hzs hll q9
        refine HAX.out.mono ?_
        rintro e wa ⟨aa, ca, rfl, hoa, hba⟩
        have hcA := Chg.of_below0 (S := fun _ => False) hba
        have HMA := hide (HM9.out.same hcA)
        have HRA := hide (hcA.owns HROW9.out (fun _ _ h => h))
        have HZA := hide (Rd.of_owns hoa)
        have HZG : Hid (∀ b, (Value.slice aa zs.length ca).ownBlock = some b → b ≠ g) := hide (fun b hb e => by have h1 := (ownsRow_lt hoa b hb).1; have h2 := HM9.out.chg.size; have := HG5L.out; omega)
        clear hoa hba hcA
        go_wp2_with fail
        go_loopw [12] (fun i wr => ∃ j : Nat, j ≤ zs.length ∧ i = .int .i64 j ∧ Hid (MkR g g L w5 (markAll ms (zs.take j)) wr) ∧ Hid (Chg (fun k => k = g) wa wr)) (fun i _ => zs.length - (intOf i).toNat)
        case atStart => exact ⟨0, Nat.zero_le _, rfl, HMA.out, Chg.refl _ _⟩
        case round =>
          obtain ⟨j, hj, rfl, HMI, HCI⟩ := hrel
          obtain ⟨wi, rfl⟩ : ∃ wi : World, wi = wr := ⟨_, rfl⟩
          by_cases hjl : j < zs.length
          · have hrd := HZA.out.chg HCI.out (fun b hb _ e => HZG.out b hb e)
            obtain ⟨a', c', e, -, hcs0⟩ := hrd.shape
            obtain ⟨b1, off1, rfl, hcs⟩ := hcs0 (by omega)
            cases e
            have hz0 : wi.cell? ⟨b1, off1 + j, none⟩ = some (.int .i64 zs[j]) := hcs j (.int .i64 zs[j]) (by rw [List.getElem?_map, List.getElem?_eq_getElem hjl]; rfl)
            have hzr := HZR.out zs[j] (List.getElem_mem hjl)
            have htj := take_succ_get zs j hjl
            have hwj : IntKind.i64.wrap (j : Int) = j := IntWalk.i64_in _ (by omega)
            have hji : (j : Int) < (zs.length : Int) := by omega
            obtain ⟨z, hz⟩ : ∃ z, z = zs[j] := ⟨_, rfl⟩
            rw [← hz] at hz0 hzr htj
            obtain ⟨zn, rfl⟩ : ∃ zn : Nat, z = (zn : Int) := ⟨z.toNat, by omega⟩
            have HTJ := hide htj
            have hst := HMI.out.row.stored zn (.bool true)
            obtain ⟨⟨uu, fu⟩, eu⟩ := row_cell HMI.out.row (i := zn) (by omega)
            have hzl : (zn : Int) < (L : Int) + 1 := by omega
            have HST := hide hst.1
            clear hrd hcs hcs0 hz htj hst hzr
            go_wp2_with fail
            go_roundw
            case rel =>
              refine ⟨j + 1, by omega, by go_num, ⟨?_, HMI.out.chg.trans (Chg.setCell _ _ _) (fun _ _ h => h) (fun _ _ h => h)⟩, HCI.out.trans (Chg.setCell _ _ _) (fun _ _ h => h) (fun _ _ h => h)⟩
              rw [HTJ.out, markAll_snoc, List.map_set]
              exact HST.out
            case measure => simp [intOf]; omega
          · obtain rfl : j = zs.length := by omega
            have hmi := HMI.out
            rw [List.take_length] at hmi
            have hrw := HCI.out.owns HRA.out (fun b hb e => (by have h1 := (ownsRow_lt HROW9.out b hb).1; have h2 := HG5L.out; have e' : b = g := e; omega))
            have HMS := hide hmi
            have HRS := hide hrw
            have HE3 : Hid (((xn : Int) :: out).reverse ++ bestF (cms l) (C.take k).reverse (mkF (markAll ms zs)) = bestF (cms l) C.reverse (fun _ => false)) := hide (by
              rw [← HE2.out]
              refine congrArg _ (bestF_congr _ _ _ _ (fun y hy => ?_))
              have hyC := HCR.out y (List.mem_of_mem_take (List.mem_reverse.1 hy))
              exact mkF_all ms zs (by omega) (fun z hz => (HZR.out z hz).1))
            clear hmi hrw
            go_wp2_with fail
            go_roundw
            case rel =>
              refine ⟨k, (xn : Int) :: out, markAll ms zs, by omega, by (show Value.int .i64 _ = Value.int .i64 _; congr 1), by rw [List.length_cons]; omega, ⟨ao1, cap1, by rw [List.length_cons, Nat.add_comm], HRS.out⟩, HMS.out, HE3.out⟩
            case measure => simp only [intOf]; omega
end Go.Proofs.YtnnkbicaokckbaaDoor
