/- The document's commits: cortegeref10.May, SameInts, Same are the repo's. Conditions: none. -/
import Derived.Test.YtjmmmpnpkialjaaDoorRfM
import Derived.Outline
import Derived.Deep.QuietTactic
import Derived.BigQuiet
namespace Go.Proofs.YtjmmmpnpkialjaaDoor
open Go.RowKit Go.Shelf

set_option maxHeartbeats 1000000 in
/-- Two lists, element by element. -/
theorem ref10_SameInts (w : World) (va vb : Value) (xs ys : List (Int)) (ha : Rd w va xs.length (flat (fun x : Int => [Value.int .i64 x]) xs)) (hb : Rd w vb ys.length (flat (fun x : Int => [Value.int .i64 x]) ys)) (hm : xs.length ≤ 140737488351232) (hm' : ys.length ≤ 140737488351232) :
    Calls Tryd.prog 73 #[va, vb] w fun e w' => e = .returned (.bool (eqv intEq xs ys)) ∧ ∃ n, w' = w.drewN n := by
  obtain ⟨ao, ca, rfl, -, ha⟩ := ha.shape
  obtain ⟨bo, cb, rfl, -, hb⟩ := hb.shape
  by_cases hl : xs.length = ys.length
  · have hl1 : ((xs.length : Int) != (ys.length : Int)) = false := by simp [hl]
    have HL := hide hl; clear hl
    have HA := hide ha; clear ha
    have HB := hide hb; clear hb
    go_enter Tryd.func73, Tryd.ntmps73
    go_wp2_with fail
    go_loopw [5] (fun i wr => ∃ k : Nat, k ≤ xs.length ∧ i = .int .i64 k ∧ Hid (∀ j (h : j < xs.length) (h' : j < ys.length), j < k → intEq xs[j] ys[j] = true) ∧ (∃ n, wr = w.drewN n)) (fun i _ => xs.length - (intOf i).toNat)
    case atStart => exact ⟨0, Nat.zero_le _, rfl, (fun j _ _ h => by omega), 0, rfl⟩
    case round =>
      obtain ⟨k, hk, rfl, HE, n, rfl⟩ := hrel
      by_cases hlt : k < xs.length
      · have hlt2 : k < ys.length := HL.out ▸ hlt
        obtain ⟨a, oa, rfl, hcx⟩ := HA.out (by omega)
        obtain ⟨b, ob, rfl, hcy⟩ := HB.out (by omega)
        have hx := hcx k (.int .i64 xs[k]) (by rw [flat_one (fun x : Int => Value.int .i64 x)]; simp [hlt]); have hy := hcy k (.int .i64 ys[k]) (by rw [flat_one (fun x : Int => Value.int .i64 x)]; simp [hlt2])
        have HQ : Hid (∀ b, intEq xs[k] ys[k] = b → intEq xs[k] ys[k] = b) := hide (fun _ h => h)
        have HLT2 := hide hlt2
        cases hq : intEq xs[k] ys[k] with
        | false =>
          have HF := hide (eqv_diff intEq k hlt hlt2 hq)
          have hne := intEq_ne hq; simp only [Bool.not_false] at hne
          clear hcx hcy hq HQ
          generalize xs[k] = x at *
          generalize ys[k] = y at *
          go_wp2_with fail
          refine wp_region_quiet_lit (by kernel_rfl) (by kernel_rfl) ?_
          repeat (go_big_quiet_step (fail))
          refine wpQuiet_nil ?_
          intro _ hw'
          obtain ⟨nq, hw''⟩ := hw'
          subst hw''
          go_wp2_with fail
          go_ret
          exact ⟨ret_bool HF.out.symm, n + nq, by simp⟩
        | true =>
          have HT := hide (show ∀ j (h : j < xs.length) (h' : j < ys.length), j < k + 1 → intEq xs[j] ys[j] = true from fun j h h' hj => by
            by_cases e : j = k
            · subst e; exact hq
            · exact HE.out j h h' (by omega))
          have hne := intEq_ne hq; simp only [Bool.not_true] at hne
          clear hcx hcy hq HQ
          generalize xs[k] = x at *
          generalize ys[k] = y at *
          go_wp2_with fail
          refine wp_region_quiet_lit (by kernel_rfl) (by kernel_rfl) ?_
          repeat (go_big_quiet_step (fail))
          refine wpQuiet_nil ?_
          intro _ hw'
          obtain ⟨nq, hw''⟩ := hw'
          subst hw''
          go_wp2_with fail
          go_roundw
          case rel => exact ⟨k + 1, by omega, by go_num, HT, n + nq, by simp⟩
          case measure => simp [intOf]; omega
      · obtain rfl : k = xs.length := by omega
        have HF := hide (eqv_all intEq HL.out (fun j h h' => HE.out j h h' h))
        clear HE
        go_wp2_with fail
        go_ret
        exact ⟨ret_bool HF.out.symm, n, rfl⟩
  · have hl1 : ((xs.length : Int) != (ys.length : Int)) = true := by simp; omega
    have HL := hide (eqv_len intEq hl); clear hl
    clear ha hb
    go_enter Tryd.func73, Tryd.ntmps73
    go_wp2_with fail
    go_ret
    exact ⟨ret_bool HL.out.symm, 0, rfl⟩
set_option maxHeartbeats 1000000 in
/-- Two lists, element by element. -/
theorem ref7_Same (w : World) (va vb : Value) (xs ys : List (Fl)) (ha : Rd w va xs.length (flat (fl_enc) xs)) (hb : Rd w vb ys.length (flat (fl_enc) ys)) (hm : xs.length ≤ 140737488351232) (hm' : ys.length ≤ 140737488351232) :
    Calls Tryd.prog 74 #[va, vb] w fun e w' => e = .returned (.bool (eqv flEq xs ys)) ∧ ∃ n, w' = w.drewN n := by
  obtain ⟨ao, ca, rfl, -, ha⟩ := ha.shape
  obtain ⟨bo, cb, rfl, -, hb⟩ := hb.shape
  by_cases hl : xs.length = ys.length
  · have hl1 : ((xs.length : Int) != (ys.length : Int)) = false := by simp [hl]
    have HL := hide hl; clear hl
    have HA := hide ha; clear ha
    have HB := hide hb; clear hb
    go_enter Tryd.func74, Tryd.ntmps74
    go_wp2_with fail
    go_loopw [5] (fun i wr => ∃ k : Nat, k ≤ xs.length ∧ i = .int .i64 k ∧ Hid (∀ j (h : j < xs.length) (h' : j < ys.length), j < k → flEq xs[j] ys[j] = true) ∧ (∃ n, wr = w.drewN n)) (fun i _ => xs.length - (intOf i).toNat)
    case atStart => exact ⟨0, Nat.zero_le _, rfl, (fun j _ _ h => by omega), 0, rfl⟩
    case round =>
      obtain ⟨k, hk, rfl, HE, n, rfl⟩ := hrel
      by_cases hlt : k < xs.length
      · have hlt2 : k < ys.length := HL.out ▸ hlt
        obtain ⟨a, oa, rfl, hcx⟩ := HA.out (by omega)
        obtain ⟨b, ob, rfl, hcy⟩ := HB.out (by omega)
        obtain ⟨hx0, hx1⟩ := fl_cells w a oa xs hcx k hlt; obtain ⟨hy0, hy1⟩ := fl_cells w b ob ys hcy k hlt2
        have HQ : Hid (∀ b, flEq xs[k] ys[k] = b → flEq xs[k] ys[k] = b) := hide (fun _ h => h)
        have HLT2 := hide hlt2
        cases hq : flEq xs[k] ys[k] with
        | false =>
          have HF := hide (eqv_diff flEq k hlt hlt2 hq)
          have hne := fl_neq' hq; simp only [Bool.not_false] at hne
          clear hcx hcy hq HQ
          generalize xs[k] = x at *
          generalize ys[k] = y at *
          go_wp2_with fail
          refine wp_region_quiet_lit (by kernel_rfl) (by kernel_rfl) ?_
          repeat (go_big_quiet_step (fail))
          refine wpQuiet_nil ?_
          intro _ hw'
          obtain ⟨nq, hw''⟩ := hw'
          subst hw''
          go_wp2_with fail
          go_ret
          exact ⟨ret_bool HF.out.symm, n + nq, by simp⟩
        | true =>
          have HT := hide (show ∀ j (h : j < xs.length) (h' : j < ys.length), j < k + 1 → flEq xs[j] ys[j] = true from fun j h h' hj => by
            by_cases e : j = k
            · subst e; exact hq
            · exact HE.out j h h' (by omega))
          have hne := fl_neq' hq; simp only [Bool.not_true] at hne
          clear hcx hcy hq HQ
          generalize xs[k] = x at *
          generalize ys[k] = y at *
          go_wp2_with fail
          refine wp_region_quiet_lit (by kernel_rfl) (by kernel_rfl) ?_
          repeat (go_big_quiet_step (fail))
          refine wpQuiet_nil ?_
          intro _ hw'
          obtain ⟨nq, hw''⟩ := hw'
          subst hw''
          go_wp2_with fail
          go_roundw
          case rel => exact ⟨k + 1, by omega, by go_num, HT, n + nq, by simp⟩
          case measure => simp [intOf]; omega
      · obtain rfl : k = xs.length := by omega
        have HF := hide (eqv_all flEq HL.out (fun j h h' => HE.out j h h' h))
        clear HE
        go_wp2_with fail
        go_ret
        exact ⟨ret_bool HF.out.symm, n, rfl⟩
  · have hl1 : ((xs.length : Int) != (ys.length : Int)) = true := by simp; omega
    have HL := hide (eqv_len flEq hl); clear hl
    clear ha hb
    go_enter Tryd.func74, Tryd.ntmps74
    go_wp2_with fail
    go_ret
    exact ⟨ret_bool HL.out.symm, 0, rfl⟩
set_option maxHeartbeats 1000000 in
set_option maxRecDepth 100000 in
theorem ref10_Same (w : World) (x y : CmV) (hx : CmAt w x) (hy : CmAt w y) (fx : Few x.c) (fy : Few y.c) :
    Calls Tryd.prog 53 #[x.val, y.val] w fun e w' => e = .returned (.bool (cmEq x.c y.c)) ∧ Below w.heap.size w w' := by
  obtain ⟨xc, xp, xt⟩ := x
  obtain ⟨yc, yp, yt⟩ := y
  obtain ⟨xps, xts, xn⟩ := xc
  obtain ⟨yps, yts, yn⟩ := yc
  unfold CmV.val
  obtain ⟨r, hr⟩ : ∃ r, r = cmEq ⟨xps, xts, xn⟩ ⟨yps, yts, yn⟩ := ⟨_, rfl⟩
  have hrr : r = (eqv intEq xps yps && eqv flEq xts yts && (xn.toList == yn.toList)) := hr
  show Calls _ _ _ _ fun e w' => e = .returned (.bool (cmEq ⟨xps, xts, xn⟩ ⟨yps, yts, yn⟩)) ∧ _
  rw [← hr]
  have HX := hide hx
  have HY := hide hy
  have HW2 := hide (((Below.refl w.heap.size w).alloc (Nat.le_refl _) (.cells #[xp, xt, .string xn] 25)).alloc (by simp) (.cells #[yp, yt, .string yn] 25))
  have h1 : xps.length ≤ 1000000 := fx.1
  have h2 : xts.length ≤ 1000000 := fx.2
  have h3 : yps.length ≤ 1000000 := fy.1
  have h4 : yts.length ≤ 1000000 := fy.2
  have HPC := fun W (hW : Below w.heap.size w W) => hide (ref10_SameInts W xp yp xps yps (HX.out.same (Chg.of_below0 hW)).ps (HY.out.same (Chg.of_below0 hW)).ps (by omega) (by omega))
  have HTC := fun W (hW : Below w.heap.size w W) => hide (ref7_Same W xt yt xts yts (HX.out.same (Chg.of_below0 hW)).ts (HY.out.same (Chg.of_below0 hW)).ts (by omega) (by omega))
  clear hx hy hr fx fy h1 h2 h3 h4
  generalize eqv intEq xps yps = qp at HPC hrr
  generalize eqv flEq xts yts = qt at HTC hrr
  cases qp <;> cases qt <;> cases hn : (xn.toList == yn.toList)
  · have HR : Hid (r = false) := hide (by rw [hrr, hn]; rfl)
    clear hrr
    go_enter Tryd.func53, Tryd.ntmps53
    go_wp2_with fail
    go_ret
    exact ⟨ret_bool HR.out.symm, HW2.out⟩
  · have HR : Hid (r = false) := hide (by rw [hrr, hn]; rfl)
    clear hrr
    go_enter Tryd.func53, Tryd.ntmps53
    go_wp2_with fail
    refine (HPC _ HW2.out).out.mono ?_
    rintro e W3 ⟨rfl, n3, rfl⟩
    have HW3 := hide (bdrewN HW2.out n3)
    go_wp2_with fail
    go_ret
    exact ⟨ret_bool HR.out.symm, HW3.out⟩
  · have HR : Hid (r = false) := hide (by rw [hrr, hn]; rfl)
    clear hrr
    go_enter Tryd.func53, Tryd.ntmps53
    go_wp2_with fail
    go_ret
    exact ⟨ret_bool HR.out.symm, HW2.out⟩
  · have HR : Hid (r = false) := hide (by rw [hrr, hn]; rfl)
    clear hrr
    go_enter Tryd.func53, Tryd.ntmps53
    go_wp2_with fail
    refine (HPC _ HW2.out).out.mono ?_
    rintro e W3 ⟨rfl, n3, rfl⟩
    have HW3 := hide (bdrewN HW2.out n3)
    go_wp2_with fail
    go_ret
    exact ⟨ret_bool HR.out.symm, HW3.out⟩
  · have HR : Hid (r = false) := hide (by rw [hrr, hn]; rfl)
    clear hrr
    go_enter Tryd.func53, Tryd.ntmps53
    go_wp2_with fail
    go_ret
    exact ⟨ret_bool HR.out.symm, HW2.out⟩
  · have HR : Hid (r = false) := hide (by rw [hrr, hn]; rfl)
    clear hrr
    go_enter Tryd.func53, Tryd.ntmps53
    go_wp2_with fail
    refine (HPC _ HW2.out).out.mono ?_
    rintro e W3 ⟨rfl, n3, rfl⟩
    have HW3 := hide (bdrewN HW2.out n3)
    go_wp2_with fail
    refine (HTC _ HW3.out).out.mono ?_
    rintro e W4 ⟨rfl, n4, rfl⟩
    have HW4 := hide (bdrewN HW3.out n4)
    go_wp2_with fail
    go_ret
    exact ⟨ret_bool HR.out.symm, by simpa using HW4.out⟩
  · have HR : Hid (r = false) := hide (by rw [hrr, hn]; rfl)
    clear hrr
    go_enter Tryd.func53, Tryd.ntmps53
    go_wp2_with fail
    go_ret
    exact ⟨ret_bool HR.out.symm, HW2.out⟩
  · have HR : Hid (r = true) := hide (by rw [hrr, hn]; rfl)
    clear hrr
    go_enter Tryd.func53, Tryd.ntmps53
    go_wp2_with fail
    refine (HPC _ HW2.out).out.mono ?_
    rintro e W3 ⟨rfl, n3, rfl⟩
    have HW3 := hide (bdrewN HW2.out n3)
    go_wp2_with fail
    refine (HTC _ HW3.out).out.mono ?_
    rintro e W4 ⟨rfl, n4, rfl⟩
    have HW4 := hide (bdrewN HW3.out n4)
    go_wp2_with fail
    go_ret
    exact ⟨ret_bool HR.out.symm, by simpa using HW4.out⟩
set_option maxHeartbeats 2000000 in
set_option maxRecDepth 100000 in
theorem ref10_May (w : World) (x : CmV) (hx : CmAt w x) (fx : Few x.c) (hsz : ∀ f ∈ x.c.tree, f.path.size ≤ 100000) :
    Calls Tryd.prog 50 #[x.val] w fun e w' => e = .returned (.bool (mayC x.c)) ∧ Below w.heap.size w w' := by
  obtain ⟨⟨xps, xts, xn⟩, xp, xt⟩ := x
  unfold CmV.val
  obtain ⟨r, hr⟩ : ∃ r, r = mayC ⟨xps, xts, xn⟩ := ⟨_, rfl⟩
  have hrr : r = (mayT xts && decide (xps.length ≤ 2) && !(decide (xps.length = 2) && (xps[0]? == xps[1]?)) && decide (xn.size ≤ 60)) := hr
  show Calls _ _ _ _ fun e w' => e = .returned (.bool (mayC ⟨xps, xts, xn⟩)) ∧ _
  rw [← hr]
  have HX := hide hx
  have fl : xps.length ≤ 1000000 := fx.1
  have HTC0 := fun W (hW : CmAt W ⟨⟨xps, xts, xn⟩, xp, xt⟩) => hide (ref7_May W xt xts hW.ts hsz)
  have hxp : Rd w xp xps.length (flat int_enc xps) := hx.ps
  obtain ⟨po, pc, rfl, hpc, hps⟩ := hxp.shape
  clear hx hr fx hsz
  have hB1 : Below w.heap.size w (w.alloc (.cells #[.slice po xps.length pc, xt, .string xn] 25)) := (Below.refl _ w).alloc (Nat.le_refl _) _
  have hx1 := heap_alloc_new w (.cells #[.slice po xps.length pc, xt, .string xn] 25)
  generalize hw1 : w.alloc (.cells #[.slice po xps.length pc, xt, .string xn] 25) = w1 at hB1 hx1
  have HW1 := hide hw1
  have hx20 := cell_of_heap hx1 0
  have hx21 := cell_of_heap hx1 1
  have hx22 := cell_of_heap hx1 2
  simp at hx20 hx21 hx22
  have HX1 := hide (HX.out.same (Chg.of_below0 hB1))
  have HB1 := hide hB1
  have HPS := hide (fun (h : 0 < xps.length) => (match hps h with | ⟨b, off, e, hc⟩ => (show ∃ b off, po = some ⟨b, off, none⟩ ∧ CellsAt w1 b off (flat int_enc xps) from ⟨b, off, e, hc.chg (Chg.of_below0 (S := fun _ => False) hB1) (fun _ h => h)⟩) : ∃ b off, po = some ⟨b, off, none⟩ ∧ CellsAt w1 b off (flat int_enc xps)))
  clear hx1 hw1 hB1 HX hps
  generalize mayT xts = q at HTC0 hrr
  cases q with
  | false =>
    have HR : Hid (r = false) := hide (by rw [hrr]; rfl)
    have HTC : Hid (∀ W, CmAt W _ → _) := hide (fun W a => (HTC0 W a).out)
    clear HTC0 hrr HPS
    go_enter Tryd.func50, Tryd.ntmps50
    go_wp2_with fail
    rw [HW1.out]
    refine reg_start (Chg (fun _ => False) w1) 33 33 (by rfl) (by kernel_rfl) (Chg.drew _ _) ?_
    intro hS0
    have hSc := hS0
    refine reg_take (i := 0) (v := ?g2v) rfl (by kernel_rfl) (by kernel_rfl) (by kernel_rfl) (by kernel_rfl) (fun _ _ _ h => h) (by rfl) ?g2y (by assumption) ?g2r
    case g2y => (intro W hS; first | (go_simp; done) | (go_simp; with_reducible rfl))
    simp only [Act.put, List.setIfInBounds_toArray, List.set_cons_zero, List.set_cons_succ]
    refine reg_take (i := 1) (v := ?g3v) rfl (by kernel_rfl) (by kernel_rfl) (by kernel_rfl) (by kernel_rfl) (fun _ _ _ h => h) (by rfl) ?g3y (by assumption) ?g3r
    case g3y => (intro W hS; have f0 := hS.cell hx20 (fun h => h); have f1 := hS.cell hx21 (fun h => h); have f2 := hS.cell hx22 (fun h => h); first | (go_simp; done) | (go_simp; with_reducible rfl))
    simp only [Act.put, List.setIfInBounds_toArray, List.set_cons_zero, List.set_cons_succ]
    refine reg_one (i := 2) (by kernel_rfl) ?_
    refine op_call (i := 2) (#[xt]) rfl (by rfl) (enters_of Tryd.func71 (by kernel_rfl) rfl) (by first | (simp [Act.eval]; done) | rfl | (simp only [List.map_toArray, List.map_cons, List.map_nil, Act.eval]; rfl) | (simp [Act.eval]; trace_state; done)) ?_
    refine (HTC.out _ (HX1.out.same hSc)).mono ?_
    rintro e W3 ⟨rfl, hb3⟩
    have hSc := hSc.trans (Chg.of_below0 (S := fun _ => False) hb3) (S'' := fun _ => False) (fun _ _ h => h) (fun _ _ h => h)
    clear hb3
    refine ⟨_, rfl, hSc, ?_⟩
    simp only [Act.put, List.setIfInBounds_toArray, List.set_cons_zero, List.set_cons_succ]
    refine reg_take (i := 3) (v := ?g4v) rfl (by kernel_rfl) (by kernel_rfl) (by kernel_rfl) (by kernel_rfl) (fun _ _ _ h => h) (by rfl) ?g4y (by assumption) ?g4r
    case g4y => (intro W hS; first | (go_simp; done) | (go_simp; with_reducible rfl))
    simp only [Act.put, List.setIfInBounds_toArray, List.set_cons_zero, List.set_cons_succ]
    refine reg_skip (i := 4) rfl (by kernel_rfl) (by kernel_rfl) (by kernel_rfl) (by kernel_rfl) (fun _ _ _ h => h) (by rfl) (by assumption) ?_
    simp only [Act.put, List.setIfInBounds_toArray, List.set_cons_zero, List.set_cons_succ]
    refine reg_skip (i := 5) rfl (by kernel_rfl) (by kernel_rfl) (by kernel_rfl) (by kernel_rfl) (fun _ _ _ h => h) (by rfl) (by assumption) ?_
    simp only [Act.put, List.setIfInBounds_toArray, List.set_cons_zero, List.set_cons_succ]
    refine reg_skip (i := 6) rfl (by kernel_rfl) (by kernel_rfl) (by kernel_rfl) (by kernel_rfl) (fun _ _ _ h => h) (by rfl) (by assumption) ?_
    simp only [Act.put, List.setIfInBounds_toArray, List.set_cons_zero, List.set_cons_succ]
    refine reg_skip (i := 7) rfl (by kernel_rfl) (by kernel_rfl) (by kernel_rfl) (by kernel_rfl) (fun _ _ _ h => h) (by rfl) (by assumption) ?_
    simp only [Act.put, List.setIfInBounds_toArray, List.set_cons_zero, List.set_cons_succ]
    refine reg_take (i := 8) (v := ?g5v) rfl (by kernel_rfl) (by kernel_rfl) (by kernel_rfl) (by kernel_rfl) (fun _ _ _ h => h) (by rfl) ?g5y (by assumption) ?g5r
    case g5y => (intro W hS; first | (go_simp; done) | (go_simp; with_reducible rfl))
    simp only [Act.put, List.setIfInBounds_toArray, List.set_cons_zero, List.set_cons_succ]
    refine reg_take (i := 9) (v := ?g6v) rfl (by kernel_rfl) (by kernel_rfl) (by kernel_rfl) (by kernel_rfl) (fun _ _ _ h => h) (by rfl) ?g6y (by assumption) ?g6r
    case g6y => (intro W hS; first | (go_simp; done) | (go_simp; with_reducible rfl))
    simp only [Act.put, List.setIfInBounds_toArray, List.set_cons_zero, List.set_cons_succ]
    refine reg_skip (i := 10) rfl (by kernel_rfl) (by kernel_rfl) (by kernel_rfl) (by kernel_rfl) (fun _ _ _ h => h) (by rfl) (by assumption) ?_
    simp only [Act.put, List.setIfInBounds_toArray, List.set_cons_zero, List.set_cons_succ]
    refine reg_skip (i := 11) rfl (by kernel_rfl) (by kernel_rfl) (by kernel_rfl) (by kernel_rfl) (fun _ _ _ h => h) (by rfl) (by assumption) ?_
    simp only [Act.put, List.setIfInBounds_toArray, List.set_cons_zero, List.set_cons_succ]
    refine reg_skip (i := 12) rfl (by kernel_rfl) (by kernel_rfl) (by kernel_rfl) (by kernel_rfl) (fun _ _ _ h => h) (by rfl) (by assumption) ?_
    simp only [Act.put, List.setIfInBounds_toArray, List.set_cons_zero, List.set_cons_succ]
    refine reg_skip (i := 13) rfl (by kernel_rfl) (by kernel_rfl) (by kernel_rfl) (by kernel_rfl) (fun _ _ _ h => h) (by rfl) (by assumption) ?_
    simp only [Act.put, List.setIfInBounds_toArray, List.set_cons_zero, List.set_cons_succ]
    refine reg_skip (i := 14) rfl (by kernel_rfl) (by kernel_rfl) (by kernel_rfl) (by kernel_rfl) (fun _ _ _ h => h) (by rfl) (by assumption) ?_
    simp only [Act.put, List.setIfInBounds_toArray, List.set_cons_zero, List.set_cons_succ]
    refine reg_skip (i := 15) rfl (by kernel_rfl) (by kernel_rfl) (by kernel_rfl) (by kernel_rfl) (fun _ _ _ h => h) (by rfl) (by assumption) ?_
    simp only [Act.put, List.setIfInBounds_toArray, List.set_cons_zero, List.set_cons_succ]
    refine reg_skip (i := 16) rfl (by kernel_rfl) (by kernel_rfl) (by kernel_rfl) (by kernel_rfl) (fun _ _ _ h => h) (by rfl) (by assumption) ?_
    simp only [Act.put, List.setIfInBounds_toArray, List.set_cons_zero, List.set_cons_succ]
    refine reg_skip (i := 17) rfl (by kernel_rfl) (by kernel_rfl) (by kernel_rfl) (by kernel_rfl) (fun _ _ _ h => h) (by rfl) (by assumption) ?_
    simp only [Act.put, List.setIfInBounds_toArray, List.set_cons_zero, List.set_cons_succ]
    refine reg_skip (i := 18) rfl (by kernel_rfl) (by kernel_rfl) (by kernel_rfl) (by kernel_rfl) (fun _ _ _ h => h) (by rfl) (by assumption) ?_
    simp only [Act.put, List.setIfInBounds_toArray, List.set_cons_zero, List.set_cons_succ]
    refine reg_skip (i := 19) rfl (by kernel_rfl) (by kernel_rfl) (by kernel_rfl) (by kernel_rfl) (fun _ _ _ h => h) (by rfl) (by assumption) ?_
    simp only [Act.put, List.setIfInBounds_toArray, List.set_cons_zero, List.set_cons_succ]
    refine reg_skip (i := 20) rfl (by kernel_rfl) (by kernel_rfl) (by kernel_rfl) (by kernel_rfl) (fun _ _ _ h => h) (by rfl) (by assumption) ?_
    simp only [Act.put, List.setIfInBounds_toArray, List.set_cons_zero, List.set_cons_succ]
    refine reg_skip (i := 21) rfl (by kernel_rfl) (by kernel_rfl) (by kernel_rfl) (by kernel_rfl) (fun _ _ _ h => h) (by rfl) (by assumption) ?_
    simp only [Act.put, List.setIfInBounds_toArray, List.set_cons_zero, List.set_cons_succ]
    refine reg_skip (i := 22) rfl (by kernel_rfl) (by kernel_rfl) (by kernel_rfl) (by kernel_rfl) (fun _ _ _ h => h) (by rfl) (by assumption) ?_
    simp only [Act.put, List.setIfInBounds_toArray, List.set_cons_zero, List.set_cons_succ]
    refine reg_skip (i := 23) rfl (by kernel_rfl) (by kernel_rfl) (by kernel_rfl) (by kernel_rfl) (fun _ _ _ h => h) (by rfl) (by assumption) ?_
    simp only [Act.put, List.setIfInBounds_toArray, List.set_cons_zero, List.set_cons_succ]
    refine reg_skip (i := 24) rfl (by kernel_rfl) (by kernel_rfl) (by kernel_rfl) (by kernel_rfl) (fun _ _ _ h => h) (by rfl) (by assumption) ?_
    simp only [Act.put, List.setIfInBounds_toArray, List.set_cons_zero, List.set_cons_succ]
    refine reg_take (i := 25) (v := ?g7v) rfl (by kernel_rfl) (by kernel_rfl) (by kernel_rfl) (by kernel_rfl) (fun _ _ _ h => h) (by rfl) ?g7y (by assumption) ?g7r
    case g7y => (intro W hS; first | (go_simp; done) | (go_simp; with_reducible rfl))
    simp only [Act.put, List.setIfInBounds_toArray, List.set_cons_zero, List.set_cons_succ]
    refine reg_take (i := 26) (v := ?g8v) rfl (by kernel_rfl) (by kernel_rfl) (by kernel_rfl) (by kernel_rfl) (fun _ _ _ h => h) (by rfl) ?g8y (by assumption) ?g8r
    case g8y => (intro W hS; first | (go_simp; done) | (go_simp; with_reducible rfl))
    simp only [Act.put, List.setIfInBounds_toArray, List.set_cons_zero, List.set_cons_succ]
    refine reg_skip (i := 27) rfl (by kernel_rfl) (by kernel_rfl) (by kernel_rfl) (by kernel_rfl) (fun _ _ _ h => h) (by rfl) (by assumption) ?_
    simp only [Act.put, List.setIfInBounds_toArray, List.set_cons_zero, List.set_cons_succ]
    refine reg_skip (i := 28) rfl (by kernel_rfl) (by kernel_rfl) (by kernel_rfl) (by kernel_rfl) (fun _ _ _ h => h) (by rfl) (by assumption) ?_
    simp only [Act.put, List.setIfInBounds_toArray, List.set_cons_zero, List.set_cons_succ]
    refine reg_skip (i := 29) rfl (by kernel_rfl) (by kernel_rfl) (by kernel_rfl) (by kernel_rfl) (fun _ _ _ h => h) (by rfl) (by assumption) ?_
    simp only [Act.put, List.setIfInBounds_toArray, List.set_cons_zero, List.set_cons_succ]
    refine reg_skip (i := 30) rfl (by kernel_rfl) (by kernel_rfl) (by kernel_rfl) (by kernel_rfl) (fun _ _ _ h => h) (by rfl) (by assumption) ?_
    simp only [Act.put, List.setIfInBounds_toArray, List.set_cons_zero, List.set_cons_succ]
    refine reg_take (i := 31) (v := ?g9v) rfl (by kernel_rfl) (by kernel_rfl) (by kernel_rfl) (by kernel_rfl) (fun _ _ _ h => h) (by rfl) ?g9y (by assumption) ?g9r
    case g9y => (intro W hS; first | (go_simp; done) | (go_simp; with_reducible rfl))
    simp only [Act.put, List.setIfInBounds_toArray, List.set_cons_zero, List.set_cons_succ]
    refine reg_take (i := 32) (v := ?g10v) rfl (by kernel_rfl) (by kernel_rfl) (by kernel_rfl) (by kernel_rfl) (fun _ _ _ h => h) (by rfl) ?g10y (by assumption) ?g10r
    case g10y => (intro W hS; first | (go_simp; done) | (go_simp; with_reducible rfl))
    simp only [Act.put, List.setIfInBounds_toArray, List.set_cons_zero, List.set_cons_succ]
    refine wpAnyG_done (by kernel_rfl) ?_ _
    have HB3 := hide (HB1.out.trans ((hSc.below (Nat.le_refl _) (fun _ _ h => h)).mono HB1.out.size))
    clear hS0 hSc
    go_wp2_with fail
    go_ret
    exact ⟨ret_bool HR.out.symm, HB3.out⟩
  | true =>
    have HTC : Hid (∀ W, CmAt W _ → _) := hide (fun W a => (HTC0 W a).out)
    clear HTC0
    by_cases h2 : xps.length ≤ 2
    · have d1 : decide ((xps.length : Int) ≤ 2) = true := decide_eq_true (by omega)
      by_cases h3 : xps.length = 2
      · obtain ⟨p0, p1, rfl⟩ : ∃ p0 p1, xps = [p0, p1] := by
          match xps, h3 with
          | [p0, p1], _ => exact ⟨p0, p1, rfl⟩
        obtain ⟨b, off, rfl, hc⟩ := HPS.out (by simp)
        have hc0 : w1.cell? ⟨b, off, none⟩ = some (.int .i64 p0) := hc 0 _ rfl
        have hc1 : w1.cell? ⟨b, off + 1, none⟩ = some (.int .i64 p1) := hc 1 _ rfl
        clear hc HPS d1 h2 h3 fl
        simp only [List.length_cons, List.length_nil] at *
        cases hq : (p0 == p1) with
        | true =>
          have hqn : (p0 != p1) = false := by rw [bne, hq]; rfl
          have HR : Hid (r = false) := hide (by rw [hrr]; simp at hq ⊢; intro h; exact absurd hq h)
          clear hrr
          go_enter Tryd.func50, Tryd.ntmps50
          go_wp2_with fail
          rw [HW1.out]
          refine reg_start (Chg (fun _ => False) w1) 33 33 (by rfl) (by kernel_rfl) (Chg.drew _ _) ?_
          intro hS0
          have hSc := hS0
          refine reg_take (i := 0) (v := ?g12v) rfl (by kernel_rfl) (by kernel_rfl) (by kernel_rfl) (by kernel_rfl) (fun _ _ _ h => h) (by rfl) ?g12y (by assumption) ?g12r
          case g12y => (intro W hS; first | (go_simp; done) | (go_simp; with_reducible rfl))
          simp only [Act.put, List.setIfInBounds_toArray, List.set_cons_zero, List.set_cons_succ]
          refine reg_take (i := 1) (v := ?g13v) rfl (by kernel_rfl) (by kernel_rfl) (by kernel_rfl) (by kernel_rfl) (fun _ _ _ h => h) (by rfl) ?g13y (by assumption) ?g13r
          case g13y => (intro W hS; have f0 := hS.cell hx20 (fun h => h); have f1 := hS.cell hx21 (fun h => h); have f2 := hS.cell hx22 (fun h => h); have c0 := hS.cell hc0 (fun h => h); have c1 := hS.cell hc1 (fun h => h); first | (go_simp; done) | (go_simp; with_reducible rfl))
          simp only [Act.put, List.setIfInBounds_toArray, List.set_cons_zero, List.set_cons_succ]
          refine reg_one (i := 2) (by kernel_rfl) ?_
          refine op_call (i := 2) (#[xt]) rfl (by rfl) (enters_of Tryd.func71 (by kernel_rfl) rfl) (by first | (simp [Act.eval]; done) | rfl | (simp only [List.map_toArray, List.map_cons, List.map_nil, Act.eval]; rfl) | (simp [Act.eval]; trace_state; done)) ?_
          refine (HTC.out _ (HX1.out.same hSc)).mono ?_
          rintro e W3 ⟨rfl, hb3⟩
          have hSc := hSc.trans (Chg.of_below0 (S := fun _ => False) hb3) (S'' := fun _ => False) (fun _ _ h => h) (fun _ _ h => h)
          clear hb3
          refine ⟨_, rfl, hSc, ?_⟩
          simp only [Act.put, List.setIfInBounds_toArray, List.set_cons_zero, List.set_cons_succ]
          refine reg_take (i := 3) (v := ?g14v) rfl (by kernel_rfl) (by kernel_rfl) (by kernel_rfl) (by kernel_rfl) (fun _ _ _ h => h) (by rfl) ?g14y (by assumption) ?g14r
          case g14y => (intro W hS; first | (go_simp; done) | (go_simp; with_reducible rfl))
          simp only [Act.put, List.setIfInBounds_toArray, List.set_cons_zero, List.set_cons_succ]
          refine reg_take (i := 4) (v := ?g15v) rfl (by kernel_rfl) (by kernel_rfl) (by kernel_rfl) (by kernel_rfl) (fun _ _ _ h => h) (by rfl) ?g15y (by assumption) ?g15r
          case g15y => (intro W hS; first | (go_simp; done) | (go_simp; with_reducible rfl))
          simp only [Act.put, List.setIfInBounds_toArray, List.set_cons_zero, List.set_cons_succ]
          refine reg_take (i := 5) (v := ?g16v) rfl (by kernel_rfl) (by kernel_rfl) (by kernel_rfl) (by kernel_rfl) (fun _ _ _ h => h) (by rfl) ?g16y (by assumption) ?g16r
          case g16y => (intro W hS; have f0 := hS.cell hx20 (fun h => h); have f1 := hS.cell hx21 (fun h => h); have f2 := hS.cell hx22 (fun h => h); have c0 := hS.cell hc0 (fun h => h); have c1 := hS.cell hc1 (fun h => h); first | (go_simp; done) | (go_simp; with_reducible rfl))
          simp only [Act.put, List.setIfInBounds_toArray, List.set_cons_zero, List.set_cons_succ]
          refine reg_take (i := 6) (v := ?g17v) rfl (by kernel_rfl) (by kernel_rfl) (by kernel_rfl) (by kernel_rfl) (fun _ _ _ h => h) (by rfl) ?g17y (by assumption) ?g17r
          case g17y => (intro W hS; first | (go_simp; done) | (go_simp; with_reducible rfl))
          simp only [Act.put, List.setIfInBounds_toArray, List.set_cons_zero, List.set_cons_succ]
          refine reg_take (i := 7) (v := ?g18v) rfl (by kernel_rfl) (by kernel_rfl) (by kernel_rfl) (by kernel_rfl) (fun _ _ _ h => h) (by rfl) ?g18y (by assumption) ?g18r
          case g18y => (intro W hS; first | (go_simp; done) | (go_simp; with_reducible rfl))
          simp only [Act.put, List.setIfInBounds_toArray, List.set_cons_zero, List.set_cons_succ]
          refine reg_take (i := 8) (v := ?g19v) rfl (by kernel_rfl) (by kernel_rfl) (by kernel_rfl) (by kernel_rfl) (fun _ _ _ h => h) (by rfl) ?g19y (by assumption) ?g19r
          case g19y => (intro W hS; first | (go_simp; done) | (go_simp; with_reducible rfl))
          simp only [Act.put, List.setIfInBounds_toArray, List.set_cons_zero, List.set_cons_succ]
          refine reg_take (i := 9) (v := ?g20v) rfl (by kernel_rfl) (by kernel_rfl) (by kernel_rfl) (by kernel_rfl) (fun _ _ _ h => h) (by rfl) ?g20y (by assumption) ?g20r
          case g20y => (intro W hS; first | (go_simp; done) | (go_simp; with_reducible rfl))
          simp only [Act.put, List.setIfInBounds_toArray, List.set_cons_zero, List.set_cons_succ]
          refine reg_take (i := 10) (v := ?g21v) rfl (by kernel_rfl) (by kernel_rfl) (by kernel_rfl) (by kernel_rfl) (fun _ _ _ h => h) (by rfl) ?g21y (by assumption) ?g21r
          case g21y => (intro W hS; first | (go_simp; done) | (go_simp; with_reducible rfl))
          simp only [Act.put, List.setIfInBounds_toArray, List.set_cons_zero, List.set_cons_succ]
          refine reg_take (i := 11) (v := ?g22v) rfl (by kernel_rfl) (by kernel_rfl) (by kernel_rfl) (by kernel_rfl) (fun _ _ _ h => h) (by rfl) ?g22y (by assumption) ?g22r
          case g22y => (intro W hS; have f0 := hS.cell hx20 (fun h => h); have f1 := hS.cell hx21 (fun h => h); have f2 := hS.cell hx22 (fun h => h); have c0 := hS.cell hc0 (fun h => h); have c1 := hS.cell hc1 (fun h => h); first | (go_simp; done) | (go_simp; with_reducible rfl))
          simp only [Act.put, List.setIfInBounds_toArray, List.set_cons_zero, List.set_cons_succ]
          refine reg_take (i := 12) (v := ?g23v) rfl (by kernel_rfl) (by kernel_rfl) (by kernel_rfl) (by kernel_rfl) (fun _ _ _ h => h) (by rfl) ?g23y (by assumption) ?g23r
          case g23y => (intro W hS; first | (go_simp; done) | (go_simp; with_reducible rfl))
          simp only [Act.put, List.setIfInBounds_toArray, List.set_cons_zero, List.set_cons_succ]
          refine reg_take (i := 13) (v := ?g24v) rfl (by kernel_rfl) (by kernel_rfl) (by kernel_rfl) (by kernel_rfl) (fun _ _ _ h => h) (by rfl) ?g24y (by assumption) ?g24r
          case g24y => (intro W hS; first | (go_simp; done) | (go_simp; with_reducible rfl))
          simp only [Act.put, List.setIfInBounds_toArray, List.set_cons_zero, List.set_cons_succ]
          refine reg_take (i := 14) (v := ?g25v) rfl (by kernel_rfl) (by kernel_rfl) (by kernel_rfl) (by kernel_rfl) (fun _ _ _ h => h) (by rfl) ?g25y (by assumption) ?g25r
          case g25y => (intro W hS; first | (go_simp; done) | (go_simp; with_reducible rfl))
          simp only [Act.put, List.setIfInBounds_toArray, List.set_cons_zero, List.set_cons_succ]
          refine reg_take (i := 15) (v := ?g26v) rfl (by kernel_rfl) (by kernel_rfl) (by kernel_rfl) (by kernel_rfl) (fun _ _ _ h => h) (by rfl) ?g26y (by assumption) ?g26r
          case g26y => (intro W hS; first | (go_simp; done) | (go_simp; with_reducible rfl))
          simp only [Act.put, List.setIfInBounds_toArray, List.set_cons_zero, List.set_cons_succ]
          refine reg_take (i := 16) (v := ?g27v) rfl (by kernel_rfl) (by kernel_rfl) (by kernel_rfl) (by kernel_rfl) (fun _ _ _ h => h) (by rfl) ?g27y (by assumption) ?g27r
          case g27y => (intro W hS; have f0 := hS.cell hx20 (fun h => h); have f1 := hS.cell hx21 (fun h => h); have f2 := hS.cell hx22 (fun h => h); have c0 := hS.cell hc0 (fun h => h); have c1 := hS.cell hc1 (fun h => h); first | (go_simp; done) | (go_simp; with_reducible rfl))
          simp only [Act.put, List.setIfInBounds_toArray, List.set_cons_zero, List.set_cons_succ]
          refine reg_take (i := 17) (v := ?g28v) rfl (by kernel_rfl) (by kernel_rfl) (by kernel_rfl) (by kernel_rfl) (fun _ _ _ h => h) (by rfl) ?g28y (by assumption) ?g28r
          case g28y => (intro W hS; first | (go_simp; done) | (go_simp; with_reducible rfl))
          simp only [Act.put, List.setIfInBounds_toArray, List.set_cons_zero, List.set_cons_succ]
          refine reg_take (i := 18) (v := ?g29v) rfl (by kernel_rfl) (by kernel_rfl) (by kernel_rfl) (by kernel_rfl) (fun _ _ _ h => h) (by rfl) ?g29y (by assumption) ?g29r
          case g29y => (intro W hS; have f0 := hS.cell hx20 (fun h => h); have f1 := hS.cell hx21 (fun h => h); have f2 := hS.cell hx22 (fun h => h); have c0 := hS.cell hc0 (fun h => h); have c1 := hS.cell hc1 (fun h => h); first | (go_simp; done) | (go_simp; with_reducible rfl))
          simp only [Act.put, List.setIfInBounds_toArray, List.set_cons_zero, List.set_cons_succ]
          refine reg_take (i := 19) (v := ?g30v) rfl (by kernel_rfl) (by kernel_rfl) (by kernel_rfl) (by kernel_rfl) (fun _ _ _ h => h) (by rfl) ?g30y (by assumption) ?g30r
          case g30y => (intro W hS; first | (go_simp; done) | (go_simp; with_reducible rfl))
          simp only [Act.put, List.setIfInBounds_toArray, List.set_cons_zero, List.set_cons_succ]
          refine reg_take (i := 20) (v := ?g31v) rfl (by kernel_rfl) (by kernel_rfl) (by kernel_rfl) (by kernel_rfl) (fun _ _ _ h => h) (by rfl) ?g31y (by assumption) ?g31r
          case g31y => (intro W hS; have f0 := hS.cell hx20 (fun h => h); have f1 := hS.cell hx21 (fun h => h); have f2 := hS.cell hx22 (fun h => h); have c0 := hS.cell hc0 (fun h => h); have c1 := hS.cell hc1 (fun h => h); first | (go_simp; done) | (go_simp; with_reducible rfl))
          simp only [Act.put, List.setIfInBounds_toArray, List.set_cons_zero, List.set_cons_succ]
          refine reg_take (i := 21) (v := ?g32v) rfl (by kernel_rfl) (by kernel_rfl) (by kernel_rfl) (by kernel_rfl) (fun _ _ _ h => h) (by rfl) ?g32y (by assumption) ?g32r
          case g32y => (intro W hS; first | (go_simp; done) | (go_simp; with_reducible rfl))
          simp only [Act.put, List.setIfInBounds_toArray, List.set_cons_zero, List.set_cons_succ]
          refine reg_take (i := 22) (v := ?g33v) rfl (by kernel_rfl) (by kernel_rfl) (by kernel_rfl) (by kernel_rfl) (fun _ _ _ h => h) (by rfl) ?g33y (by assumption) ?g33r
          case g33y => (intro W hS; have f0 := hS.cell hx20 (fun h => h); have f1 := hS.cell hx21 (fun h => h); have f2 := hS.cell hx22 (fun h => h); have c0 := hS.cell hc0 (fun h => h); have c1 := hS.cell hc1 (fun h => h); first | (go_simp; done) | (go_simp; with_reducible rfl))
          simp only [Act.put, List.setIfInBounds_toArray, List.set_cons_zero, List.set_cons_succ]
          refine reg_take (i := 23) (v := ?g34v) rfl (by kernel_rfl) (by kernel_rfl) (by kernel_rfl) (by kernel_rfl) (fun _ _ _ h => h) (by rfl) ?g34y (by assumption) ?g34r
          case g34y => (intro W hS; first | (go_simp; done) | (go_simp; with_reducible rfl))
          simp only [Act.put, List.setIfInBounds_toArray, List.set_cons_zero, List.set_cons_succ]
          refine reg_take (i := 24) (v := ?g35v) rfl (by kernel_rfl) (by kernel_rfl) (by kernel_rfl) (by kernel_rfl) (fun _ _ _ h => h) (by rfl) ?g35y (by assumption) ?g35r
          case g35y => (intro W hS; first | (go_simp; done) | (go_simp; with_reducible rfl))
          simp only [Act.put, List.setIfInBounds_toArray, List.set_cons_zero, List.set_cons_succ]
          refine reg_take (i := 25) (v := ?g36v) rfl (by kernel_rfl) (by kernel_rfl) (by kernel_rfl) (by kernel_rfl) (fun _ _ _ h => h) (by rfl) ?g36y (by assumption) ?g36r
          case g36y => (intro W hS; first | (go_simp; done) | (go_simp; with_reducible rfl))
          simp only [Act.put, List.setIfInBounds_toArray, List.set_cons_zero, List.set_cons_succ]
          refine reg_take (i := 26) (v := ?g37v) rfl (by kernel_rfl) (by kernel_rfl) (by kernel_rfl) (by kernel_rfl) (fun _ _ _ h => h) (by rfl) ?g37y (by assumption) ?g37r
          case g37y => (intro W hS; first | (go_simp; done) | (go_simp; with_reducible rfl))
          simp only [Act.put, List.setIfInBounds_toArray, List.set_cons_zero, List.set_cons_succ]
          refine reg_skip (i := 27) rfl (by kernel_rfl) (by kernel_rfl) (by kernel_rfl) (by kernel_rfl) (fun _ _ _ h => h) (by rfl) (by assumption) ?_
          simp only [Act.put, List.setIfInBounds_toArray, List.set_cons_zero, List.set_cons_succ]
          refine reg_skip (i := 28) rfl (by kernel_rfl) (by kernel_rfl) (by kernel_rfl) (by kernel_rfl) (fun _ _ _ h => h) (by rfl) (by assumption) ?_
          simp only [Act.put, List.setIfInBounds_toArray, List.set_cons_zero, List.set_cons_succ]
          refine reg_skip (i := 29) rfl (by kernel_rfl) (by kernel_rfl) (by kernel_rfl) (by kernel_rfl) (fun _ _ _ h => h) (by rfl) (by assumption) ?_
          simp only [Act.put, List.setIfInBounds_toArray, List.set_cons_zero, List.set_cons_succ]
          refine reg_skip (i := 30) rfl (by kernel_rfl) (by kernel_rfl) (by kernel_rfl) (by kernel_rfl) (fun _ _ _ h => h) (by rfl) (by assumption) ?_
          simp only [Act.put, List.setIfInBounds_toArray, List.set_cons_zero, List.set_cons_succ]
          refine reg_take (i := 31) (v := ?g38v) rfl (by kernel_rfl) (by kernel_rfl) (by kernel_rfl) (by kernel_rfl) (fun _ _ _ h => h) (by rfl) ?g38y (by assumption) ?g38r
          case g38y => (intro W hS; first | (go_simp; done) | (go_simp; with_reducible rfl))
          simp only [Act.put, List.setIfInBounds_toArray, List.set_cons_zero, List.set_cons_succ]
          refine reg_take (i := 32) (v := ?g39v) rfl (by kernel_rfl) (by kernel_rfl) (by kernel_rfl) (by kernel_rfl) (fun _ _ _ h => h) (by rfl) ?g39y (by assumption) ?g39r
          case g39y => (intro W hS; first | (go_simp; done) | (go_simp; with_reducible rfl))
          simp only [Act.put, List.setIfInBounds_toArray, List.set_cons_zero, List.set_cons_succ]
          refine wpAnyG_done (by kernel_rfl) ?_ _
          have HB3 := hide (HB1.out.trans ((hSc.below (Nat.le_refl _) (fun _ _ h => h)).mono HB1.out.size))
          clear hS0 hSc
          go_wp2_with fail
          go_ret
          exact ⟨ret_bool HR.out.symm, HB3.out⟩
        | false =>
          have hqn : (p0 != p1) = true := by rw [bne, hq]; rfl
          have hz : decide (xn.size ≤ 60) = decide ((xn.size : Int) ≤ 60) := by simp; omega
          have HR : Hid (r = decide ((xn.size : Int) ≤ 60)) := hide (by rw [hrr, ← hz]; simp [hq])
          clear hrr hz
          go_enter Tryd.func50, Tryd.ntmps50
          go_wp2_with fail
          rw [HW1.out]
          refine reg_start (Chg (fun _ => False) w1) 33 33 (by rfl) (by kernel_rfl) (Chg.drew _ _) ?_
          intro hS0
          have hSc := hS0
          refine reg_take (i := 0) (v := ?g41v) rfl (by kernel_rfl) (by kernel_rfl) (by kernel_rfl) (by kernel_rfl) (fun _ _ _ h => h) (by rfl) ?g41y (by assumption) ?g41r
          case g41y => (intro W hS; first | (go_simp; done) | (go_simp; with_reducible rfl))
          simp only [Act.put, List.setIfInBounds_toArray, List.set_cons_zero, List.set_cons_succ]
          refine reg_take (i := 1) (v := ?g42v) rfl (by kernel_rfl) (by kernel_rfl) (by kernel_rfl) (by kernel_rfl) (fun _ _ _ h => h) (by rfl) ?g42y (by assumption) ?g42r
          case g42y => (intro W hS; have f0 := hS.cell hx20 (fun h => h); have f1 := hS.cell hx21 (fun h => h); have f2 := hS.cell hx22 (fun h => h); have c0 := hS.cell hc0 (fun h => h); have c1 := hS.cell hc1 (fun h => h); first | (go_simp; done) | (go_simp; with_reducible rfl))
          simp only [Act.put, List.setIfInBounds_toArray, List.set_cons_zero, List.set_cons_succ]
          refine reg_one (i := 2) (by kernel_rfl) ?_
          refine op_call (i := 2) (#[xt]) rfl (by rfl) (enters_of Tryd.func71 (by kernel_rfl) rfl) (by first | (simp [Act.eval]; done) | rfl | (simp only [List.map_toArray, List.map_cons, List.map_nil, Act.eval]; rfl) | (simp [Act.eval]; trace_state; done)) ?_
          refine (HTC.out _ (HX1.out.same hSc)).mono ?_
          rintro e W3 ⟨rfl, hb3⟩
          have hSc := hSc.trans (Chg.of_below0 (S := fun _ => False) hb3) (S'' := fun _ => False) (fun _ _ h => h) (fun _ _ h => h)
          clear hb3
          refine ⟨_, rfl, hSc, ?_⟩
          simp only [Act.put, List.setIfInBounds_toArray, List.set_cons_zero, List.set_cons_succ]
          refine reg_take (i := 3) (v := ?g43v) rfl (by kernel_rfl) (by kernel_rfl) (by kernel_rfl) (by kernel_rfl) (fun _ _ _ h => h) (by rfl) ?g43y (by assumption) ?g43r
          case g43y => (intro W hS; first | (go_simp; done) | (go_simp; with_reducible rfl))
          simp only [Act.put, List.setIfInBounds_toArray, List.set_cons_zero, List.set_cons_succ]
          refine reg_take (i := 4) (v := ?g44v) rfl (by kernel_rfl) (by kernel_rfl) (by kernel_rfl) (by kernel_rfl) (fun _ _ _ h => h) (by rfl) ?g44y (by assumption) ?g44r
          case g44y => (intro W hS; first | (go_simp; done) | (go_simp; with_reducible rfl))
          simp only [Act.put, List.setIfInBounds_toArray, List.set_cons_zero, List.set_cons_succ]
          refine reg_take (i := 5) (v := ?g45v) rfl (by kernel_rfl) (by kernel_rfl) (by kernel_rfl) (by kernel_rfl) (fun _ _ _ h => h) (by rfl) ?g45y (by assumption) ?g45r
          case g45y => (intro W hS; have f0 := hS.cell hx20 (fun h => h); have f1 := hS.cell hx21 (fun h => h); have f2 := hS.cell hx22 (fun h => h); have c0 := hS.cell hc0 (fun h => h); have c1 := hS.cell hc1 (fun h => h); first | (go_simp; done) | (go_simp; with_reducible rfl))
          simp only [Act.put, List.setIfInBounds_toArray, List.set_cons_zero, List.set_cons_succ]
          refine reg_take (i := 6) (v := ?g46v) rfl (by kernel_rfl) (by kernel_rfl) (by kernel_rfl) (by kernel_rfl) (fun _ _ _ h => h) (by rfl) ?g46y (by assumption) ?g46r
          case g46y => (intro W hS; first | (go_simp; done) | (go_simp; with_reducible rfl))
          simp only [Act.put, List.setIfInBounds_toArray, List.set_cons_zero, List.set_cons_succ]
          refine reg_take (i := 7) (v := ?g47v) rfl (by kernel_rfl) (by kernel_rfl) (by kernel_rfl) (by kernel_rfl) (fun _ _ _ h => h) (by rfl) ?g47y (by assumption) ?g47r
          case g47y => (intro W hS; first | (go_simp; done) | (go_simp; with_reducible rfl))
          simp only [Act.put, List.setIfInBounds_toArray, List.set_cons_zero, List.set_cons_succ]
          refine reg_take (i := 8) (v := ?g48v) rfl (by kernel_rfl) (by kernel_rfl) (by kernel_rfl) (by kernel_rfl) (fun _ _ _ h => h) (by rfl) ?g48y (by assumption) ?g48r
          case g48y => (intro W hS; first | (go_simp; done) | (go_simp; with_reducible rfl))
          simp only [Act.put, List.setIfInBounds_toArray, List.set_cons_zero, List.set_cons_succ]
          refine reg_take (i := 9) (v := ?g49v) rfl (by kernel_rfl) (by kernel_rfl) (by kernel_rfl) (by kernel_rfl) (fun _ _ _ h => h) (by rfl) ?g49y (by assumption) ?g49r
          case g49y => (intro W hS; first | (go_simp; done) | (go_simp; with_reducible rfl))
          simp only [Act.put, List.setIfInBounds_toArray, List.set_cons_zero, List.set_cons_succ]
          refine reg_take (i := 10) (v := ?g50v) rfl (by kernel_rfl) (by kernel_rfl) (by kernel_rfl) (by kernel_rfl) (fun _ _ _ h => h) (by rfl) ?g50y (by assumption) ?g50r
          case g50y => (intro W hS; first | (go_simp; done) | (go_simp; with_reducible rfl))
          simp only [Act.put, List.setIfInBounds_toArray, List.set_cons_zero, List.set_cons_succ]
          refine reg_take (i := 11) (v := ?g51v) rfl (by kernel_rfl) (by kernel_rfl) (by kernel_rfl) (by kernel_rfl) (fun _ _ _ h => h) (by rfl) ?g51y (by assumption) ?g51r
          case g51y => (intro W hS; have f0 := hS.cell hx20 (fun h => h); have f1 := hS.cell hx21 (fun h => h); have f2 := hS.cell hx22 (fun h => h); have c0 := hS.cell hc0 (fun h => h); have c1 := hS.cell hc1 (fun h => h); first | (go_simp; done) | (go_simp; with_reducible rfl))
          simp only [Act.put, List.setIfInBounds_toArray, List.set_cons_zero, List.set_cons_succ]
          refine reg_take (i := 12) (v := ?g52v) rfl (by kernel_rfl) (by kernel_rfl) (by kernel_rfl) (by kernel_rfl) (fun _ _ _ h => h) (by rfl) ?g52y (by assumption) ?g52r
          case g52y => (intro W hS; first | (go_simp; done) | (go_simp; with_reducible rfl))
          simp only [Act.put, List.setIfInBounds_toArray, List.set_cons_zero, List.set_cons_succ]
          refine reg_take (i := 13) (v := ?g53v) rfl (by kernel_rfl) (by kernel_rfl) (by kernel_rfl) (by kernel_rfl) (fun _ _ _ h => h) (by rfl) ?g53y (by assumption) ?g53r
          case g53y => (intro W hS; first | (go_simp; done) | (go_simp; with_reducible rfl))
          simp only [Act.put, List.setIfInBounds_toArray, List.set_cons_zero, List.set_cons_succ]
          refine reg_take (i := 14) (v := ?g54v) rfl (by kernel_rfl) (by kernel_rfl) (by kernel_rfl) (by kernel_rfl) (fun _ _ _ h => h) (by rfl) ?g54y (by assumption) ?g54r
          case g54y => (intro W hS; first | (go_simp; done) | (go_simp; with_reducible rfl))
          simp only [Act.put, List.setIfInBounds_toArray, List.set_cons_zero, List.set_cons_succ]
          refine reg_take (i := 15) (v := ?g55v) rfl (by kernel_rfl) (by kernel_rfl) (by kernel_rfl) (by kernel_rfl) (fun _ _ _ h => h) (by rfl) ?g55y (by assumption) ?g55r
          case g55y => (intro W hS; first | (go_simp; done) | (go_simp; with_reducible rfl))
          simp only [Act.put, List.setIfInBounds_toArray, List.set_cons_zero, List.set_cons_succ]
          refine reg_take (i := 16) (v := ?g56v) rfl (by kernel_rfl) (by kernel_rfl) (by kernel_rfl) (by kernel_rfl) (fun _ _ _ h => h) (by rfl) ?g56y (by assumption) ?g56r
          case g56y => (intro W hS; have f0 := hS.cell hx20 (fun h => h); have f1 := hS.cell hx21 (fun h => h); have f2 := hS.cell hx22 (fun h => h); have c0 := hS.cell hc0 (fun h => h); have c1 := hS.cell hc1 (fun h => h); first | (go_simp; done) | (go_simp; with_reducible rfl))
          simp only [Act.put, List.setIfInBounds_toArray, List.set_cons_zero, List.set_cons_succ]
          refine reg_take (i := 17) (v := ?g57v) rfl (by kernel_rfl) (by kernel_rfl) (by kernel_rfl) (by kernel_rfl) (fun _ _ _ h => h) (by rfl) ?g57y (by assumption) ?g57r
          case g57y => (intro W hS; first | (go_simp; done) | (go_simp; with_reducible rfl))
          simp only [Act.put, List.setIfInBounds_toArray, List.set_cons_zero, List.set_cons_succ]
          refine reg_take (i := 18) (v := ?g58v) rfl (by kernel_rfl) (by kernel_rfl) (by kernel_rfl) (by kernel_rfl) (fun _ _ _ h => h) (by rfl) ?g58y (by assumption) ?g58r
          case g58y => (intro W hS; have f0 := hS.cell hx20 (fun h => h); have f1 := hS.cell hx21 (fun h => h); have f2 := hS.cell hx22 (fun h => h); have c0 := hS.cell hc0 (fun h => h); have c1 := hS.cell hc1 (fun h => h); first | (go_simp; done) | (go_simp; with_reducible rfl))
          simp only [Act.put, List.setIfInBounds_toArray, List.set_cons_zero, List.set_cons_succ]
          refine reg_take (i := 19) (v := ?g59v) rfl (by kernel_rfl) (by kernel_rfl) (by kernel_rfl) (by kernel_rfl) (fun _ _ _ h => h) (by rfl) ?g59y (by assumption) ?g59r
          case g59y => (intro W hS; first | (go_simp; done) | (go_simp; with_reducible rfl))
          simp only [Act.put, List.setIfInBounds_toArray, List.set_cons_zero, List.set_cons_succ]
          refine reg_take (i := 20) (v := ?g60v) rfl (by kernel_rfl) (by kernel_rfl) (by kernel_rfl) (by kernel_rfl) (fun _ _ _ h => h) (by rfl) ?g60y (by assumption) ?g60r
          case g60y => (intro W hS; have f0 := hS.cell hx20 (fun h => h); have f1 := hS.cell hx21 (fun h => h); have f2 := hS.cell hx22 (fun h => h); have c0 := hS.cell hc0 (fun h => h); have c1 := hS.cell hc1 (fun h => h); first | (go_simp; done) | (go_simp; with_reducible rfl))
          simp only [Act.put, List.setIfInBounds_toArray, List.set_cons_zero, List.set_cons_succ]
          refine reg_take (i := 21) (v := ?g61v) rfl (by kernel_rfl) (by kernel_rfl) (by kernel_rfl) (by kernel_rfl) (fun _ _ _ h => h) (by rfl) ?g61y (by assumption) ?g61r
          case g61y => (intro W hS; first | (go_simp; done) | (go_simp; with_reducible rfl))
          simp only [Act.put, List.setIfInBounds_toArray, List.set_cons_zero, List.set_cons_succ]
          refine reg_take (i := 22) (v := ?g62v) rfl (by kernel_rfl) (by kernel_rfl) (by kernel_rfl) (by kernel_rfl) (fun _ _ _ h => h) (by rfl) ?g62y (by assumption) ?g62r
          case g62y => (intro W hS; have f0 := hS.cell hx20 (fun h => h); have f1 := hS.cell hx21 (fun h => h); have f2 := hS.cell hx22 (fun h => h); have c0 := hS.cell hc0 (fun h => h); have c1 := hS.cell hc1 (fun h => h); first | (go_simp; done) | (go_simp; with_reducible rfl))
          simp only [Act.put, List.setIfInBounds_toArray, List.set_cons_zero, List.set_cons_succ]
          refine reg_take (i := 23) (v := ?g63v) rfl (by kernel_rfl) (by kernel_rfl) (by kernel_rfl) (by kernel_rfl) (fun _ _ _ h => h) (by rfl) ?g63y (by assumption) ?g63r
          case g63y => (intro W hS; first | (go_simp; done) | (go_simp; with_reducible rfl))
          simp only [Act.put, List.setIfInBounds_toArray, List.set_cons_zero, List.set_cons_succ]
          refine reg_take (i := 24) (v := ?g64v) rfl (by kernel_rfl) (by kernel_rfl) (by kernel_rfl) (by kernel_rfl) (fun _ _ _ h => h) (by rfl) ?g64y (by assumption) ?g64r
          case g64y => (intro W hS; first | (go_simp; done) | (go_simp; with_reducible rfl))
          simp only [Act.put, List.setIfInBounds_toArray, List.set_cons_zero, List.set_cons_succ]
          refine reg_take (i := 25) (v := ?g65v) rfl (by kernel_rfl) (by kernel_rfl) (by kernel_rfl) (by kernel_rfl) (fun _ _ _ h => h) (by rfl) ?g65y (by assumption) ?g65r
          case g65y => (intro W hS; first | (go_simp; done) | (go_simp; with_reducible rfl))
          simp only [Act.put, List.setIfInBounds_toArray, List.set_cons_zero, List.set_cons_succ]
          refine reg_take (i := 26) (v := ?g66v) rfl (by kernel_rfl) (by kernel_rfl) (by kernel_rfl) (by kernel_rfl) (fun _ _ _ h => h) (by rfl) ?g66y (by assumption) ?g66r
          case g66y => (intro W hS; first | (go_simp; done) | (go_simp; with_reducible rfl))
          simp only [Act.put, List.setIfInBounds_toArray, List.set_cons_zero, List.set_cons_succ]
          refine reg_take (i := 27) (v := ?g67v) rfl (by kernel_rfl) (by kernel_rfl) (by kernel_rfl) (by kernel_rfl) (fun _ _ _ h => h) (by rfl) ?g67y (by assumption) ?g67r
          case g67y => (intro W hS; first | (go_simp; done) | (go_simp; with_reducible rfl))
          simp only [Act.put, List.setIfInBounds_toArray, List.set_cons_zero, List.set_cons_succ]
          refine reg_take (i := 28) (v := ?g68v) rfl (by kernel_rfl) (by kernel_rfl) (by kernel_rfl) (by kernel_rfl) (fun _ _ _ h => h) (by rfl) ?g68y (by assumption) ?g68r
          case g68y => (intro W hS; have f0 := hS.cell hx20 (fun h => h); have f1 := hS.cell hx21 (fun h => h); have f2 := hS.cell hx22 (fun h => h); have c0 := hS.cell hc0 (fun h => h); have c1 := hS.cell hc1 (fun h => h); first | (go_simp; done) | (go_simp; with_reducible rfl))
          simp only [Act.put, List.setIfInBounds_toArray, List.set_cons_zero, List.set_cons_succ]
          refine reg_take (i := 29) (v := ?g69v) rfl (by kernel_rfl) (by kernel_rfl) (by kernel_rfl) (by kernel_rfl) (fun _ _ _ h => h) (by rfl) ?g69y (by assumption) ?g69r
          case g69y => (intro W hS; first | (go_simp; done) | (go_simp; with_reducible rfl))
          simp only [Act.put, List.setIfInBounds_toArray, List.set_cons_zero, List.set_cons_succ]
          refine reg_take (i := 30) (v := ?g70v) rfl (by kernel_rfl) (by kernel_rfl) (by kernel_rfl) (by kernel_rfl) (fun _ _ _ h => h) (by rfl) ?g70y (by assumption) ?g70r
          case g70y => (intro W hS; first | (go_simp; done) | (go_simp; with_reducible rfl))
          simp only [Act.put, List.setIfInBounds_toArray, List.set_cons_zero, List.set_cons_succ]
          refine reg_take (i := 31) (v := ?g71v) rfl (by kernel_rfl) (by kernel_rfl) (by kernel_rfl) (by kernel_rfl) (fun _ _ _ h => h) (by rfl) ?g71y (by assumption) ?g71r
          case g71y => (intro W hS; first | (go_simp; done) | (go_simp; with_reducible rfl))
          simp only [Act.put, List.setIfInBounds_toArray, List.set_cons_zero, List.set_cons_succ]
          refine reg_take (i := 32) (v := ?g72v) rfl (by kernel_rfl) (by kernel_rfl) (by kernel_rfl) (by kernel_rfl) (fun _ _ _ h => h) (by rfl) ?g72y (by assumption) ?g72r
          case g72y => (intro W hS; first | (go_simp; done) | (go_simp; with_reducible rfl))
          simp only [Act.put, List.setIfInBounds_toArray, List.set_cons_zero, List.set_cons_succ]
          refine wpAnyG_done (by kernel_rfl) ?_ _
          have HB3 := hide (HB1.out.trans ((hSc.below (Nat.le_refl _) (fun _ _ h => h)).mono HB1.out.size))
          clear hS0 hSc
          go_wp2_with fail
          go_ret
          exact ⟨ret_bool HR.out.symm, HB3.out⟩
      · have d2 : decide ((xps.length : Int) < 2) = true := decide_eq_true (by omega)
        have HR : Hid (r = decide ((xn.size : Int) ≤ 60)) := hide (by rw [hrr, decide_eq_true h2, decide_eq_false h3]; simp; omega)
        clear hrr HPS
        go_enter Tryd.func50, Tryd.ntmps50
        go_wp2_with fail
        rw [HW1.out]
        refine reg_start (Chg (fun _ => False) w1) 33 33 (by rfl) (by kernel_rfl) (Chg.drew _ _) ?_
        intro hS0
        have hSc := hS0
        refine reg_take (i := 0) (v := ?g74v) rfl (by kernel_rfl) (by kernel_rfl) (by kernel_rfl) (by kernel_rfl) (fun _ _ _ h => h) (by rfl) ?g74y (by assumption) ?g74r
        case g74y => (intro W hS; first | (go_simp; done) | (go_simp; with_reducible rfl))
        simp only [Act.put, List.setIfInBounds_toArray, List.set_cons_zero, List.set_cons_succ]
        refine reg_take (i := 1) (v := ?g75v) rfl (by kernel_rfl) (by kernel_rfl) (by kernel_rfl) (by kernel_rfl) (fun _ _ _ h => h) (by rfl) ?g75y (by assumption) ?g75r
        case g75y => (intro W hS; have f0 := hS.cell hx20 (fun h => h); have f1 := hS.cell hx21 (fun h => h); have f2 := hS.cell hx22 (fun h => h); first | (go_simp; done) | (go_simp; with_reducible rfl))
        simp only [Act.put, List.setIfInBounds_toArray, List.set_cons_zero, List.set_cons_succ]
        refine reg_one (i := 2) (by kernel_rfl) ?_
        refine op_call (i := 2) (#[xt]) rfl (by rfl) (enters_of Tryd.func71 (by kernel_rfl) rfl) (by first | (simp [Act.eval]; done) | rfl | (simp only [List.map_toArray, List.map_cons, List.map_nil, Act.eval]; rfl) | (simp [Act.eval]; trace_state; done)) ?_
        refine (HTC.out _ (HX1.out.same hSc)).mono ?_
        rintro e W3 ⟨rfl, hb3⟩
        have hSc := hSc.trans (Chg.of_below0 (S := fun _ => False) hb3) (S'' := fun _ => False) (fun _ _ h => h) (fun _ _ h => h)
        clear hb3
        refine ⟨_, rfl, hSc, ?_⟩
        simp only [Act.put, List.setIfInBounds_toArray, List.set_cons_zero, List.set_cons_succ]
        refine reg_take (i := 3) (v := ?g76v) rfl (by kernel_rfl) (by kernel_rfl) (by kernel_rfl) (by kernel_rfl) (fun _ _ _ h => h) (by rfl) ?g76y (by assumption) ?g76r
        case g76y => (intro W hS; first | (go_simp; done) | (go_simp; with_reducible rfl))
        simp only [Act.put, List.setIfInBounds_toArray, List.set_cons_zero, List.set_cons_succ]
        refine reg_take (i := 4) (v := ?g77v) rfl (by kernel_rfl) (by kernel_rfl) (by kernel_rfl) (by kernel_rfl) (fun _ _ _ h => h) (by rfl) ?g77y (by assumption) ?g77r
        case g77y => (intro W hS; first | (go_simp; done) | (go_simp; with_reducible rfl))
        simp only [Act.put, List.setIfInBounds_toArray, List.set_cons_zero, List.set_cons_succ]
        refine reg_take (i := 5) (v := ?g78v) rfl (by kernel_rfl) (by kernel_rfl) (by kernel_rfl) (by kernel_rfl) (fun _ _ _ h => h) (by rfl) ?g78y (by assumption) ?g78r
        case g78y => (intro W hS; have f0 := hS.cell hx20 (fun h => h); have f1 := hS.cell hx21 (fun h => h); have f2 := hS.cell hx22 (fun h => h); first | (go_simp; done) | (go_simp; with_reducible rfl))
        simp only [Act.put, List.setIfInBounds_toArray, List.set_cons_zero, List.set_cons_succ]
        refine reg_take (i := 6) (v := ?g79v) rfl (by kernel_rfl) (by kernel_rfl) (by kernel_rfl) (by kernel_rfl) (fun _ _ _ h => h) (by rfl) ?g79y (by assumption) ?g79r
        case g79y => (intro W hS; first | (go_simp; done) | (go_simp; with_reducible rfl))
        simp only [Act.put, List.setIfInBounds_toArray, List.set_cons_zero, List.set_cons_succ]
        refine reg_take (i := 7) (v := ?g80v) rfl (by kernel_rfl) (by kernel_rfl) (by kernel_rfl) (by kernel_rfl) (fun _ _ _ h => h) (by rfl) ?g80y (by assumption) ?g80r
        case g80y => (intro W hS; first | (go_simp; done) | (go_simp; with_reducible rfl))
        simp only [Act.put, List.setIfInBounds_toArray, List.set_cons_zero, List.set_cons_succ]
        refine reg_take (i := 8) (v := ?g81v) rfl (by kernel_rfl) (by kernel_rfl) (by kernel_rfl) (by kernel_rfl) (fun _ _ _ h => h) (by rfl) ?g81y (by assumption) ?g81r
        case g81y => (intro W hS; first | (go_simp; done) | (go_simp; with_reducible rfl))
        simp only [Act.put, List.setIfInBounds_toArray, List.set_cons_zero, List.set_cons_succ]
        refine reg_take (i := 9) (v := ?g82v) rfl (by kernel_rfl) (by kernel_rfl) (by kernel_rfl) (by kernel_rfl) (fun _ _ _ h => h) (by rfl) ?g82y (by assumption) ?g82r
        case g82y => (intro W hS; first | (go_simp; done) | (go_simp; with_reducible rfl))
        simp only [Act.put, List.setIfInBounds_toArray, List.set_cons_zero, List.set_cons_succ]
        refine reg_take (i := 10) (v := ?g83v) rfl (by kernel_rfl) (by kernel_rfl) (by kernel_rfl) (by kernel_rfl) (fun _ _ _ h => h) (by rfl) ?g83y (by assumption) ?g83r
        case g83y => (intro W hS; first | (go_simp; done) | (go_simp; with_reducible rfl))
        simp only [Act.put, List.setIfInBounds_toArray, List.set_cons_zero, List.set_cons_succ]
        refine reg_take (i := 11) (v := ?g84v) rfl (by kernel_rfl) (by kernel_rfl) (by kernel_rfl) (by kernel_rfl) (fun _ _ _ h => h) (by rfl) ?g84y (by assumption) ?g84r
        case g84y => (intro W hS; have f0 := hS.cell hx20 (fun h => h); have f1 := hS.cell hx21 (fun h => h); have f2 := hS.cell hx22 (fun h => h); first | (go_simp; done) | (go_simp; with_reducible rfl))
        simp only [Act.put, List.setIfInBounds_toArray, List.set_cons_zero, List.set_cons_succ]
        refine reg_take (i := 12) (v := ?g85v) rfl (by kernel_rfl) (by kernel_rfl) (by kernel_rfl) (by kernel_rfl) (fun _ _ _ h => h) (by rfl) ?g85y (by assumption) ?g85r
        case g85y => (intro W hS; first | (go_simp; done) | (go_simp; with_reducible rfl))
        simp only [Act.put, List.setIfInBounds_toArray, List.set_cons_zero, List.set_cons_succ]
        refine reg_take (i := 13) (v := ?g86v) rfl (by kernel_rfl) (by kernel_rfl) (by kernel_rfl) (by kernel_rfl) (fun _ _ _ h => h) (by rfl) ?g86y (by assumption) ?g86r
        case g86y => (intro W hS; first | (go_simp; done) | (go_simp; with_reducible rfl))
        simp only [Act.put, List.setIfInBounds_toArray, List.set_cons_zero, List.set_cons_succ]
        refine reg_take (i := 14) (v := ?g87v) rfl (by kernel_rfl) (by kernel_rfl) (by kernel_rfl) (by kernel_rfl) (fun _ _ _ h => h) (by rfl) ?g87y (by assumption) ?g87r
        case g87y => (intro W hS; first | (go_simp; done) | (go_simp; with_reducible rfl))
        simp only [Act.put, List.setIfInBounds_toArray, List.set_cons_zero, List.set_cons_succ]
        refine reg_skip (i := 15) rfl (by kernel_rfl) (by kernel_rfl) (by kernel_rfl) (by kernel_rfl) (fun _ _ _ h => h) (by rfl) (by assumption) ?_
        simp only [Act.put, List.setIfInBounds_toArray, List.set_cons_zero, List.set_cons_succ]
        refine reg_skip (i := 16) rfl (by kernel_rfl) (by kernel_rfl) (by kernel_rfl) (by kernel_rfl) (fun _ _ _ h => h) (by rfl) (by assumption) ?_
        simp only [Act.put, List.setIfInBounds_toArray, List.set_cons_zero, List.set_cons_succ]
        refine reg_skip (i := 17) rfl (by kernel_rfl) (by kernel_rfl) (by kernel_rfl) (by kernel_rfl) (fun _ _ _ h => h) (by rfl) (by assumption) ?_
        simp only [Act.put, List.setIfInBounds_toArray, List.set_cons_zero, List.set_cons_succ]
        refine reg_skip (i := 18) rfl (by kernel_rfl) (by kernel_rfl) (by kernel_rfl) (by kernel_rfl) (fun _ _ _ h => h) (by rfl) (by assumption) ?_
        simp only [Act.put, List.setIfInBounds_toArray, List.set_cons_zero, List.set_cons_succ]
        refine reg_skip (i := 19) rfl (by kernel_rfl) (by kernel_rfl) (by kernel_rfl) (by kernel_rfl) (fun _ _ _ h => h) (by rfl) (by assumption) ?_
        simp only [Act.put, List.setIfInBounds_toArray, List.set_cons_zero, List.set_cons_succ]
        refine reg_skip (i := 20) rfl (by kernel_rfl) (by kernel_rfl) (by kernel_rfl) (by kernel_rfl) (fun _ _ _ h => h) (by rfl) (by assumption) ?_
        simp only [Act.put, List.setIfInBounds_toArray, List.set_cons_zero, List.set_cons_succ]
        refine reg_skip (i := 21) rfl (by kernel_rfl) (by kernel_rfl) (by kernel_rfl) (by kernel_rfl) (fun _ _ _ h => h) (by rfl) (by assumption) ?_
        simp only [Act.put, List.setIfInBounds_toArray, List.set_cons_zero, List.set_cons_succ]
        refine reg_skip (i := 22) rfl (by kernel_rfl) (by kernel_rfl) (by kernel_rfl) (by kernel_rfl) (fun _ _ _ h => h) (by rfl) (by assumption) ?_
        simp only [Act.put, List.setIfInBounds_toArray, List.set_cons_zero, List.set_cons_succ]
        refine reg_skip (i := 23) rfl (by kernel_rfl) (by kernel_rfl) (by kernel_rfl) (by kernel_rfl) (fun _ _ _ h => h) (by rfl) (by assumption) ?_
        simp only [Act.put, List.setIfInBounds_toArray, List.set_cons_zero, List.set_cons_succ]
        refine reg_take (i := 24) (v := ?g88v) rfl (by kernel_rfl) (by kernel_rfl) (by kernel_rfl) (by kernel_rfl) (fun _ _ _ h => h) (by rfl) ?g88y (by assumption) ?g88r
        case g88y => (intro W hS; first | (go_simp; done) | (go_simp; with_reducible rfl))
        simp only [Act.put, List.setIfInBounds_toArray, List.set_cons_zero, List.set_cons_succ]
        refine reg_take (i := 25) (v := ?g89v) rfl (by kernel_rfl) (by kernel_rfl) (by kernel_rfl) (by kernel_rfl) (fun _ _ _ h => h) (by rfl) ?g89y (by assumption) ?g89r
        case g89y => (intro W hS; first | (go_simp; done) | (go_simp; with_reducible rfl))
        simp only [Act.put, List.setIfInBounds_toArray, List.set_cons_zero, List.set_cons_succ]
        refine reg_take (i := 26) (v := ?g90v) rfl (by kernel_rfl) (by kernel_rfl) (by kernel_rfl) (by kernel_rfl) (fun _ _ _ h => h) (by rfl) ?g90y (by assumption) ?g90r
        case g90y => (intro W hS; first | (go_simp; done) | (go_simp; with_reducible rfl))
        simp only [Act.put, List.setIfInBounds_toArray, List.set_cons_zero, List.set_cons_succ]
        refine reg_take (i := 27) (v := ?g91v) rfl (by kernel_rfl) (by kernel_rfl) (by kernel_rfl) (by kernel_rfl) (fun _ _ _ h => h) (by rfl) ?g91y (by assumption) ?g91r
        case g91y => (intro W hS; first | (go_simp; done) | (go_simp; with_reducible rfl))
        simp only [Act.put, List.setIfInBounds_toArray, List.set_cons_zero, List.set_cons_succ]
        refine reg_take (i := 28) (v := ?g92v) rfl (by kernel_rfl) (by kernel_rfl) (by kernel_rfl) (by kernel_rfl) (fun _ _ _ h => h) (by rfl) ?g92y (by assumption) ?g92r
        case g92y => (intro W hS; have f0 := hS.cell hx20 (fun h => h); have f1 := hS.cell hx21 (fun h => h); have f2 := hS.cell hx22 (fun h => h); first | (go_simp; done) | (go_simp; with_reducible rfl))
        simp only [Act.put, List.setIfInBounds_toArray, List.set_cons_zero, List.set_cons_succ]
        refine reg_take (i := 29) (v := ?g93v) rfl (by kernel_rfl) (by kernel_rfl) (by kernel_rfl) (by kernel_rfl) (fun _ _ _ h => h) (by rfl) ?g93y (by assumption) ?g93r
        case g93y => (intro W hS; first | (go_simp; done) | (go_simp; with_reducible rfl))
        simp only [Act.put, List.setIfInBounds_toArray, List.set_cons_zero, List.set_cons_succ]
        refine reg_take (i := 30) (v := ?g94v) rfl (by kernel_rfl) (by kernel_rfl) (by kernel_rfl) (by kernel_rfl) (fun _ _ _ h => h) (by rfl) ?g94y (by assumption) ?g94r
        case g94y => (intro W hS; first | (go_simp; done) | (go_simp; with_reducible rfl))
        simp only [Act.put, List.setIfInBounds_toArray, List.set_cons_zero, List.set_cons_succ]
        refine reg_take (i := 31) (v := ?g95v) rfl (by kernel_rfl) (by kernel_rfl) (by kernel_rfl) (by kernel_rfl) (fun _ _ _ h => h) (by rfl) ?g95y (by assumption) ?g95r
        case g95y => (intro W hS; first | (go_simp; done) | (go_simp; with_reducible rfl))
        simp only [Act.put, List.setIfInBounds_toArray, List.set_cons_zero, List.set_cons_succ]
        refine reg_take (i := 32) (v := ?g96v) rfl (by kernel_rfl) (by kernel_rfl) (by kernel_rfl) (by kernel_rfl) (fun _ _ _ h => h) (by rfl) ?g96y (by assumption) ?g96r
        case g96y => (intro W hS; first | (go_simp; done) | (go_simp; with_reducible rfl))
        simp only [Act.put, List.setIfInBounds_toArray, List.set_cons_zero, List.set_cons_succ]
        refine wpAnyG_done (by kernel_rfl) ?_ _
        have HB3 := hide (HB1.out.trans ((hSc.below (Nat.le_refl _) (fun _ _ h => h)).mono HB1.out.size))
        clear hS0 hSc
        go_wp2_with fail
        go_ret
        exact ⟨ret_bool HR.out.symm, HB3.out⟩
    · have d1 : decide ((xps.length : Int) ≤ 2) = false := decide_eq_false (by omega)
      have HR : Hid (r = false) := hide (by rw [hrr, decide_eq_false h2]; rfl)
      clear hrr HPS
      go_enter Tryd.func50, Tryd.ntmps50
      go_wp2_with fail
      rw [HW1.out]
      refine reg_start (Chg (fun _ => False) w1) 33 33 (by rfl) (by kernel_rfl) (Chg.drew _ _) ?_
      intro hS0
      have hSc := hS0
      refine reg_take (i := 0) (v := ?g98v) rfl (by kernel_rfl) (by kernel_rfl) (by kernel_rfl) (by kernel_rfl) (fun _ _ _ h => h) (by rfl) ?g98y (by assumption) ?g98r
      case g98y => (intro W hS; first | (go_simp; done) | (go_simp; with_reducible rfl))
      simp only [Act.put, List.setIfInBounds_toArray, List.set_cons_zero, List.set_cons_succ]
      refine reg_take (i := 1) (v := ?g99v) rfl (by kernel_rfl) (by kernel_rfl) (by kernel_rfl) (by kernel_rfl) (fun _ _ _ h => h) (by rfl) ?g99y (by assumption) ?g99r
      case g99y => (intro W hS; have f0 := hS.cell hx20 (fun h => h); have f1 := hS.cell hx21 (fun h => h); have f2 := hS.cell hx22 (fun h => h); first | (go_simp; done) | (go_simp; with_reducible rfl))
      simp only [Act.put, List.setIfInBounds_toArray, List.set_cons_zero, List.set_cons_succ]
      refine reg_one (i := 2) (by kernel_rfl) ?_
      refine op_call (i := 2) (#[xt]) rfl (by rfl) (enters_of Tryd.func71 (by kernel_rfl) rfl) (by first | (simp [Act.eval]; done) | rfl | (simp only [List.map_toArray, List.map_cons, List.map_nil, Act.eval]; rfl) | (simp [Act.eval]; trace_state; done)) ?_
      refine (HTC.out _ (HX1.out.same hSc)).mono ?_
      rintro e W3 ⟨rfl, hb3⟩
      have hSc := hSc.trans (Chg.of_below0 (S := fun _ => False) hb3) (S'' := fun _ => False) (fun _ _ h => h) (fun _ _ h => h)
      clear hb3
      refine ⟨_, rfl, hSc, ?_⟩
      simp only [Act.put, List.setIfInBounds_toArray, List.set_cons_zero, List.set_cons_succ]
      refine reg_take (i := 3) (v := ?g100v) rfl (by kernel_rfl) (by kernel_rfl) (by kernel_rfl) (by kernel_rfl) (fun _ _ _ h => h) (by rfl) ?g100y (by assumption) ?g100r
      case g100y => (intro W hS; first | (go_simp; done) | (go_simp; with_reducible rfl))
      simp only [Act.put, List.setIfInBounds_toArray, List.set_cons_zero, List.set_cons_succ]
      refine reg_take (i := 4) (v := ?g101v) rfl (by kernel_rfl) (by kernel_rfl) (by kernel_rfl) (by kernel_rfl) (fun _ _ _ h => h) (by rfl) ?g101y (by assumption) ?g101r
      case g101y => (intro W hS; first | (go_simp; done) | (go_simp; with_reducible rfl))
      simp only [Act.put, List.setIfInBounds_toArray, List.set_cons_zero, List.set_cons_succ]
      refine reg_take (i := 5) (v := ?g102v) rfl (by kernel_rfl) (by kernel_rfl) (by kernel_rfl) (by kernel_rfl) (fun _ _ _ h => h) (by rfl) ?g102y (by assumption) ?g102r
      case g102y => (intro W hS; have f0 := hS.cell hx20 (fun h => h); have f1 := hS.cell hx21 (fun h => h); have f2 := hS.cell hx22 (fun h => h); first | (go_simp; done) | (go_simp; with_reducible rfl))
      simp only [Act.put, List.setIfInBounds_toArray, List.set_cons_zero, List.set_cons_succ]
      refine reg_take (i := 6) (v := ?g103v) rfl (by kernel_rfl) (by kernel_rfl) (by kernel_rfl) (by kernel_rfl) (fun _ _ _ h => h) (by rfl) ?g103y (by assumption) ?g103r
      case g103y => (intro W hS; first | (go_simp; done) | (go_simp; with_reducible rfl))
      simp only [Act.put, List.setIfInBounds_toArray, List.set_cons_zero, List.set_cons_succ]
      refine reg_take (i := 7) (v := ?g104v) rfl (by kernel_rfl) (by kernel_rfl) (by kernel_rfl) (by kernel_rfl) (fun _ _ _ h => h) (by rfl) ?g104y (by assumption) ?g104r
      case g104y => (intro W hS; first | (go_simp; done) | (go_simp; with_reducible rfl))
      simp only [Act.put, List.setIfInBounds_toArray, List.set_cons_zero, List.set_cons_succ]
      refine reg_take (i := 8) (v := ?g105v) rfl (by kernel_rfl) (by kernel_rfl) (by kernel_rfl) (by kernel_rfl) (fun _ _ _ h => h) (by rfl) ?g105y (by assumption) ?g105r
      case g105y => (intro W hS; first | (go_simp; done) | (go_simp; with_reducible rfl))
      simp only [Act.put, List.setIfInBounds_toArray, List.set_cons_zero, List.set_cons_succ]
      refine reg_take (i := 9) (v := ?g106v) rfl (by kernel_rfl) (by kernel_rfl) (by kernel_rfl) (by kernel_rfl) (fun _ _ _ h => h) (by rfl) ?g106y (by assumption) ?g106r
      case g106y => (intro W hS; first | (go_simp; done) | (go_simp; with_reducible rfl))
      simp only [Act.put, List.setIfInBounds_toArray, List.set_cons_zero, List.set_cons_succ]
      refine reg_skip (i := 10) rfl (by kernel_rfl) (by kernel_rfl) (by kernel_rfl) (by kernel_rfl) (fun _ _ _ h => h) (by rfl) (by assumption) ?_
      simp only [Act.put, List.setIfInBounds_toArray, List.set_cons_zero, List.set_cons_succ]
      refine reg_skip (i := 11) rfl (by kernel_rfl) (by kernel_rfl) (by kernel_rfl) (by kernel_rfl) (fun _ _ _ h => h) (by rfl) (by assumption) ?_
      simp only [Act.put, List.setIfInBounds_toArray, List.set_cons_zero, List.set_cons_succ]
      refine reg_skip (i := 12) rfl (by kernel_rfl) (by kernel_rfl) (by kernel_rfl) (by kernel_rfl) (fun _ _ _ h => h) (by rfl) (by assumption) ?_
      simp only [Act.put, List.setIfInBounds_toArray, List.set_cons_zero, List.set_cons_succ]
      refine reg_skip (i := 13) rfl (by kernel_rfl) (by kernel_rfl) (by kernel_rfl) (by kernel_rfl) (fun _ _ _ h => h) (by rfl) (by assumption) ?_
      simp only [Act.put, List.setIfInBounds_toArray, List.set_cons_zero, List.set_cons_succ]
      refine reg_skip (i := 14) rfl (by kernel_rfl) (by kernel_rfl) (by kernel_rfl) (by kernel_rfl) (fun _ _ _ h => h) (by rfl) (by assumption) ?_
      simp only [Act.put, List.setIfInBounds_toArray, List.set_cons_zero, List.set_cons_succ]
      refine reg_skip (i := 15) rfl (by kernel_rfl) (by kernel_rfl) (by kernel_rfl) (by kernel_rfl) (fun _ _ _ h => h) (by rfl) (by assumption) ?_
      simp only [Act.put, List.setIfInBounds_toArray, List.set_cons_zero, List.set_cons_succ]
      refine reg_skip (i := 16) rfl (by kernel_rfl) (by kernel_rfl) (by kernel_rfl) (by kernel_rfl) (fun _ _ _ h => h) (by rfl) (by assumption) ?_
      simp only [Act.put, List.setIfInBounds_toArray, List.set_cons_zero, List.set_cons_succ]
      refine reg_skip (i := 17) rfl (by kernel_rfl) (by kernel_rfl) (by kernel_rfl) (by kernel_rfl) (fun _ _ _ h => h) (by rfl) (by assumption) ?_
      simp only [Act.put, List.setIfInBounds_toArray, List.set_cons_zero, List.set_cons_succ]
      refine reg_skip (i := 18) rfl (by kernel_rfl) (by kernel_rfl) (by kernel_rfl) (by kernel_rfl) (fun _ _ _ h => h) (by rfl) (by assumption) ?_
      simp only [Act.put, List.setIfInBounds_toArray, List.set_cons_zero, List.set_cons_succ]
      refine reg_skip (i := 19) rfl (by kernel_rfl) (by kernel_rfl) (by kernel_rfl) (by kernel_rfl) (fun _ _ _ h => h) (by rfl) (by assumption) ?_
      simp only [Act.put, List.setIfInBounds_toArray, List.set_cons_zero, List.set_cons_succ]
      refine reg_skip (i := 20) rfl (by kernel_rfl) (by kernel_rfl) (by kernel_rfl) (by kernel_rfl) (fun _ _ _ h => h) (by rfl) (by assumption) ?_
      simp only [Act.put, List.setIfInBounds_toArray, List.set_cons_zero, List.set_cons_succ]
      refine reg_skip (i := 21) rfl (by kernel_rfl) (by kernel_rfl) (by kernel_rfl) (by kernel_rfl) (fun _ _ _ h => h) (by rfl) (by assumption) ?_
      simp only [Act.put, List.setIfInBounds_toArray, List.set_cons_zero, List.set_cons_succ]
      refine reg_skip (i := 22) rfl (by kernel_rfl) (by kernel_rfl) (by kernel_rfl) (by kernel_rfl) (fun _ _ _ h => h) (by rfl) (by assumption) ?_
      simp only [Act.put, List.setIfInBounds_toArray, List.set_cons_zero, List.set_cons_succ]
      refine reg_skip (i := 23) rfl (by kernel_rfl) (by kernel_rfl) (by kernel_rfl) (by kernel_rfl) (fun _ _ _ h => h) (by rfl) (by assumption) ?_
      simp only [Act.put, List.setIfInBounds_toArray, List.set_cons_zero, List.set_cons_succ]
      refine reg_skip (i := 24) rfl (by kernel_rfl) (by kernel_rfl) (by kernel_rfl) (by kernel_rfl) (fun _ _ _ h => h) (by rfl) (by assumption) ?_
      simp only [Act.put, List.setIfInBounds_toArray, List.set_cons_zero, List.set_cons_succ]
      refine reg_take (i := 25) (v := ?g107v) rfl (by kernel_rfl) (by kernel_rfl) (by kernel_rfl) (by kernel_rfl) (fun _ _ _ h => h) (by rfl) ?g107y (by assumption) ?g107r
      case g107y => (intro W hS; first | (go_simp; done) | (go_simp; with_reducible rfl))
      simp only [Act.put, List.setIfInBounds_toArray, List.set_cons_zero, List.set_cons_succ]
      refine reg_take (i := 26) (v := ?g108v) rfl (by kernel_rfl) (by kernel_rfl) (by kernel_rfl) (by kernel_rfl) (fun _ _ _ h => h) (by rfl) ?g108y (by assumption) ?g108r
      case g108y => (intro W hS; first | (go_simp; done) | (go_simp; with_reducible rfl))
      simp only [Act.put, List.setIfInBounds_toArray, List.set_cons_zero, List.set_cons_succ]
      refine reg_skip (i := 27) rfl (by kernel_rfl) (by kernel_rfl) (by kernel_rfl) (by kernel_rfl) (fun _ _ _ h => h) (by rfl) (by assumption) ?_
      simp only [Act.put, List.setIfInBounds_toArray, List.set_cons_zero, List.set_cons_succ]
      refine reg_skip (i := 28) rfl (by kernel_rfl) (by kernel_rfl) (by kernel_rfl) (by kernel_rfl) (fun _ _ _ h => h) (by rfl) (by assumption) ?_
      simp only [Act.put, List.setIfInBounds_toArray, List.set_cons_zero, List.set_cons_succ]
      refine reg_skip (i := 29) rfl (by kernel_rfl) (by kernel_rfl) (by kernel_rfl) (by kernel_rfl) (fun _ _ _ h => h) (by rfl) (by assumption) ?_
      simp only [Act.put, List.setIfInBounds_toArray, List.set_cons_zero, List.set_cons_succ]
      refine reg_skip (i := 30) rfl (by kernel_rfl) (by kernel_rfl) (by kernel_rfl) (by kernel_rfl) (fun _ _ _ h => h) (by rfl) (by assumption) ?_
      simp only [Act.put, List.setIfInBounds_toArray, List.set_cons_zero, List.set_cons_succ]
      refine reg_take (i := 31) (v := ?g109v) rfl (by kernel_rfl) (by kernel_rfl) (by kernel_rfl) (by kernel_rfl) (fun _ _ _ h => h) (by rfl) ?g109y (by assumption) ?g109r
      case g109y => (intro W hS; first | (go_simp; done) | (go_simp; with_reducible rfl))
      simp only [Act.put, List.setIfInBounds_toArray, List.set_cons_zero, List.set_cons_succ]
      refine reg_take (i := 32) (v := ?g110v) rfl (by kernel_rfl) (by kernel_rfl) (by kernel_rfl) (by kernel_rfl) (fun _ _ _ h => h) (by rfl) ?g110y (by assumption) ?g110r
      case g110y => (intro W hS; first | (go_simp; done) | (go_simp; with_reducible rfl))
      simp only [Act.put, List.setIfInBounds_toArray, List.set_cons_zero, List.set_cons_succ]
      refine wpAnyG_done (by kernel_rfl) ?_ _
      have HB3 := hide (HB1.out.trans ((hSc.below (Nat.le_refl _) (fun _ _ h => h)).mono HB1.out.size))
      clear hS0 hSc
      go_wp2_with fail
      go_ret
      exact ⟨ret_bool HR.out.symm, HB3.out⟩
end Go.Proofs.YtjmmmpnpkialjaaDoor
