/- RecordJoins: records that are laid in two parts, one part behind the other, are laid as at one go; a byte that is none between them ends what is read. Conditions: none. -/
import Derived.Test.YtjmmmpnpkialjaaDoorRows
import Derived.Test.YtjmmmpnpkialjaaDoorTie
import Derived.Test.YtjmmmpnpkialjaaDoorCards
import Derived.Test.YtjmmmpnpkialjaaDoorCardB
import Derived.SevenTiedAt
import Derived.Test.YtjmmmpnpkialjaaDoorRcW
import Derived.Deep.CutRange
namespace Go.Proofs.YtjmmmpnpkialjaaDoor
open Go.ChangeShapes Go.WideShapes Go.ChangeAt Go.RowKit
open Go.ChangeMaps (open_string shut_string)
set_option linter.unusedVariables false
open Go.Shelf
attribute [local go_sem] Oper.semAt_some

set_option maxHeartbeats 4000000 in
set_option maxRecDepth 100000 in
theorem RecordJoins_walk {H : Type} {enc : TypeId × Value → H} (W : World) (hM : Mx W) (a0 : Option Addr) (n0 c0 : Nat) (hv : Readable enc Tryd.prog W 50 (Value.slice a0 n0 c0).cells.toList) (kx : Int) (hkx : (Lit.int .i64 kx).wf = true) :
    Calls Tryd.prog 9 #[.slice a0 n0 c0, .int .i64 kx] W fun e W' => e = .returned (.bool true) ∧ Below W.heap.size W W' := by
  obtain ⟨l, hl, hlm, -, hlx⟩ := records_of_readable hv rfl
  obtain ⟨a', c', e, -, -⟩ := hl.shape
  cases e
  have HL := hide hl
  have HM := hide hM
  have hgr := GreatRecords_ok W (.slice a0 l.length c0) l 8 hl hlm (by decide) (fun x hx => ⟨(hlx x hx).1, (hlx x hx).2.1⟩)
  obtain ⟨g, hg⟩ : ∃ g, g = greatR 8 l := ⟨_, rfl⟩
  rw [← hg] at hgr
  have HGR := hide hgr
  have HG := hide hg
  have HLX := hide hlx
  clear hv hl hlm hlx hM hkx hgr hg
  go_enter Tryd.func9, Tryd.ntmps9
  go_wp2_with fail
  refine HGR.out.mono ?_
  rintro e w1 ⟨rfl, hb1⟩
  have HB := hide hb1
  clear hb1 HGR
  cases g with
  | true =>
    go_wp2_with fail
    refine (awake18 _ (HM.out.below HB.out HM.out.pos)).mono ?_
    rintro e w3 ⟨rfl, hb3⟩
    replace HB := hide (HB.out.trans (hb3.mono HB.out.size))
    clear hb3
    go_wp2_with fail
    go_ret
    exact ⟨rfl, HB.out⟩
  | false =>
  obtain ⟨hl8, hsm⟩ := great_rc HG.out.symm
  have HX := hide (fun x hx => (⟨(HLX.out x hx).1, (great_small (hsm x hx)).1, (great_small (hsm x hx)).2.1⟩ : RcAt W x))
  clear hsm HG HLX
  go_wp2_with fail
  go_loopw [5] (fun iv wr => ∃ j : Nat, j ≤ l.length ∧ iv = .int .i64 j ∧ Hid (∀ x ∈ l.take j, mayRc x.rc = true) ∧ Hid (∀ (i : Nat) (h : i + 1 < l.length), i + 1 < j → l[i].at_ ≤ l[i + 1].at_) ∧ Hid (Below W.heap.size W wr)) (fun i _ => l.length - (intOf i).toNat)
  case atStart => exact ⟨0, Nat.zero_le _, rfl, fun x h => by simp at h, fun i h h5 => by omega, HB.out⟩
  case round =>
    clear HB
    obtain ⟨j, hj, rfl, HA, HRI, HB⟩ := hrel
    by_cases hlt : j < l.length
    · have d1 : decide ((j : Int) < (l.length : Int)) = true := decide_eq_true (by omega)
      have hrow := HL.out.chg (Chg.of_below0 (S := fun _ => False) HB.out) (fun _ _ _ h => h)
      obtain ⟨b, off, rfl, hcs⟩ := rd_at hrow (by omega)
      have hc := rc_cells _ _ _ _ hcs j hlt
      have hxr := HX.out l[j] (List.getElem_mem hlt)
      have hprev : 0 < j → ∃ hp : j - 1 < l.length, wr.cell? ⟨b, off + (j - 1) * 9, none⟩ = some (.int .i64 l[j - 1].at_) := fun h0 => ⟨by omega, by
        have h5 := rc_cells _ _ _ _ hcs (j - 1) (by omega) 0 _ (by decide) rfl
        rw [Nat.add_zero] at h5
        exact h5⟩
      obtain ⟨x, hxe⟩ : ∃ x, x = l[j] := ⟨_, rfl⟩
      rw [← hxe] at hc hxr
      have HXE := hide hxe
      obtain ⟨t, k, i, n, rl, p, ⟨⟨xps, xts, xn⟩, xp, xt⟩⟩ := x
      have hxp : Rd W xp xps.length (flat int_enc xps) := hxr.cm.ps
      have hxt : Rd W xt xts.length (flat fl_enc xts) := hxr.cm.ts
      obtain ⟨po, pc, rfl, -, -⟩ := hxp.shape
      obtain ⟨qo, qc, rfl, -, -⟩ := hxt.shape
      have c0 := hc 0 _ (by decide) rfl
      rw [Nat.add_zero] at c0
      have c1 := hc 1 _ (by decide) rfl
      have c2 := hc 2 _ (by decide) rfl
      have c3 := hc 3 _ (by decide) rfl
      have c4 := hc 4 _ (by decide) rfl
      have c5 := hc 5 _ (by decide) rfl
      have c6 := hc 6 _ (by decide) rfl
      have c7 := hc 7 _ (by decide) rfl
      have c8 := hc 8 _ (by decide) rfl
      have HXR := hide (hxr.same (Chg.of_below0 HB.out))
      have HMX := hide (HM.out.below HB.out HM.out.pos)
      have hxe2 : l[j].at_ = t := by rw [← hxe]
      obtain ⟨Z9, hZ9⟩ : ∃ Z, Z = layRcs (rcs [⟨t, k, i, n, rl, p, ⟨⟨xps, xts, xn⟩, .slice po xps.length pc, .slice qo xts.length qc⟩⟩]) := ⟨_, rfl⟩
      have HZ9 := hide hZ9
      have HPV := hide hprev
      have hwj : IntKind.i64.wrap ((j : Nat) : Int) = j := IntWalk.i64_in _ (by omega)
      have hji : (j : Int) < (l.length : Int) := by omega
      obtain ⟨bad, hbad⟩ : ∃ bad, bad = (!mayRc (RcV.rc ⟨t, k, i, n, rl, p, ⟨⟨xps, xts, xn⟩, .slice po xps.length pc, .slice qo xts.length qc⟩⟩) || (decide (0 < j) && decide (t < (l.getD (j - 1) ⟨0, qz 0 0 0 0 false⟩).at_))) := ⟨_, rfl⟩
      have HBAD := hide hbad
      clear hcs hc hxr hrow hprev hxe hxp hxt hZ9 hbad
      go_upto_region 6 with (fail)
      go_cut [48] from 23 to 48 (fun s wc => s = .bool bad ∧ Chg (fun _ => False) wr wc)
      case first =>
        cases hmy : mayRc (RcV.rc ⟨t, k, i, n, rl, p, ⟨⟨xps, xts, xn⟩, .slice po xps.length pc, .slice qo xts.length qc⟩⟩) with
        | false =>
          have hb1 : bad = true := by rw [HBAD.out, hmy]; rfl
          have hz0 : Z9.length = 0 := by rw [HZ9.out]; exact congrArg List.length (layRcs_one_no hmy)
          have hzz : ((Z9.length : Int) == 0) = true := by rw [beq_iff_eq]; omega
          have HB1 := hide hb1
          clear hb1 hz0 hmy
          refine reg_start (Chg (fun _ => False) wr) 26 26 (by rfl) (by kernel_rfl) (Chg.drew _ _) ?_
          intro hS0
          have hSc := hS0
          refine reg_take (i := 0) (v := ?g2v) rfl (by kernel_rfl) (by kernel_rfl) (by kernel_rfl) (by kernel_rfl) (fun _ _ _ h => h) (by rfl) ?g2y (by assumption) ?g2r
          case g2y => (intro W hS; first | (go_simp; done) | (go_simp; with_reducible rfl))
          simp only [Act.put, List.setIfInBounds_toArray, List.set_cons_zero, List.set_cons_succ]
          refine reg_take (i := 1) (v := ?g3v) rfl (by kernel_rfl) (by kernel_rfl) (by kernel_rfl) (by kernel_rfl) (fun _ _ _ h => h) (by rfl) ?g3y (by assumption) ?g3r
          case g3y => (intro W hS; first | (go_simp; done) | (go_simp; with_reducible rfl))
          simp only [Act.put, List.setIfInBounds_toArray, List.set_cons_zero, List.set_cons_succ]
          refine reg_take (i := 2) (v := ?g4v) rfl (by kernel_rfl) (by kernel_rfl) (by kernel_rfl) (by kernel_rfl) (fun _ _ _ h => h) (by rfl) ?g4y (by assumption) ?g4r
          case g4y => (intro W hS; first | (go_simp; done) | (go_simp; with_reducible rfl))
          simp only [Act.put, List.setIfInBounds_toArray, List.set_cons_zero, List.set_cons_succ]
          refine reg_take (i := 3) (v := ?g5v) rfl (by kernel_rfl) (by kernel_rfl) (by kernel_rfl) (by kernel_rfl) (fun _ _ _ h => h) (by rfl) ?g5y (by assumption) ?g5r
          case g5y => (intro W hS; have f0 := hS.cell c0 (fun h => h); have f1 := hS.cell c1 (fun h => h); have f2 := hS.cell c2 (fun h => h); have f3 := hS.cell c3 (fun h => h); have f4 := hS.cell c4 (fun h => h); have f5 := hS.cell c5 (fun h => h); have f6 := hS.cell c6 (fun h => h); have f7 := hS.cell c7 (fun h => h); have f8 := hS.cell c8 (fun h => h); first | (go_simp; done) | (go_simp; with_reducible rfl))
          simp only [Act.put, List.setIfInBounds_toArray, List.set_cons_zero, List.set_cons_succ]
          refine reg_one (i := 4) (by kernel_rfl) ?_
          refine op_val (i := 4) rfl (by rfl) (v := .slice (some ⟨wr.drew.heap.size, 0, none⟩) 1 1) (w' := wr.drew.alloc (.cells #[.int .i64 t, .int .i64 k, .int .i64 i, .int .i64 n, .int .i64 rl, .bool p, .slice po xps.length pc, .slice qo xts.length qc, .string xn] 54)) (by go_simp) ?_
          have hSc := hSc.trans (Chg.alloc (fun _ => False) wr.drew (.cells #[.int .i64 t, .int .i64 k, .int .i64 i, .int .i64 n, .int .i64 rl, .bool p, .slice po xps.length pc, .slice qo xts.length qc, .string xn] 54)) (S'' := fun _ => False) (fun _ _ h => h) (fun _ _ h => h)
          refine ⟨hSc, ?_⟩
          simp only [Act.put, List.setIfInBounds_toArray, List.set_cons_zero, List.set_cons_succ]
          refine reg_one (i := 5) (by kernel_rfl) ?_
          refine op_call (i := 5) (#[.slice (some ⟨wr.drew.heap.size, 0, none⟩) 1 1]) rfl (by rfl) (enters_of Tryd.func28 (by kernel_rfl) rfl) (by first | (simp [Act.eval]; done) | rfl | (simp only [List.map_toArray, List.map_cons, List.map_nil, Act.eval]; rfl) | (simp [Act.eval]; trace_state; done)) ?_
          refine (record_Lay _ _ [⟨t, k, i, n, rl, p, ⟨⟨xps, xts, xn⟩, .slice po xps.length pc, .slice qo xts.length qc⟩⟩] (Rd_lit wr.drew #[.int .i64 t, .int .i64 k, .int .i64 i, .int .i64 n, .int .i64 rl, .bool p, .slice po xps.length pc, .slice qo xts.length qc, .string xn] 54 1) (by simp) (fun y hy => by rw [List.mem_singleton.1 hy]; exact HXR.out.same hSc) (HMX.out.chg hSc (fun h => h))).mono ?_
          rintro e W6 ⟨hb6, ao6, cap6, rfl, -⟩
          have hSc := hSc.trans (Chg.of_below0 (S := fun _ => False) hb6) (S'' := fun _ => False) (fun _ _ h => h) (fun _ _ h => h)
          rw [show layRcs (rcs [⟨t, k, i, n, rl, p, ⟨⟨xps, xts, xn⟩, .slice po xps.length pc, .slice qo xts.length qc⟩⟩]) = Z9 from HZ9.out.symm]
          clear hb6
          refine ⟨_, rfl, hSc, ?_⟩
          simp only [Act.put, List.setIfInBounds_toArray, List.set_cons_zero, List.set_cons_succ]
          refine reg_take (i := 6) (v := ?g6v) rfl (by kernel_rfl) (by kernel_rfl) (by kernel_rfl) (by kernel_rfl) (fun _ _ _ h => h) (by rfl) ?g6y (by assumption) ?g6r
          case g6y => (intro W hS; first | (go_simp; done) | (go_simp; with_reducible rfl))
          simp only [Act.put, List.setIfInBounds_toArray, List.set_cons_zero, List.set_cons_succ]
          refine reg_take (i := 7) (v := ?g7v) rfl (by kernel_rfl) (by kernel_rfl) (by kernel_rfl) (by kernel_rfl) (fun _ _ _ h => h) (by rfl) ?g7y (by assumption) ?g7r
          case g7y => (intro W hS; first | (go_simp; done) | (go_simp; with_reducible rfl))
          simp only [Act.put, List.setIfInBounds_toArray, List.set_cons_zero, List.set_cons_succ]
          refine reg_take (i := 8) (v := ?g8v) rfl (by kernel_rfl) (by kernel_rfl) (by kernel_rfl) (by kernel_rfl) (fun _ _ _ h => h) (by rfl) ?g8y (by assumption) ?g8r
          case g8y => (intro W hS; first | (go_simp; done) | (go_simp; with_reducible rfl))
          simp only [Act.put, List.setIfInBounds_toArray, List.set_cons_zero, List.set_cons_succ]
          refine reg_skip (i := 9) rfl (by kernel_rfl) (by kernel_rfl) (by kernel_rfl) (by kernel_rfl) (fun _ _ _ h => h) (by rfl) (by assumption) ?_
          simp only [Act.put, List.setIfInBounds_toArray, List.set_cons_zero, List.set_cons_succ]
          refine reg_skip (i := 10) rfl (by kernel_rfl) (by kernel_rfl) (by kernel_rfl) (by kernel_rfl) (fun _ _ _ h => h) (by rfl) (by assumption) ?_
          simp only [Act.put, List.setIfInBounds_toArray, List.set_cons_zero, List.set_cons_succ]
          refine reg_skip (i := 11) rfl (by kernel_rfl) (by kernel_rfl) (by kernel_rfl) (by kernel_rfl) (fun _ _ _ h => h) (by rfl) (by assumption) ?_
          simp only [Act.put, List.setIfInBounds_toArray, List.set_cons_zero, List.set_cons_succ]
          refine reg_skip (i := 12) rfl (by kernel_rfl) (by kernel_rfl) (by kernel_rfl) (by kernel_rfl) (fun _ _ _ h => h) (by rfl) (by assumption) ?_
          simp only [Act.put, List.setIfInBounds_toArray, List.set_cons_zero, List.set_cons_succ]
          refine reg_skip (i := 13) rfl (by kernel_rfl) (by kernel_rfl) (by kernel_rfl) (by kernel_rfl) (fun _ _ _ h => h) (by rfl) (by assumption) ?_
          simp only [Act.put, List.setIfInBounds_toArray, List.set_cons_zero, List.set_cons_succ]
          refine reg_skip (i := 14) rfl (by kernel_rfl) (by kernel_rfl) (by kernel_rfl) (by kernel_rfl) (fun _ _ _ h => h) (by rfl) (by assumption) ?_
          simp only [Act.put, List.setIfInBounds_toArray, List.set_cons_zero, List.set_cons_succ]
          refine reg_skip (i := 15) rfl (by kernel_rfl) (by kernel_rfl) (by kernel_rfl) (by kernel_rfl) (fun _ _ _ h => h) (by rfl) (by assumption) ?_
          simp only [Act.put, List.setIfInBounds_toArray, List.set_cons_zero, List.set_cons_succ]
          refine reg_skip (i := 16) rfl (by kernel_rfl) (by kernel_rfl) (by kernel_rfl) (by kernel_rfl) (fun _ _ _ h => h) (by rfl) (by assumption) ?_
          simp only [Act.put, List.setIfInBounds_toArray, List.set_cons_zero, List.set_cons_succ]
          refine reg_skip (i := 17) rfl (by kernel_rfl) (by kernel_rfl) (by kernel_rfl) (by kernel_rfl) (fun _ _ _ h => h) (by rfl) (by assumption) ?_
          simp only [Act.put, List.setIfInBounds_toArray, List.set_cons_zero, List.set_cons_succ]
          refine reg_skip (i := 18) rfl (by kernel_rfl) (by kernel_rfl) (by kernel_rfl) (by kernel_rfl) (fun _ _ _ h => h) (by rfl) (by assumption) ?_
          simp only [Act.put, List.setIfInBounds_toArray, List.set_cons_zero, List.set_cons_succ]
          refine reg_skip (i := 19) rfl (by kernel_rfl) (by kernel_rfl) (by kernel_rfl) (by kernel_rfl) (fun _ _ _ h => h) (by rfl) (by assumption) ?_
          simp only [Act.put, List.setIfInBounds_toArray, List.set_cons_zero, List.set_cons_succ]
          refine reg_skip (i := 20) rfl (by kernel_rfl) (by kernel_rfl) (by kernel_rfl) (by kernel_rfl) (fun _ _ _ h => h) (by rfl) (by assumption) ?_
          simp only [Act.put, List.setIfInBounds_toArray, List.set_cons_zero, List.set_cons_succ]
          refine reg_skip (i := 21) rfl (by kernel_rfl) (by kernel_rfl) (by kernel_rfl) (by kernel_rfl) (fun _ _ _ h => h) (by rfl) (by assumption) ?_
          simp only [Act.put, List.setIfInBounds_toArray, List.set_cons_zero, List.set_cons_succ]
          refine reg_skip (i := 22) rfl (by kernel_rfl) (by kernel_rfl) (by kernel_rfl) (by kernel_rfl) (fun _ _ _ h => h) (by rfl) (by assumption) ?_
          simp only [Act.put, List.setIfInBounds_toArray, List.set_cons_zero, List.set_cons_succ]
          refine reg_skip (i := 23) rfl (by kernel_rfl) (by kernel_rfl) (by kernel_rfl) (by kernel_rfl) (fun _ _ _ h => h) (by rfl) (by assumption) ?_
          simp only [Act.put, List.setIfInBounds_toArray, List.set_cons_zero, List.set_cons_succ]
          refine reg_skip (i := 24) rfl (by kernel_rfl) (by kernel_rfl) (by kernel_rfl) (by kernel_rfl) (fun _ _ _ h => h) (by rfl) (by assumption) ?_
          simp only [Act.put, List.setIfInBounds_toArray, List.set_cons_zero, List.set_cons_succ]
          refine reg_take (i := 25) (v := ?g9v) rfl (by kernel_rfl) (by kernel_rfl) (by kernel_rfl) (by kernel_rfl) (fun _ _ _ h => h) (by rfl) ?g9y (by assumption) ?g9r
          case g9y => (intro W hS; first | (go_simp; done) | (go_simp; with_reducible rfl))
          simp only [Act.put, List.setIfInBounds_toArray, List.set_cons_zero, List.set_cons_succ]
          refine wpAnyG_done (by kernel_rfl) ?_ _
          go_wp2
          go_meet
          exact ⟨by rw [HB1.out], hSc⟩
        | true =>
          have hz0 : 56 ≤ Z9.length := by have h5 := layRcs_one_yes hmy; rw [HZ9.out]; show 56 ≤ (layRcs [RcV.rc ⟨t, k, i, n, rl, p, ⟨⟨xps, xts, xn⟩, .slice po xps.length pc, .slice qo xts.length qc⟩⟩]).length; rw [h5.1]; exact h5.2
          have hzz : ((Z9.length : Int) == 0) = false := by rw [beq_eq_false_iff_ne]; omega
          by_cases hj0 : 0 < j
          · obtain ⟨hp, hpc⟩ := HPV.out hj0
            have e0 : decide ((j : Int) > 0) = true := decide_eq_true (by omega)
            have e1 : (j : Int) - 1 = ((j - 1 : Nat) : Int) := by omega
            have e2 : IntKind.i64.wrap ((j : Int) - 1) = ((j - 1 : Nat) : Int) := by rw [e1]; exact IntWalk.i64_in _ (by omega)
            have e3 : ((j - 1 : Nat) : Int) < (l.length : Int) := by omega
            have hb1 : bad = decide (t < l[j - 1].at_) := by rw [HBAD.out, hmy, decide_eq_true hj0]; simp [List.getElem?_eq_getElem hp]
            have HB1 := hide hb1
            generalize l[j - 1].at_ = tp at hpc HB1
            have e5 : decide (0 < j) = true := decide_eq_true hj0
            clear hb1 hz0 hmy e1
            have e4 : (0 : Int) ≤ ((j - 1 : Nat) : Int) := by omega
            refine reg_start (Chg (fun _ => False) wr) 26 26 (by rfl) (by kernel_rfl) (Chg.drew _ _) ?_
            intro hS0
            have hSc := hS0
            refine reg_take (i := 0) (v := ?g11v) rfl (by kernel_rfl) (by kernel_rfl) (by kernel_rfl) (by kernel_rfl) (fun _ _ _ h => h) (by rfl) ?g11y (by assumption) ?g11r
            case g11y => (intro W hS; first | (go_simp; done) | (go_simp; with_reducible rfl))
            simp only [Act.put, List.setIfInBounds_toArray, List.set_cons_zero, List.set_cons_succ]
            refine reg_take (i := 1) (v := ?g12v) rfl (by kernel_rfl) (by kernel_rfl) (by kernel_rfl) (by kernel_rfl) (fun _ _ _ h => h) (by rfl) ?g12y (by assumption) ?g12r
            case g12y => (intro W hS; first | (go_simp; done) | (go_simp; with_reducible rfl))
            simp only [Act.put, List.setIfInBounds_toArray, List.set_cons_zero, List.set_cons_succ]
            refine reg_take (i := 2) (v := ?g13v) rfl (by kernel_rfl) (by kernel_rfl) (by kernel_rfl) (by kernel_rfl) (fun _ _ _ h => h) (by rfl) ?g13y (by assumption) ?g13r
            case g13y => (intro W hS; first | (go_simp; done) | (go_simp; with_reducible rfl))
            simp only [Act.put, List.setIfInBounds_toArray, List.set_cons_zero, List.set_cons_succ]
            refine reg_take (i := 3) (v := ?g14v) rfl (by kernel_rfl) (by kernel_rfl) (by kernel_rfl) (by kernel_rfl) (fun _ _ _ h => h) (by rfl) ?g14y (by assumption) ?g14r
            case g14y => (intro W hS; have f0 := hS.cell c0 (fun h => h); have f1 := hS.cell c1 (fun h => h); have f2 := hS.cell c2 (fun h => h); have f3 := hS.cell c3 (fun h => h); have f4 := hS.cell c4 (fun h => h); have f5 := hS.cell c5 (fun h => h); have f6 := hS.cell c6 (fun h => h); have f7 := hS.cell c7 (fun h => h); have f8 := hS.cell c8 (fun h => h); have f9 := hS.cell hpc (fun h => h); first | (go_simp; done) | (go_simp; with_reducible rfl))
            simp only [Act.put, List.setIfInBounds_toArray, List.set_cons_zero, List.set_cons_succ]
            refine reg_one (i := 4) (by kernel_rfl) ?_
            refine op_val (i := 4) rfl (by rfl) (v := .slice (some ⟨wr.drew.heap.size, 0, none⟩) 1 1) (w' := wr.drew.alloc (.cells #[.int .i64 t, .int .i64 k, .int .i64 i, .int .i64 n, .int .i64 rl, .bool p, .slice po xps.length pc, .slice qo xts.length qc, .string xn] 54)) (by go_simp) ?_
            have hSc := hSc.trans (Chg.alloc (fun _ => False) wr.drew (.cells #[.int .i64 t, .int .i64 k, .int .i64 i, .int .i64 n, .int .i64 rl, .bool p, .slice po xps.length pc, .slice qo xts.length qc, .string xn] 54)) (S'' := fun _ => False) (fun _ _ h => h) (fun _ _ h => h)
            refine ⟨hSc, ?_⟩
            simp only [Act.put, List.setIfInBounds_toArray, List.set_cons_zero, List.set_cons_succ]
            refine reg_one (i := 5) (by kernel_rfl) ?_
            refine op_call (i := 5) (#[.slice (some ⟨wr.drew.heap.size, 0, none⟩) 1 1]) rfl (by rfl) (enters_of Tryd.func28 (by kernel_rfl) rfl) (by first | (simp [Act.eval]; done) | rfl | (simp only [List.map_toArray, List.map_cons, List.map_nil, Act.eval]; rfl) | (simp [Act.eval]; trace_state; done)) ?_
            refine (record_Lay _ _ [⟨t, k, i, n, rl, p, ⟨⟨xps, xts, xn⟩, .slice po xps.length pc, .slice qo xts.length qc⟩⟩] (Rd_lit wr.drew #[.int .i64 t, .int .i64 k, .int .i64 i, .int .i64 n, .int .i64 rl, .bool p, .slice po xps.length pc, .slice qo xts.length qc, .string xn] 54 1) (by simp) (fun y hy => by rw [List.mem_singleton.1 hy]; exact HXR.out.same hSc) (HMX.out.chg hSc (fun h => h))).mono ?_
            rintro e W6 ⟨hb6, ao6, cap6, rfl, -⟩
            have hSc := hSc.trans (Chg.of_below0 (S := fun _ => False) hb6) (S'' := fun _ => False) (fun _ _ h => h) (fun _ _ h => h)
            rw [show layRcs (rcs [⟨t, k, i, n, rl, p, ⟨⟨xps, xts, xn⟩, .slice po xps.length pc, .slice qo xts.length qc⟩⟩]) = Z9 from HZ9.out.symm]
            clear hb6
            refine ⟨_, rfl, hSc, ?_⟩
            simp only [Act.put, List.setIfInBounds_toArray, List.set_cons_zero, List.set_cons_succ]
            refine reg_take (i := 6) (v := ?g15v) rfl (by kernel_rfl) (by kernel_rfl) (by kernel_rfl) (by kernel_rfl) (fun _ _ _ h => h) (by rfl) ?g15y (by assumption) ?g15r
            case g15y => (intro W hS; first | (go_simp; done) | (go_simp; with_reducible rfl))
            simp only [Act.put, List.setIfInBounds_toArray, List.set_cons_zero, List.set_cons_succ]
            refine reg_take (i := 7) (v := ?g16v) rfl (by kernel_rfl) (by kernel_rfl) (by kernel_rfl) (by kernel_rfl) (fun _ _ _ h => h) (by rfl) ?g16y (by assumption) ?g16r
            case g16y => (intro W hS; first | (go_simp; done) | (go_simp; with_reducible rfl))
            simp only [Act.put, List.setIfInBounds_toArray, List.set_cons_zero, List.set_cons_succ]
            refine reg_take (i := 8) (v := ?g17v) rfl (by kernel_rfl) (by kernel_rfl) (by kernel_rfl) (by kernel_rfl) (fun _ _ _ h => h) (by rfl) ?g17y (by assumption) ?g17r
            case g17y => (intro W hS; first | (go_simp; done) | (go_simp; with_reducible rfl))
            simp only [Act.put, List.setIfInBounds_toArray, List.set_cons_zero, List.set_cons_succ]
            refine reg_take (i := 9) (v := ?g18v) rfl (by kernel_rfl) (by kernel_rfl) (by kernel_rfl) (by kernel_rfl) (fun _ _ _ h => h) (by rfl) ?g18y (by assumption) ?g18r
            case g18y => (intro W hS; first | (go_simp; done) | (go_simp; with_reducible rfl))
            simp only [Act.put, List.setIfInBounds_toArray, List.set_cons_zero, List.set_cons_succ]
            refine reg_take (i := 10) (v := ?g19v) rfl (by kernel_rfl) (by kernel_rfl) (by kernel_rfl) (by kernel_rfl) (fun _ _ _ h => h) (by rfl) ?g19y (by assumption) ?g19r
            case g19y => (intro W hS; first | (go_simp; done) | (go_simp; with_reducible rfl))
            simp only [Act.put, List.setIfInBounds_toArray, List.set_cons_zero, List.set_cons_succ]
            refine reg_take (i := 11) (v := ?g20v) rfl (by kernel_rfl) (by kernel_rfl) (by kernel_rfl) (by kernel_rfl) (fun _ _ _ h => h) (by rfl) ?g20y (by assumption) ?g20r
            case g20y => (intro W hS; first | (go_simp; done) | (go_simp; with_reducible rfl))
            simp only [Act.put, List.setIfInBounds_toArray, List.set_cons_zero, List.set_cons_succ]
            refine reg_take (i := 12) (v := ?g21v) rfl (by kernel_rfl) (by kernel_rfl) (by kernel_rfl) (by kernel_rfl) (fun _ _ _ h => h) (by rfl) ?g21y (by assumption) ?g21r
            case g21y => (intro W hS; first | (go_simp; done) | (go_simp; with_reducible rfl))
            simp only [Act.put, List.setIfInBounds_toArray, List.set_cons_zero, List.set_cons_succ]
            refine reg_take (i := 13) (v := ?g22v) rfl (by kernel_rfl) (by kernel_rfl) (by kernel_rfl) (by kernel_rfl) (fun _ _ _ h => h) (by rfl) ?g22y (by assumption) ?g22r
            case g22y => (intro W hS; first | (go_simp; done) | (go_simp; with_reducible rfl))
            simp only [Act.put, List.setIfInBounds_toArray, List.set_cons_zero, List.set_cons_succ]
            refine reg_take (i := 14) (v := ?g23v) rfl (by kernel_rfl) (by kernel_rfl) (by kernel_rfl) (by kernel_rfl) (fun _ _ _ h => h) (by rfl) ?g23y (by assumption) ?g23r
            case g23y => (intro W hS; first | (go_simp; done) | (go_simp; with_reducible rfl))
            simp only [Act.put, List.setIfInBounds_toArray, List.set_cons_zero, List.set_cons_succ]
            refine reg_take (i := 15) (v := ?g24v) rfl (by kernel_rfl) (by kernel_rfl) (by kernel_rfl) (by kernel_rfl) (fun _ _ _ h => h) (by rfl) ?g24y (by assumption) ?g24r
            case g24y => (intro W hS; first | (go_simp; done) | (go_simp; with_reducible rfl))
            simp only [Act.put, List.setIfInBounds_toArray, List.set_cons_zero, List.set_cons_succ]
            refine reg_take (i := 16) (v := ?g25v) rfl (by kernel_rfl) (by kernel_rfl) (by kernel_rfl) (by kernel_rfl) (fun _ _ _ h => h) (by rfl) ?g25y (by assumption) ?g25r
            case g25y => (intro W hS; have f0 := hS.cell c0 (fun h => h); have f1 := hS.cell c1 (fun h => h); have f2 := hS.cell c2 (fun h => h); have f3 := hS.cell c3 (fun h => h); have f4 := hS.cell c4 (fun h => h); have f5 := hS.cell c5 (fun h => h); have f6 := hS.cell c6 (fun h => h); have f7 := hS.cell c7 (fun h => h); have f8 := hS.cell c8 (fun h => h); have f9 := hS.cell hpc (fun h => h); first | (go_simp; done) | (go_simp; with_reducible rfl))
            simp only [Act.put, List.setIfInBounds_toArray, List.set_cons_zero, List.set_cons_succ]
            refine reg_take (i := 17) (v := ?g26v) rfl (by kernel_rfl) (by kernel_rfl) (by kernel_rfl) (by kernel_rfl) (fun _ _ _ h => h) (by rfl) ?g26y (by assumption) ?g26r
            case g26y => (intro W hS; first | (go_simp; done) | (go_simp; with_reducible rfl))
            simp only [Act.put, List.setIfInBounds_toArray, List.set_cons_zero, List.set_cons_succ]
            refine reg_take (i := 18) (v := ?g27v) rfl (by kernel_rfl) (by kernel_rfl) (by kernel_rfl) (by kernel_rfl) (fun _ _ _ h => h) (by rfl) ?g27y (by assumption) ?g27r
            case g27y => (intro W hS; first | (go_simp; done) | (go_simp; with_reducible rfl))
            simp only [Act.put, List.setIfInBounds_toArray, List.set_cons_zero, List.set_cons_succ]
            refine reg_take (i := 19) (v := ?g28v) rfl (by kernel_rfl) (by kernel_rfl) (by kernel_rfl) (by kernel_rfl) (fun _ _ _ h => h) (by rfl) ?g28y (by assumption) ?g28r
            case g28y => (intro W hS; first | (go_simp; done) | (go_simp; with_reducible rfl))
            simp only [Act.put, List.setIfInBounds_toArray, List.set_cons_zero, List.set_cons_succ]
            refine reg_take (i := 20) (v := ?g29v) rfl (by kernel_rfl) (by kernel_rfl) (by kernel_rfl) (by kernel_rfl) (fun _ _ _ h => h) (by rfl) ?g29y (by assumption) ?g29r
            case g29y => (intro W hS; first | (go_simp; done) | (go_simp; with_reducible rfl))
            simp only [Act.put, List.setIfInBounds_toArray, List.set_cons_zero, List.set_cons_succ]
            refine reg_take (i := 21) (v := ?g30v) rfl (by kernel_rfl) (by kernel_rfl) (by kernel_rfl) (by kernel_rfl) (fun _ _ _ h => h) (by rfl) ?g30y (by assumption) ?g30r
            case g30y => (intro W hS; first | (go_simp; done) | (go_simp; with_reducible rfl))
            simp only [Act.put, List.setIfInBounds_toArray, List.set_cons_zero, List.set_cons_succ]
            refine reg_take (i := 22) (v := ?g31v) rfl (by kernel_rfl) (by kernel_rfl) (by kernel_rfl) (by kernel_rfl) (fun _ _ _ h => h) (by rfl) ?g31y (by assumption) ?g31r
            case g31y => (intro W hS; have f0 := hS.cell c0 (fun h => h); have f1 := hS.cell c1 (fun h => h); have f2 := hS.cell c2 (fun h => h); have f3 := hS.cell c3 (fun h => h); have f4 := hS.cell c4 (fun h => h); have f5 := hS.cell c5 (fun h => h); have f6 := hS.cell c6 (fun h => h); have f7 := hS.cell c7 (fun h => h); have f8 := hS.cell c8 (fun h => h); have f9 := hS.cell hpc (fun h => h); first | (go_simp; done) | (go_simp; with_reducible rfl))
            simp only [Act.put, List.setIfInBounds_toArray, List.set_cons_zero, List.set_cons_succ]
            refine reg_take (i := 23) (v := ?g32v) rfl (by kernel_rfl) (by kernel_rfl) (by kernel_rfl) (by kernel_rfl) (fun _ _ _ h => h) (by rfl) ?g32y (by assumption) ?g32r
            case g32y => (intro W hS; first | (go_simp; done) | (go_simp; with_reducible rfl))
            simp only [Act.put, List.setIfInBounds_toArray, List.set_cons_zero, List.set_cons_succ]
            refine reg_take (i := 24) (v := ?g33v) rfl (by kernel_rfl) (by kernel_rfl) (by kernel_rfl) (by kernel_rfl) (fun _ _ _ h => h) (by rfl) ?g33y (by assumption) ?g33r
            case g33y => (intro W hS; first | (go_simp; done) | (go_simp; with_reducible rfl))
            simp only [Act.put, List.setIfInBounds_toArray, List.set_cons_zero, List.set_cons_succ]
            refine reg_take (i := 25) (v := ?g34v) rfl (by kernel_rfl) (by kernel_rfl) (by kernel_rfl) (by kernel_rfl) (fun _ _ _ h => h) (by rfl) ?g34y (by assumption) ?g34r
            case g34y => (intro W hS; first | (go_simp; done) | (go_simp; with_reducible rfl))
            simp only [Act.put, List.setIfInBounds_toArray, List.set_cons_zero, List.set_cons_succ]
            refine wpAnyG_done (by kernel_rfl) ?_ _
            go_wp2
            go_meet
            exact ⟨by rw [HB1.out], hSc⟩
          · obtain rfl : j = 0 := by omega
            have hb1 : bad = false := by rw [HBAD.out, hmy]; rfl
            have HB1 := hide hb1
            simp only [Nat.zero_mul, Nat.add_zero] at c0 c1 c2 c3 c4 c5 c6 c7 c8
            clear hb1 hz0 hmy hj0
            refine reg_start (Chg (fun _ => False) wr) 26 26 (by rfl) (by kernel_rfl) (Chg.drew _ _) ?_
            intro hS0
            have hSc := hS0
            refine reg_take (i := 0) (v := ?g36v) rfl (by kernel_rfl) (by kernel_rfl) (by kernel_rfl) (by kernel_rfl) (fun _ _ _ h => h) (by rfl) ?g36y (by assumption) ?g36r
            case g36y => (intro W hS; first | (go_simp; done) | (go_simp; with_reducible rfl))
            simp only [Act.put, List.setIfInBounds_toArray, List.set_cons_zero, List.set_cons_succ]
            refine reg_take (i := 1) (v := ?g37v) rfl (by kernel_rfl) (by kernel_rfl) (by kernel_rfl) (by kernel_rfl) (fun _ _ _ h => h) (by rfl) ?g37y (by assumption) ?g37r
            case g37y => (intro W hS; first | (go_simp; done) | (go_simp; with_reducible rfl))
            simp only [Act.put, List.setIfInBounds_toArray, List.set_cons_zero, List.set_cons_succ]
            refine reg_take (i := 2) (v := ?g38v) rfl (by kernel_rfl) (by kernel_rfl) (by kernel_rfl) (by kernel_rfl) (fun _ _ _ h => h) (by rfl) ?g38y (by assumption) ?g38r
            case g38y => (intro W hS; first | (go_simp; done) | (go_simp; with_reducible rfl))
            simp only [Act.put, List.setIfInBounds_toArray, List.set_cons_zero, List.set_cons_succ]
            refine reg_take (i := 3) (v := ?g39v) rfl (by kernel_rfl) (by kernel_rfl) (by kernel_rfl) (by kernel_rfl) (fun _ _ _ h => h) (by rfl) ?g39y (by assumption) ?g39r
            case g39y => (intro W hS; have f0 := hS.cell c0 (fun h => h); have f1 := hS.cell c1 (fun h => h); have f2 := hS.cell c2 (fun h => h); have f3 := hS.cell c3 (fun h => h); have f4 := hS.cell c4 (fun h => h); have f5 := hS.cell c5 (fun h => h); have f6 := hS.cell c6 (fun h => h); have f7 := hS.cell c7 (fun h => h); have f8 := hS.cell c8 (fun h => h); first | (go_simp; done) | (go_simp; with_reducible rfl))
            simp only [Act.put, List.setIfInBounds_toArray, List.set_cons_zero, List.set_cons_succ]
            refine reg_one (i := 4) (by kernel_rfl) ?_
            refine op_val (i := 4) rfl (by rfl) (v := .slice (some ⟨wr.drew.heap.size, 0, none⟩) 1 1) (w' := wr.drew.alloc (.cells #[.int .i64 t, .int .i64 k, .int .i64 i, .int .i64 n, .int .i64 rl, .bool p, .slice po xps.length pc, .slice qo xts.length qc, .string xn] 54)) (by go_simp) ?_
            have hSc := hSc.trans (Chg.alloc (fun _ => False) wr.drew (.cells #[.int .i64 t, .int .i64 k, .int .i64 i, .int .i64 n, .int .i64 rl, .bool p, .slice po xps.length pc, .slice qo xts.length qc, .string xn] 54)) (S'' := fun _ => False) (fun _ _ h => h) (fun _ _ h => h)
            refine ⟨hSc, ?_⟩
            simp only [Act.put, List.setIfInBounds_toArray, List.set_cons_zero, List.set_cons_succ]
            refine reg_one (i := 5) (by kernel_rfl) ?_
            refine op_call (i := 5) (#[.slice (some ⟨wr.drew.heap.size, 0, none⟩) 1 1]) rfl (by rfl) (enters_of Tryd.func28 (by kernel_rfl) rfl) (by first | (simp [Act.eval]; done) | rfl | (simp only [List.map_toArray, List.map_cons, List.map_nil, Act.eval]; rfl) | (simp [Act.eval]; trace_state; done)) ?_
            refine (record_Lay _ _ [⟨t, k, i, n, rl, p, ⟨⟨xps, xts, xn⟩, .slice po xps.length pc, .slice qo xts.length qc⟩⟩] (Rd_lit wr.drew #[.int .i64 t, .int .i64 k, .int .i64 i, .int .i64 n, .int .i64 rl, .bool p, .slice po xps.length pc, .slice qo xts.length qc, .string xn] 54 1) (by simp) (fun y hy => by rw [List.mem_singleton.1 hy]; exact HXR.out.same hSc) (HMX.out.chg hSc (fun h => h))).mono ?_
            rintro e W6 ⟨hb6, ao6, cap6, rfl, -⟩
            have hSc := hSc.trans (Chg.of_below0 (S := fun _ => False) hb6) (S'' := fun _ => False) (fun _ _ h => h) (fun _ _ h => h)
            rw [show layRcs (rcs [⟨t, k, i, n, rl, p, ⟨⟨xps, xts, xn⟩, .slice po xps.length pc, .slice qo xts.length qc⟩⟩]) = Z9 from HZ9.out.symm]
            clear hb6
            refine ⟨_, rfl, hSc, ?_⟩
            simp only [Act.put, List.setIfInBounds_toArray, List.set_cons_zero, List.set_cons_succ]
            refine reg_take (i := 6) (v := ?g40v) rfl (by kernel_rfl) (by kernel_rfl) (by kernel_rfl) (by kernel_rfl) (fun _ _ _ h => h) (by rfl) ?g40y (by assumption) ?g40r
            case g40y => (intro W hS; first | (go_simp; done) | (go_simp; with_reducible rfl))
            simp only [Act.put, List.setIfInBounds_toArray, List.set_cons_zero, List.set_cons_succ]
            refine reg_take (i := 7) (v := ?g41v) rfl (by kernel_rfl) (by kernel_rfl) (by kernel_rfl) (by kernel_rfl) (fun _ _ _ h => h) (by rfl) ?g41y (by assumption) ?g41r
            case g41y => (intro W hS; first | (go_simp; done) | (go_simp; with_reducible rfl))
            simp only [Act.put, List.setIfInBounds_toArray, List.set_cons_zero, List.set_cons_succ]
            refine reg_take (i := 8) (v := ?g42v) rfl (by kernel_rfl) (by kernel_rfl) (by kernel_rfl) (by kernel_rfl) (fun _ _ _ h => h) (by rfl) ?g42y (by assumption) ?g42r
            case g42y => (intro W hS; first | (go_simp; done) | (go_simp; with_reducible rfl))
            simp only [Act.put, List.setIfInBounds_toArray, List.set_cons_zero, List.set_cons_succ]
            refine reg_take (i := 9) (v := ?g43v) rfl (by kernel_rfl) (by kernel_rfl) (by kernel_rfl) (by kernel_rfl) (fun _ _ _ h => h) (by rfl) ?g43y (by assumption) ?g43r
            case g43y => (intro W hS; first | (go_simp; done) | (go_simp; with_reducible rfl))
            simp only [Act.put, List.setIfInBounds_toArray, List.set_cons_zero, List.set_cons_succ]
            refine reg_take (i := 10) (v := ?g44v) rfl (by kernel_rfl) (by kernel_rfl) (by kernel_rfl) (by kernel_rfl) (fun _ _ _ h => h) (by rfl) ?g44y (by assumption) ?g44r
            case g44y => (intro W hS; first | (go_simp; done) | (go_simp; with_reducible rfl))
            simp only [Act.put, List.setIfInBounds_toArray, List.set_cons_zero, List.set_cons_succ]
            refine reg_take (i := 11) (v := ?g45v) rfl (by kernel_rfl) (by kernel_rfl) (by kernel_rfl) (by kernel_rfl) (fun _ _ _ h => h) (by rfl) ?g45y (by assumption) ?g45r
            case g45y => (intro W hS; first | (go_simp; done) | (go_simp; with_reducible rfl))
            simp only [Act.put, List.setIfInBounds_toArray, List.set_cons_zero, List.set_cons_succ]
            refine reg_skip (i := 12) rfl (by kernel_rfl) (by kernel_rfl) (by kernel_rfl) (by kernel_rfl) (fun _ _ _ h => h) (by rfl) (by assumption) ?_
            simp only [Act.put, List.setIfInBounds_toArray, List.set_cons_zero, List.set_cons_succ]
            refine reg_skip (i := 13) rfl (by kernel_rfl) (by kernel_rfl) (by kernel_rfl) (by kernel_rfl) (fun _ _ _ h => h) (by rfl) (by assumption) ?_
            simp only [Act.put, List.setIfInBounds_toArray, List.set_cons_zero, List.set_cons_succ]
            refine reg_skip (i := 14) rfl (by kernel_rfl) (by kernel_rfl) (by kernel_rfl) (by kernel_rfl) (fun _ _ _ h => h) (by rfl) (by assumption) ?_
            simp only [Act.put, List.setIfInBounds_toArray, List.set_cons_zero, List.set_cons_succ]
            refine reg_skip (i := 15) rfl (by kernel_rfl) (by kernel_rfl) (by kernel_rfl) (by kernel_rfl) (fun _ _ _ h => h) (by rfl) (by assumption) ?_
            simp only [Act.put, List.setIfInBounds_toArray, List.set_cons_zero, List.set_cons_succ]
            refine reg_skip (i := 16) rfl (by kernel_rfl) (by kernel_rfl) (by kernel_rfl) (by kernel_rfl) (fun _ _ _ h => h) (by rfl) (by assumption) ?_
            simp only [Act.put, List.setIfInBounds_toArray, List.set_cons_zero, List.set_cons_succ]
            refine reg_skip (i := 17) rfl (by kernel_rfl) (by kernel_rfl) (by kernel_rfl) (by kernel_rfl) (fun _ _ _ h => h) (by rfl) (by assumption) ?_
            simp only [Act.put, List.setIfInBounds_toArray, List.set_cons_zero, List.set_cons_succ]
            refine reg_skip (i := 18) rfl (by kernel_rfl) (by kernel_rfl) (by kernel_rfl) (by kernel_rfl) (fun _ _ _ h => h) (by rfl) (by assumption) ?_
            simp only [Act.put, List.setIfInBounds_toArray, List.set_cons_zero, List.set_cons_succ]
            refine reg_skip (i := 19) rfl (by kernel_rfl) (by kernel_rfl) (by kernel_rfl) (by kernel_rfl) (fun _ _ _ h => h) (by rfl) (by assumption) ?_
            simp only [Act.put, List.setIfInBounds_toArray, List.set_cons_zero, List.set_cons_succ]
            refine reg_skip (i := 20) rfl (by kernel_rfl) (by kernel_rfl) (by kernel_rfl) (by kernel_rfl) (fun _ _ _ h => h) (by rfl) (by assumption) ?_
            simp only [Act.put, List.setIfInBounds_toArray, List.set_cons_zero, List.set_cons_succ]
            refine reg_skip (i := 21) rfl (by kernel_rfl) (by kernel_rfl) (by kernel_rfl) (by kernel_rfl) (fun _ _ _ h => h) (by rfl) (by assumption) ?_
            simp only [Act.put, List.setIfInBounds_toArray, List.set_cons_zero, List.set_cons_succ]
            refine reg_skip (i := 22) rfl (by kernel_rfl) (by kernel_rfl) (by kernel_rfl) (by kernel_rfl) (fun _ _ _ h => h) (by rfl) (by assumption) ?_
            simp only [Act.put, List.setIfInBounds_toArray, List.set_cons_zero, List.set_cons_succ]
            refine reg_skip (i := 23) rfl (by kernel_rfl) (by kernel_rfl) (by kernel_rfl) (by kernel_rfl) (fun _ _ _ h => h) (by rfl) (by assumption) ?_
            simp only [Act.put, List.setIfInBounds_toArray, List.set_cons_zero, List.set_cons_succ]
            refine reg_take (i := 24) (v := ?g46v) rfl (by kernel_rfl) (by kernel_rfl) (by kernel_rfl) (by kernel_rfl) (fun _ _ _ h => h) (by rfl) ?g46y (by assumption) ?g46r
            case g46y => (intro W hS; first | (go_simp; done) | (go_simp; with_reducible rfl))
            simp only [Act.put, List.setIfInBounds_toArray, List.set_cons_zero, List.set_cons_succ]
            refine reg_take (i := 25) (v := ?g47v) rfl (by kernel_rfl) (by kernel_rfl) (by kernel_rfl) (by kernel_rfl) (fun _ _ _ h => h) (by rfl) ?g47y (by assumption) ?g47r
            case g47y => (intro W hS; first | (go_simp; done) | (go_simp; with_reducible rfl))
            simp only [Act.put, List.setIfInBounds_toArray, List.set_cons_zero, List.set_cons_succ]
            refine wpAnyG_done (by kernel_rfl) ?_ _
            go_wp2
            go_meet
            exact ⟨by rw [HB1.out], hSc⟩
      case rest =>
      obtain ⟨rfl, hwc⟩ := hcut
      have HB7 := hide (HB.out.trans (hwc.below (n := W.heap.size) HB.out.size (fun _ _ h => h)))
      clear hwc c0 c1 c2 c3 c4 c5 c6 c7 c8
      cases bad with
      | true =>
        go_wp2_with fail
        refine (awake18 _ (HM.out.below HB7.out HM.out.pos)).mono ?_
        rintro e w3 ⟨rfl, hb3⟩
        have HB8 := hide (HB7.out.trans (hb3.mono HB7.out.size))
        clear hb3
        go_wp2_with fail
        go_ret
        exact ⟨rfl, HB8.out⟩
      | false =>
        have hgood : mayRc (RcV.rc ⟨t, k, i, n, rl, p, ⟨⟨xps, xts, xn⟩, .slice po xps.length pc, .slice qo xts.length qc⟩⟩) = true ∧ (0 < j → (l.getD (j - 1) ⟨0, qz 0 0 0 0 false⟩).at_ ≤ t) := by
          have h5 := HBAD.out.symm
          simp only [Bool.or_eq_false_iff, Bool.not_eq_false', Bool.and_eq_false_iff, decide_eq_false_iff_not] at h5
          exact ⟨h5.1, fun h0 => by rcases h5.2 with h6 | h6 <;> omega⟩
        have HGOOD := hide hgood
        clear hgood
        go_wp2_with fail
        go_roundw
        case rel =>
          refine ⟨j + 1, by omega, by go_num, fun y hy => ?_, fun i' h' h5 => ?_, HB7.out⟩
          · rw [take_succ_get l j hlt] at hy
            rcases List.mem_append.1 hy with hy | hy
            · exact HA.out y hy
            · rw [List.mem_singleton.1 hy, ← HXE.out]; exact HGOOD.out.1
          · by_cases h6 : i' + 1 < j
            · exact HRI.out i' h' h6
            · obtain rfl : j = i' + 1 := by omega
              have h7 := HGOOD.out.2 (by omega)
              have h8 : (i' + 1) - 1 = i' := by omega
              rw [List.getD_eq_getElem?_getD, List.getElem?_eq_getElem (show i' + 1 - 1 < l.length by omega), Option.getD_some] at h7
              simp only [h8] at h7
              rw [hxe2]
              exact h7
        case measure => simp [intOf]; omega
    · obtain rfl : j = l.length := by omega
      have d1 : decide ((l.length : Int) < (l.length : Int)) = false := decide_eq_false (by omega)
      have hall : ∀ x ∈ rcs l, mayRc x = true := fun x hx => by
        obtain ⟨y, hy, rfl⟩ := List.mem_map.1 hx
        exact HA.out y (by rw [List.take_length]; exact hy)
      have hris : Rises 0 (rcs l) := by
        refine rises_of 0 (rcs l) (fun x hx => ?_) (fun i x y hx hy => ?_)
        · exact (mayRc_iff.1 (hall x (List.mem_of_getElem? hx))).2.1
        · simp only [rcs, List.getElem?_map] at hx hy
          obtain ⟨u, hu, rfl⟩ := Option.map_eq_some_iff.1 hx
          obtain ⟨v, hv, rfl⟩ := Option.map_eq_some_iff.1 hy
          obtain ⟨hu1, hu2⟩ := List.getElem?_eq_some_iff.1 hu
          obtain ⟨hv1, hv2⟩ := List.getElem?_eq_some_iff.1 hv
          have h5 := HRI.out i hv1 hv1
          rw [hu2, hv2] at h5
          exact h5
      have HALL := hide hall
      have HRIS := hide hris
      clear hall hris HA HRI
      go_wp2_with fail
      have hlow := Low_ok wr kx (l.length + 1) (by omega) (by omega)
      rw [show ((l.length + 1 : Nat) : Int) = (l.length : Int) + 1 from rfl] at hlow
      have hkk := low_lt kx (l.length + 1) (by omega)
      obtain ⟨kk, hke⟩ : ∃ kk, kk = low kx (l.length + 1) := ⟨_, rfl⟩
      rw [← hke] at hlow hkk
      have hkl : kk ≤ l.length := by omega
      refine hlow.mono ?_
      clear hke hkk hlow
      rintro e w2 ⟨rfl, rfl⟩
      have hrow := HL.out.chg (Chg.of_below0 (S := fun _ => False) HB.out) (fun _ _ _ h => h)
      have hflen : (flat rc_enc l).length = l.length * 9 := flat_length rc_len l
      have hup := Rd.upto hrow kk 9 hkl hflen
      rw [flat_take rc_len l kk hkl] at hup
      have hcap : l.length ≤ c0 := by obtain ⟨_, _, e, h5, -⟩ := hrow.shape; cases e; exact h5
      have hsu := fun Wx => slice_upto (P := Tryd.prog) rc_slT a0 l.length c0 kk (by omega) Wx
      obtain ⟨ad, cd, hsd, hdn, -⟩ := slice_from rc_slT hrow hflen kk hkl
      rw [flat_drop rc_len l kk hkl] at hdn
      have hlt1 : (l.take kk).length = kk := by rw [List.length_take]; omega
      have hlt2 : (l.drop kk).length = l.length - kk := by rw [List.length_drop]
      have HUP := hide hup
      have HDN := hide hdn
      have HLT1 := hide hlt1
      have HLT2 := hide hlt2
      have hX2 := fun x hx => (HX.out x hx).same (Chg.of_below0 (S := fun _ => False) HB.out |>.mono (fun _ _ h => h))
      have HX2 := hide (hX2 : ∀ x ∈ l, RcAt w2 x)
      have HMX := hide (HM.out.below HB.out HM.out.pos)
      obtain ⟨A, hA⟩ : ∃ A, A = ((rcs l).take kk).flatMap layRc := ⟨_, rfl⟩
      obtain ⟨Bb, hBb⟩ : ∃ Bb, Bb = ((rcs l).drop kk).flatMap layRc := ⟨_, rfl⟩
      have hLA : layRcs (rcs (l.take kk)) = A := by rw [rcs_take, hA]; exact layRcs_all (fun x hx => HALL.out x (List.mem_of_mem_take hx))
      have hLB : layRcs (rcs (l.drop kk)) = Bb := by rw [rcs_drop, hBb]; exact layRcs_all (fun x hx => HALL.out x (List.mem_of_mem_drop hx))
      have hLL : layRcs (rcs l) = A ++ Bb := by rw [layRcs_all HALL.out, hA, hBb, ← List.flatMap_append, List.take_append_drop]
      have hAl : A.length ≤ 500000 := by
        have h5 := flatRc_len ((rcs l).take kk) (fun x hx => HALL.out x (List.mem_of_mem_take hx))
        rw [← hA] at h5
        have h6 : ((rcs l).take kk).length ≤ 8 := by rw [List.length_take]; simp only [rcs, List.length_map]; omega
        omega
      have hBl : Bb.length ≤ 500000 := by
        have h5 := flatRc_len ((rcs l).drop kk) (fun x hx => HALL.out x (List.mem_of_mem_drop hx))
        rw [← hBb] at h5
        have h6 : ((rcs l).drop kk).length ≤ 8 := by rw [List.length_drop]; simp only [rcs, List.length_map]; omega
        omega
      have hmt : ∀ x ∈ (rcs l).take kk, mayRc x = true := fun x hx => HALL.out x (List.mem_of_mem_take hx)
      have hrlen : (rcs l).length ≤ 8 := by simp only [rcs, List.length_map]; omega
      have hR1 : rdRcs (A ++ Bb) = placed 0 (rcs l) := by
        rw [hA, hBb, ← List.flatMap_append, List.take_append_drop]
        exact rdRcs_all (rcs l) HALL.out HRIS.out (by omega)
      have hR2 : rdRcs (A ++ [255] ++ Bb) = placed 0 ((rcs l).take kk) := by
        rw [List.append_assoc, hA]
        exact rdRcs_laid ((rcs l).take kk) ([255] ++ Bb) hmt (HRIS.out.take kk) (by rw [List.length_take]; omega) (fun m => rdOne_255 _ _ m)
      have hE1 : endRc (placed 0 (rcs l)) = ((A.length + Bb.length : Nat) : Int) := by
        rw [endRc_placed, hA, hBb, ← List.length_append, ← List.flatMap_append, List.take_append_drop]
      have hE2 : endRc (placed 0 ((rcs l).take kk)) = (A.length : Int) := by rw [endRc_placed, hA]
      have HLA := hide hLA
      have HLB := hide hLB
      have HLL := hide hLL
      have HAL := hide hAl
      have HBL := hide hBl
      have HR1 := hide hR1
      have HR2 := hide hR2
      have HE1 := hide hE1
      have HE2 := hide hE2
      have hkc : (kk : Int) ≤ (l.length : Int) := by omega
      clear hup hdn hlt1 hlt2 hX2 hLA hLB hLL hAl hBl hmt hR1 hR2 hE1 hE2 hA hBb hrow hflen hrlen
      go_wp2_with fail
      refine reg_start (Chg (fun _ => False) w2) 10 10 (by rfl) (by kernel_rfl) (Chg.drew _ _) ?_
      intro hS0
      have hSc := hS0
      refine reg_take (i := 0) (v := ?g49v) rfl (by kernel_rfl) (by kernel_rfl) (by kernel_rfl) (by kernel_rfl) (fun _ _ _ h => h) (by rfl) ?g49y (by assumption) ?g49r
      case g49y => (intro W hS; first | (go_simp; done) | (go_simp; with_reducible rfl))
      simp only [Act.put, List.setIfInBounds_toArray, List.set_cons_zero, List.set_cons_succ]
      refine reg_take (i := 1) (v := ?g50v) rfl (by kernel_rfl) (by kernel_rfl) (by kernel_rfl) (by kernel_rfl) (fun _ _ _ h => h) (by rfl) ?g50y (by assumption) ?g50r
      case g50y => (intro W hS; first | (go_simp; done) | (go_simp; with_reducible rfl))
      simp only [Act.put, List.setIfInBounds_toArray, List.set_cons_zero, List.set_cons_succ]
      refine reg_take (i := 2) (v := ?g51v) rfl (by kernel_rfl) (by kernel_rfl) (by kernel_rfl) (by kernel_rfl) (fun _ _ _ h => h) (by rfl) ?g51y (by assumption) ?g51r
      case g51y => (intro W hS; first | (go_simp; done) | (go_simp; with_reducible rfl))
      simp only [Act.put, List.setIfInBounds_toArray, List.set_cons_zero, List.set_cons_succ]
      refine reg_take (i := 4) (v := ?g52v) rfl (by kernel_rfl) (by kernel_rfl) (by kernel_rfl) (by kernel_rfl) (fun _ _ _ h => h) (by rfl) ?g52y (by assumption) ?g52r
      case g52y => (intro W hS; first | (go_simp; done) | (go_simp; with_reducible rfl))
      simp only [Act.put, List.setIfInBounds_toArray, List.set_cons_zero, List.set_cons_succ]
      refine reg_take (i := 5) (v := ?g53v) rfl (by kernel_rfl) (by kernel_rfl) (by kernel_rfl) (by kernel_rfl) (fun _ _ _ h => h) (by rfl) ?g53y (by assumption) ?g53r
      case g53y => (intro W hS; first | (go_simp; done) | (go_simp; with_reducible rfl))
      simp only [Act.put, List.setIfInBounds_toArray, List.set_cons_zero, List.set_cons_succ]
      refine reg_take (i := 6) (v := ?g54v) rfl (by kernel_rfl) (by kernel_rfl) (by kernel_rfl) (by kernel_rfl) (fun _ _ _ h => h) (by rfl) ?g54y (by assumption) ?g54r
      case g54y => (intro W hS; first | (go_simp; done) | (go_simp; with_reducible rfl))
      simp only [Act.put, List.setIfInBounds_toArray, List.set_cons_zero, List.set_cons_succ]
      refine reg_one (i := 3) (by kernel_rfl) ?_
      refine op_call (i := 3) (#[.slice a0 kk c0]) rfl (by rfl) (enters_of Tryd.func28 (by kernel_rfl) rfl) (by first | (simp [Act.eval]; done) | rfl | (simp only [List.map_toArray, List.map_cons, List.map_nil, Act.eval]; rfl) | (simp [Act.eval]; trace_state; done)) ?_
      refine (record_Lay _ _ (l.take kk) (by rw [HLT1.out]; exact HUP.out.chg hSc (fun _ _ _ h => h)) (by rw [HLT1.out]; omega) (fun y hy => (HX2.out y (List.mem_of_mem_take hy)).same hSc) (HMX.out.chg hSc (fun h => h))).mono ?_
      rw [HLA.out]
      rintro e W6 ⟨hb6, aoA, capA, rfl, hoA⟩
      have hSc := hSc.trans (Chg.of_below0 (S := fun _ => False) hb6) (S'' := fun _ => False) (fun _ _ h => h) (fun _ _ h => h)
      have HOA := hide hoA
      clear hb6 hoA
      refine ⟨_, rfl, hSc, ?_⟩
      simp only [Act.put, List.setIfInBounds_toArray, List.set_cons_zero, List.set_cons_succ]
      refine reg_one (i := 7) (by kernel_rfl) ?_
      refine op_call (i := 7) (#[.slice ad (l.length - kk) cd]) rfl (by rfl) (enters_of Tryd.func28 (by kernel_rfl) rfl) (by first | (simp [Act.eval]; done) | rfl | (simp only [List.map_toArray, List.map_cons, List.map_nil, Act.eval]; rfl) | (simp [Act.eval]; trace_state; done)) ?_
      refine (record_Lay _ _ (l.drop kk) (by rw [HLT2.out]; exact HDN.out.chg hSc (fun _ _ _ h => h)) (by rw [HLT2.out]; omega) (fun y hy => (HX2.out y (List.mem_of_mem_drop hy)).same hSc) (HMX.out.chg hSc (fun h => h))).mono ?_
      rw [HLB.out]
      rintro e W7 ⟨hb7, aoB, capB, rfl, hoB⟩
      have hSc := hSc.trans (Chg.of_below0 (S := fun _ => False) hb7) (S'' := fun _ => False) (fun _ _ h => h) (fun _ _ h => h)
      have HOB := hide hoB
      have HOA := hide ((Chg.of_below0 (S := fun _ => False) hb7).owns HOA.out (fun _ _ h => h))
      clear hb7 hoB
      refine ⟨_, rfl, hSc, ?_⟩
      simp only [Act.put, List.setIfInBounds_toArray, List.set_cons_zero, List.set_cons_succ]
      refine reg_take (i := 8) (v := ?g55v) rfl (by kernel_rfl) (by kernel_rfl) (by kernel_rfl) (by kernel_rfl) (fun _ _ _ h => h) (by rfl) ?g55y (by assumption) ?g55r
      case g55y => (intro W hS; first | (go_simp; done) | (go_simp; with_reducible rfl))
      simp only [Act.put, List.setIfInBounds_toArray, List.set_cons_zero, List.set_cons_succ]
      refine reg_take (i := 9) (v := ?g56v) rfl (by kernel_rfl) (by kernel_rfl) (by kernel_rfl) (by kernel_rfl) (fun _ _ _ h => h) (by rfl) ?g56y (by assumption) ?g56r
      case g56y => (intro W hS; first | (go_simp; done) | (go_simp; with_reducible rfl))
      simp only [Act.put, List.setIfInBounds_toArray, List.set_cons_zero, List.set_cons_succ]
      refine wpAnyG_done (by kernel_rfl) ?_ _
      have HC7 := hide hSc
      clear hS0 hSc hsd
      go_wp2_with (first
        | (at_builtin; refine wpl_append rfl _ _ _ rfl slU8 W7.heap.size (World.ownsRow_nil W7 _ _ _) (Rd.of_owns HOA.out) rfl rfl (u8s_len1 A) (u8s_one A) (by have := HAL.out; unfold maxLen; omega) (by have := HAL.out; omega) (Nat.le_refl _) ?_; intro ao10 cap10 w10 ho10 hg10 _ _; simp only [Nat.zero_add, List.nil_append] at ho10; have HO10 := hide ho10; have HB10 := hide (hg10.below (n := W7.heap.size) (Nat.le_refl _) (fun k _ h => by cases h)); clear ho10 hg10)
        | (at_builtin; refine wpl_append rfl _ _ _ rfl slU8 W7.heap.size HO10.out ((Rd.of_owns HOB.out).chg (Chg.of_below0 (S := fun _ => False) HB10.out) (fun _ _ _ h => h)) rfl rfl (u8s_len1 Bb) (u8s_one Bb) (by have := HAL.out; have := HBL.out; unfold maxLen; omega) (by have := HAL.out; have := HBL.out; omega) HB10.out.size ?_; intro ao11 cap11 w11 ho11 hg11 _ _; have HO11 := hide ho11; have HB11 := hide (HB10.out.trans (hg11.below (n := W7.heap.size) HB10.out.size (fun k hk h => by have h5 := (ownsRow_lt HO10.out k h).1; omega))); clear ho11 hg11)
        | (at_builtin; refine wpl_append rfl _ _ _ rfl slU8 w11.heap.size (World.ownsRow_nil w11 _ _ _) ((Rd.of_owns HOA.out).chg (Chg.of_below0 (S := fun _ => False) HB11.out) (fun _ _ _ h => h)) rfl rfl (u8s_len1 A) (u8s_one A) (by have := HAL.out; unfold maxLen; omega) (by have := HAL.out; omega) (Nat.le_refl _) ?_; intro ao12 cap12 w12 ho12 hg12 _ _; simp only [Nat.zero_add, List.nil_append] at ho12; have HO12 := hide ho12; have HB12 := hide (hg12.below (n := w11.heap.size) (Nat.le_refl _) (fun k _ h => by cases h)); clear ho12 hg12)
        | (at_builtin; refine wpl_append rfl _ _ _ rfl slU8 w11.heap.size (HO12.out.alloc _) (Rd_lit w12 #[.int .u8 255] 5 1) rfl rfl rfl (by simp [Value.oneCell']) (by have := HAL.out; unfold maxLen; omega) (by have := HAL.out; omega) (by have := HB12.out.size; simp; omega) ?_; intro ao13 cap13 w13 ho13 hg13 _ _; have HO13 := hide ho13; have HB13 := hide ((HB12.out.alloc HB12.out.size (Obj.cells #[.int .u8 255] 5)).trans (hg13.below (n := w11.heap.size) (by have := HB12.out.size; simp; omega) (fun k hk h => by have h5 := (ownsRow_lt HO12.out k h).1; omega))); clear ho13 hg13)
        | (at_builtin; refine wpl_append rfl _ _ _ rfl slU8 w11.heap.size HO13.out (((Rd.of_owns HOB.out).chg (Chg.of_below0 (S := fun _ => False) HB11.out) (fun _ _ _ h => h)).chg (Chg.of_below0 (S := fun _ => False) HB13.out) (fun _ _ _ h => h)) rfl rfl (u8s_len1 Bb) (u8s_one Bb) (by have := HAL.out; have := HBL.out; unfold maxLen; omega) (by have := HAL.out; have := HBL.out; omega) HB13.out.size ?_; intro ao14 cap14 w14 ho14 hg14 _ _; have HO14 := hide ho14; have HB14 := hide (HB13.out.trans (hg14.below (n := w11.heap.size) HB13.out.size (fun k hk h => by have h5 := (ownsRow_lt HO13.out k h).1; omega))); clear ho14 hg14))
      have hc14 : Chg (fun _ => False) w2 w14 := (HC7.out.trans (Chg.of_below0 (S := fun _ => False) HB11.out) (fun _ _ h => h) (fun _ _ h => h)).trans (Chg.of_below0 (S := fun _ => False) HB14.out) (fun _ _ h => h) (fun _ _ h => h)
      have HC14 := hide hc14
      have HB15 := hide (HB.out.trans (hc14.below (n := W.heap.size) HB.out.size (fun _ _ h => h)))
      have ho11 := (Chg.of_below0 (S := fun _ => False) HB14.out).owns HO11.out (fun _ _ h => h)
      rw [← u8s_append] at ho11
      have hab : A.length + Bb.length = (A ++ Bb).length := by rw [List.length_append]
      rw [hab] at ho11
      have HO15 := hide ho11
      have ho14 := HO14.out
      have h255 : u8s A ++ [Value.int .u8 255] ++ u8s Bb = u8s (A ++ [255] ++ Bb) := by rw [u8s_append, u8s_append]; rfl
      have htl : A.length + 1 + Bb.length = (A ++ [255] ++ Bb).length := by simp; omega
      rw [htl] at ho14
      have ho14' : w14.ownsRow w11.heap.size 5 1 (.slice ao14 (A ++ [255] ++ Bb).length cap14) (A ++ [255] ++ Bb).length (u8s (A ++ [255] ++ Bb)) := by rw [← h255]; exact ho14
      have HO16 := hide ho14'
      rw [htl, hab]
      obtain ⟨Y, hY⟩ : ∃ Y, Y = A ++ Bb := ⟨_, rfl⟩
      obtain ⟨T, hT⟩ : ∃ T, T = A ++ [255] ++ Bb := ⟨_, rfl⟩
      have hyl : Y.length ≤ 1000000 := by rw [hY, List.length_append]; have := HAL.out; have := HBL.out; omega
      have htl2 : T.length ≤ 1000001 := by rw [hT]; have := HAL.out; have := HBL.out; simp; omega
      have hE1' : endRc (placed 0 (rcs l)) = (Y.length : Int) := by rw [HE1.out, hY, List.length_append]
      rw [← hY] at HO15 HR1 HLL
      rw [← hT] at HO16 HR2
      rw [← hY, ← hT]
      have HYL := hide hyl
      have HTL := hide htl2
      have HE1' := hide hE1'
      have HREAD := hide (record_Read w14 _ Y (Rd.of_owns HO15.out) (by omega) (HM.out.below HB15.out HM.out.pos))
      have HFEW : Hid (∀ (vs : List RcV) (m : List Rc), rcs vs = m → (∀ x ∈ m, mayRc x = true) → ∀ v ∈ vs, Few v.q.x.c) := hide (fun vs m hm hma v hv => by
        have h5 : v.rc ∈ m := by rw [← hm]; exact List.mem_map_of_mem hv
        exact (own_few (mayRc_iff.1 (hma _ h5)).1).1)
      clear hc14 ho11 hab ho14 h255 htl ho14' hyl htl2 hE1' hY hT HE1 HO11 HO14 HO12 HO13 HB11 HB12 HB13 HB14 HO10 HB10 HC7 HOB HOA
      refine HREAD.out.mono ?_
      rintro e w15 hs
      obtain ⟨ar, cr, vs, rfl, heq, hrw, hown, hb15⟩ := hs
      rw [HR1.out, placed_map] at heq
      rw [HR1.out, HE1'.out]
      have HB16 := hide (HB15.out.trans (hb15.mono HB15.out.size))
      have HC15 := hide (Chg.of_below0 (S := fun _ => False) hb15)
      have HO17 := hide ((Chg.of_below0 (S := fun _ => False) hb15).owns HO15.out (fun _ _ h => h))
      have HO18 := hide ((Chg.of_below0 (S := fun _ => False) hb15).owns HO16.out (fun _ _ h => h))
      have HEQ := hide heq
      have HRW := hide hrw
      have HOWN := hide hown
      clear heq hrw hown hb15 HREAD
      have HREAD2 := hide (record_Read w15 _ T (Rd.of_owns HO18.out) (by have := HTL.out; omega) (HM.out.below HB16.out HM.out.pos))
      go_wp2_with fail
      refine HREAD2.out.mono ?_
      rintro e w16 hs
      obtain ⟨ar2, cr2, vs2, rfl, heq2, hrw2, hown2, hb16⟩ := hs
      rw [HR2.out, placed_map] at heq2
      rw [HR2.out, HE2.out]
      have hc16 := Chg.of_below0 (S := fun _ => False) hb16
      have HB17 := hide (HB16.out.trans (hb16.mono HB16.out.size))
      have HC16 := hide hc16
      have HO19 := hide (hc16.owns HO17.out (fun _ _ h => h))
      have HEQ2 := hide heq2
      have HRW1 := hide (hc16.owns HRW.out (fun _ _ h => h))
      have HOWN1 := hide (fun v hv => (HOWN.out v hv).chg hc16 (fun _ _ _ h => h))
      have HRW2 := hide hrw2
      have HOWN2 := hide hown2
      clear heq2 hrw2 hown2 hb16 hc16 HREAD2 HRW HOWN HO18
      have HCX : Hid (Chg (fun _ => False) w2 w16) := hide ((HC14.out.trans HC15.out (fun _ _ h => h) (fun _ _ h => h)).trans HC16.out (fun _ _ h => h) (fun _ _ h => h))
      have hlay := record_Lay w16 (.slice a0 l.length c0) l (HL.out.chg (Chg.of_below0 (S := fun _ => False) HB17.out) (fun _ _ _ h => h)) (by omega) (fun x hx => (HX2.out x hx).same HCX.out) (HM.out.below HB17.out HM.out.pos)
      rw [HLL.out] at hlay
      have HLAY := hide hlay
      clear hlay
      go_wp2_with fail
      refine HLAY.out.mono ?_
      rintro e w17 ⟨hb17, ao17, cap17, rfl, ho17⟩
      have hc17 := Chg.of_below0 (S := fun _ => False) hb17
      have HB18 := hide (HB17.out.trans (hb17.mono HB17.out.size))
      have HO20 := hide (hc17.owns HO19.out (fun _ _ h => h))
      have HRW3 := hide (hc17.owns HRW1.out (fun _ _ h => h))
      have HRW4 := hide (hc17.owns HRW2.out (fun _ _ h => h))
      have HOWN3 := hide (fun v hv => (HOWN1.out v hv).chg hc17 (fun _ _ _ h => h))
      have HOWN4 := hide (fun v hv => (HOWN2.out v hv).chg hc17 (fun _ _ _ h => h))
      have HO21 := hide ho17
      clear hb17 hc17 ho17 HLAY HO19 HRW1 HRW2 HOWN1 HOWN2 HCX
      go_wp2_with fail
      refine (SameBytes_refl w17 _ _ Y (Rd.of_owns HO21.out) (Rd.of_owns HO20.out) (by have := HYL.out; omega)).mono ?_
      rintro e w18 ⟨rfl, n18, hw18⟩
      have hc18 : Chg (fun _ => False) w17 w18 := hw18 ▸ Chg.drewN (fun _ => False) _ n18
      have HB19 := hide (HB18.out.trans (hc18.below (n := W.heap.size) HB18.out.size (fun _ _ h => h)))
      have hsame1 := SameRecords_yes w18 (.slice ar vs.length cr) (.slice a0 l.length c0) vs l ((Rd.of_owns HRW3.out).chg hc18 (fun _ _ _ h => h)) (HL.out.chg (Chg.of_below0 (S := fun _ => False) HB19.out) (fun _ _ _ h => h)) HEQ.out
        (by have h5 := congrArg List.length HEQ.out; simp only [rcs, List.length_map] at h5; omega) (fun x hx => ⟨((HOWN3.out x hx).chg hc18 (fun _ _ _ h => h)).at, HFEW.out vs _ HEQ.out HALL.out x hx⟩) (fun x hx => ((HX.out x hx).same (Chg.of_below0 HB19.out)).cm)
      have HSAME1 := hide hsame1
      have HRW5 := hide (hc18.owns HRW4.out (fun _ _ h => h))
      have HOWN5 := hide (fun v hv => (HOWN4.out v hv).chg hc18 (fun _ _ _ h => h))
      clear hw18 hc18 hsame1 HRW4 HOWN4 HRW3 HOWN3 HO20 HO21
      go_wp2_with fail
      refine HSAME1.out.mono ?_
      rintro e w19 ⟨rfl, hb19⟩
      have hc19 := Chg.of_below0 (S := fun _ => False) hb19
      have HB20 := hide (HB19.out.trans (hb19.mono HB19.out.size))
      have hrow9 := HL.out.chg (Chg.of_below0 (S := fun _ => False) HB20.out) (fun _ _ _ h => h)
      have hup9 := Rd.upto hrow9 kk 9 hkl (flat_length rc_len l)
      rw [flat_take rc_len l kk hkl] at hup9
      have hsame2 := SameRecords_yes w19 (.slice ar2 vs2.length cr2) (.slice a0 kk c0) vs2 (l.take kk) ((Rd.of_owns HRW5.out).chg hc19 (fun _ _ _ h => h)) (by rw [HLT1.out]; exact hup9) (by rw [rcs_take]; exact HEQ2.out)
        (by have h5 := congrArg List.length HEQ2.out; simp only [rcs, List.length_map, List.length_take] at h5; omega) (fun x hx => ⟨((HOWN5.out x hx).chg hc19 (fun _ _ _ h => h)).at, HFEW.out vs2 _ HEQ2.out (fun y hy => HALL.out y (List.mem_of_mem_take hy)) x hx⟩) (fun x hx => ((HX.out x (List.mem_of_mem_take hx)).same (Chg.of_below0 HB20.out)).cm)
      have HSAME2 := hide hsame2
      clear hb19 hc19 hrow9 hup9 hsame2 HSAME1
      go_wp2_with fail
      refine HSAME2.out.mono ?_
      rintro e w20 ⟨rfl, hb20⟩
      have HB21 := hide (HB20.out.trans (hb20.mono HB20.out.size))
      clear hb20 HSAME2
      go_wp2_with fail
      refine (awake18 _ (HM.out.below HB21.out HM.out.pos)).mono ?_
      rintro e w21 ⟨rfl, hb21⟩
      have HB22 := hide (HB21.out.trans (hb21.mono HB21.out.size))
      clear hb21
      go_wp2_with fail
      go_ret
      exact ⟨rfl, HB22.out⟩

set_option maxRecDepth 100000 in
theorem RecordJoins_lifted (os : Os) (started : os.Started) (H : Type) (enc : TypeId × Value → H) :
    ReturnsInHanded {} Tryd.checked os 9 .any (fun w args => (Rows.recordJoinsSpec.pre enc Tryd.prog Tryd.f9 Rows.recordJoinsRow.domain false w args ∧ laidMetH Tryd.prog cardLaid w) ∧ sizedMet enc Tryd.prog Tryd.f9 (OpenSpec.ofChange Rows.recordJoinsSpec) false w args) (Rows.recordJoinsSpec.post enc Tryd.prog Tryd.f9 false true false false) := by
  refine card_wrap (C := Tryd.checked) (X := fun w => laidMetH Tryd.prog cardLaid w) law_own started (by kernel_rfl) Tryd.func9
    (ChangeSpec.witness_at (enc := enc) (C := Tryd.checked) (os := os) (X := fun w _ => laidMetH Tryd.prog cardLaid w) false (laidWorld os) #[.slice none 0 0, .int .i64 0] 8 rfl (by kernel_rfl) (by kernel_rfl) (by kernel_rfl) (by kernel_rfl) (by kernel_rfl) (laidWorld_met os _)) ?_
  intro W base args ds gs before hval0 hW hsh
  have hM := mx_of_shaped hsh
  have hval : ∀ (j : Nat) t v, Tryd.f9.params[j]? = some t → args[j]? = some v → Value.okWide Tryd.prog W .any base t v := hval0
  have hW' := hW
  obtain ⟨p, q, hA0, hV, rfl, hfz, hnd⟩ := hW
  have hA : DataW.TrodAll enc Tryd.prog W 0 (fun _ => true) true Tryd.f9.params.toList args.toList ds p := hA0
  rw [Tryd.params9] at hA hval
  obtain ⟨v0, vs0, d0, ds0, p0, q0, hargs, rfl, rfl, h0, r0⟩ := trodAll_cons hA
  obtain ⟨v1, vs1, d1, ds1, p1, q1, rfl, rfl, rfl, h1, r1⟩ := trodAll_cons r0
  obtain ⟨rfl, rfl, rfl⟩ := trodAll_nil r1
  obtain rfl : args = #[v0, v1] := by cases args; simp_all
  obtain ⟨rfl, rfl⟩ := trodVars_none hV
  have k0 := h0
  have lt0 : ∀ x ∈ p0, x.block < W.heap.size := by obtain ⟨m, hm⟩ := k0; exact DataW.trod_lt m _ _ _ hm
  obtain ⟨a0, len0, cap0, rfl⟩ := okWide_slice Tryd.underlying50 (hval 0 50 v0 rfl rfl)
  have k1 := h1
  have lt1 : ∀ x ∈ p1, x.block < W.heap.size := by obtain ⟨m, hm⟩ := k1; exact DataW.trod_lt m _ _ _ hm
  obtain ⟨a1, rfl, rfl, rfl, w1⟩ := open_int Tryd.underlying3 (hval 1 3 v1 rfl rfl) h1
  clear hA0 hval0
  refine (RecordJoins_walk (enc := enc) W hM a0 len0 cap0 (Readable.of_trod h0) a1 w1).mono fun e W' ⟨he, bel⟩ => ?_
  subst he
  exact ⟨_, rfl, _, _, _, [], _, [], hW', trodAll_mk1 (shut_bool Tryd.underlying4 _), (trodAll_cons_mk (Below.trod law_laid (by kernel_rfl) (of_decide_eq_true (by kernel_rfl)) k0 bel lt0) (trodAll_cons_mk (Below.trod law_laid (by kernel_rfl) (of_decide_eq_true (by kernel_rfl)) k1 bel lt1) trodAll_mk0)), rfl, bel.frame _, fun h => by cases h⟩

theorem RecordJoins_over : Rows.recordJoinsRow.holds Tryd.pinned (OpenSpec.ofChange Rows.recordJoinsSpec) :=
  OpenClaim.holds_of_wide 9 Tryd.f9 rfl rfl rfl rfl rfl rfl rfl ⟨rfl, rfl, rfl, rfl, rfl⟩ rfl rfl rfl rfl rfl (by kernel_rfl) Tryd.func9 (by kernel_rfl)
    (of_decide_eq_true (by kernel_rfl)) (by unfold Func.isWrapper; first | (rw [if_pos (by decide +kernel)]; kernel_rfl) | (rw [if_neg (by decide +kernel)]; exact ⟨rfl, rfl⟩))
    (fun os started H enc _ => RecordJoins_lifted os started H enc)

theorem RecordJoins_params : ∀ (j : Nat) t, Tryd.f9.params[j]? = some t → Tryd.prog.wantsStandIn t = false := by
  intro j t ht
  rw [Tryd.params9] at ht
  have hm : t ∈ ([50, 3] : List TypeId) := List.mem_of_getElem? (i := j) (by simpa using ht)
  simp only [List.mem_cons, List.not_mem_nil, or_false] at hm
  rcases hm with h | h
  · subst h; exact (show Tryd.prog.wantsStandIn 50 = false by kernel_rfl)
  · subst h; exact (show Tryd.prog.wantsStandIn 3 = false by kernel_rfl)
theorem RecordJoins_holds : Rows.RecordJoinsCardSaid :=
  Claim7.holds_tied_plain_at .later [] [.data, .pinned] true (true, "c4be9e7f0cdbaae3bf531276a3d215d8076bde4fb581a78ccccc1d3c7d66db3a") false
    RecordJoins_over (fun _ h => by cases h) (by kernel_rfl) (fun _ h => by cases h) recordJoins_row_tie rfl ⟨rfl, rfl⟩ (by kernel_rfl) rfl
    (fun f fn hf hfn => by
      obtain rfl : f = 9 := Option.some.inj ((show Tryd.prog.funcNamed "cortege/cortegelaw18.RecordJoins" = some 9 by kernel_rfl).symm.trans hf) |>.symm
      obtain rfl : fn = Tryd.f9 := (Option.some.inj (Tryd.func9.symm.trans hfn)).symm
      exact ⟨by kernel_rfl, RecordJoins_params⟩)
    (by kernel_rfl)
#print axioms RecordJoins_holds

end Go.Proofs.YtjmmmpnpkialjaaDoor
