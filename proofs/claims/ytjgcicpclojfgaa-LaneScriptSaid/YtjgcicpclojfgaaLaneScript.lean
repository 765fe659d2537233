/- LaneScript: whatever is added and closed, each call answers as the document says; who waits is told in order. Conditions: none. -/
import Derived.Test.YtjgcicpclojfgaaRows
import Derived.WalkKit
import Derived.ProofKit
import Derived.OpenShut
import Derived.ShutString
import Derived.ChangeOld
import Derived.Below
import Derived.Test.YtjgcicpclojfgaaLaneX
import Derived.Laws.StructEq
import Derived.Deep.DeepCutAuto
import Derived.Deep.CutBlock
namespace Go.Proofs.Ytjgcicpclojfgaa
open Go.ChangeShapes Go.WideShapes Go.ChangeAt Go.RowKit
open Go.ChangeMaps (open_string shut_string)
set_option linter.unusedVariables false

theorem law_own : ownKnob Try.prog.godebug = none := by kernel_rfl
theorem law_laid : laidOutB Try.prog = true := by kernel_rfl
open Go.Shelf

theorem rdA {w : World} {ao : Option Addr} {n c : Nat} {cs : List Value} (h : Rd w (.slice ao n c) n cs) (hn : 0 < n) : ∃ b off, ao = some ⟨b, off, none⟩ ∧ CellsAt w b off cs := by
  obtain ⟨ao', cap, e, -, h⟩ := h.shape
  cases e
  exact h hn

set_option maxRecDepth 100000 in
set_option maxHeartbeats 8000000 in
theorem LaneScript_walk {H : Type} {enc : TypeId × Value → H} (W : World) (pend : Int) (hwp : (Lit.int .i64 pend).wf = true) (lanes : Int) (hwl : (Lit.int .i64 lanes).wf = true) (a0 : Option Addr) (n0 c0 : Nat) (hv : Readable enc Try.prog W 74 [.slice a0 n0 c0]) :
    Calls Try.prog 10 #[.int .i64 pend, .int .i64 lanes, .slice a0 n0 c0] W fun e W' => e = .returned (.bool true) ∧ Below W.heap.size W W' := by
  obtain ⟨v', acts, hv', hr, hl, hbl⟩ := acts_of_readable hv
  obtain rfl : .slice a0 n0 c0 = v' := by simpa using hv'
  have hr' : Rd W (.slice a0 n0 c0) acts.length (flat Ac.cells acts) := hr
  obtain ⟨ao', cap', e, -, -⟩ := hr'.shape
  cases e
  have HR := hide hr'
  have HBL := hide hbl
  have hmx : acts.length ≤ 9223372036854775807 := hl
  clear hr hr' hbl hv hv' hwp hwl hl
  by_cases hlen : acts.length ≤ 90
  · have d8 : decide ((acts.length : Int) > 90) = false := decide_eq_false (by omega)
    cases hmay : may20 pend lanes with
    | false =>
      have HM := hide hmay
      clear hmay
      go_enter Try.func10, Try.ntmps10
      go_wp2_with fail
      refine (lane_New_bad _ _ _ HM.out).mono ?_
      rintro e w1 ⟨rfl, rfl⟩
      go_wp2_with fail
      have hM := ref20_May w1 pend lanes
      rw [HM.out] at hM
      refine hM.mono ?_
      clear hM
      rintro e w2 ⟨rfl, rfl⟩
      go_wp2_with fail
      refine (awake20 _).mono ?_
      rintro e w10 ⟨rfl, hb10⟩
      have HB10 := hide hb10
      clear hb10
      go_wp2_with fail
      go_ret
      exact ⟨rfl, HB10.out⟩
    | true =>
      have hm' : 1 ≤ pend ∧ pend ≤ 8 ∧ 1 ≤ lanes ∧ lanes ≤ 4 := of_decide_eq_true hmay
      obtain ⟨hp1, hp8, hl1, hl4⟩ := hm'
      have HM := hide hmay
      clear hmay
      go_enter Try.func10, Try.ntmps10
      go_wp2_with fail
      refine (lane_New W pend lanes hp1 hp8 hl1 hl4).mono ?_
      rintro e w1 ⟨lp, p, rfl, h1, hb1⟩
      have H1 := hide h1
      have HB1 := hide hb1
      clear h1 hb1
      go_wp2_with fail
      have hM := ref20_May w1 pend lanes
      rw [HM.out] at hM
      refine hM.mono ?_
      clear hM
      rintro e w2 ⟨rfl, rfl⟩
      go_wp2_with fail
      obtain ⟨rp, hrp⟩ : ∃ rp, rp = w2.heap.size := ⟨_, rfl⟩
      obtain ⟨w3, hw3⟩ : ∃ w3, w3 = w2.alloc (.cells #[.slice none 0 0, .int .i64 pend, .int .i64 lanes] 77) := ⟨_, rfl⟩
      have hc3 : Chg (fun _ => False) w2 w3 := by rw [hw3]; exact Chg.alloc _ w2 _
      have H0 : Hid (ScrAt W pend lanes lp rp w3) := by
        have hbx : w3.heap[rp]? = some (.cells #[.slice none 0 0, .int .i64 pend, .int .i64 lanes] 77 (0, 0)) := by rw [hw3, hrp]; exact heap_alloc_new w2 _
        refine ⟨none, 0, [], p, none, 0, none, 0, H1.out.chg hc3 (fun _ _ h => h), ⟨hbx, by rw [hrp]; exact HB1.out.size, World.ownsRow_nil _ _ _ _, by simp⟩, fun k hk hr => ?_, GoodAll.nil, HB1.out.trans (hc3.below HB1.out.size (fun _ _ h => h))⟩
        have := (H1.out.lt k hk).2
        rcases hr with rfl | hr
        · omega
        · cases hr
      rw [← hw3, ← hrp]
      clear hw3 hc3 hrp H1 HB1 HM
      go_loopw [9] (fun i wr => ∃ k : Nat, k ≤ acts.length ∧ i = .int .i64 k ∧ Hid (ScrAt W pend lanes lp rp wr)) (fun i _ => acts.length - (intOf i).toNat)
      case atStart => exact ⟨0, by omega, rfl, H0⟩
      case round =>
        clear H0
        obtain ⟨k, hk, rfl, HO⟩ := hrel
        by_cases hlt : k < acts.length
        · obtain ⟨aa, acap, all, p, ao, cap, ra, rcap, hla, hrf, hdis, hgd, hb⟩ := HO.out
          have hxr := HR.out.chg (Chg.of_below hb) (fun b hb' hne => by have := HBL.out b hb' (by rintro rfl; simp at hlt); omega)
          obtain ⟨a, oa, rfl, hx⟩ := rdA hxr (by omega)
          obtain ⟨hx0, hx1, hx2, hx3, hx4⟩ := acts_cells hx k hlt
          obtain ⟨x, hxx⟩ : ∃ x, x = acts[k] := ⟨_, rfl⟩
          rw [← hxx] at hx0 hx1 hx2 hx3 hx4
          obtain ⟨wx, hwx⟩ : ∃ wx, wx = wr.alloc (.cells #[.int .i64 x.what, .int .i64 x.commit, .int .i64 x.lane, .int .i64 x.n, .int .i64 x.code] 79) := ⟨_, rfl⟩
          have hcx : Chg (fun _ => False) wr wx := by rw [hwx]; exact Chg.alloc _ _ _
          have HXC : Hid (wx.heap[wr.heap.size]? = some (.cells #[.int .i64 x.what, .int .i64 x.commit, .int .i64 x.lane, .int .i64 x.n, .int .i64 x.code] 79 (0, 0))) := by rw [hwx]; exact heap_alloc_new wr _
          have HL := hide (hla.chg hcx (fun _ _ h => h))
          have HRF := hide (hrf.chg hcx (fun _ _ h => h))
          have HDIS := hide hdis
          have HG := hide hgd
          have HB := hide (hb.trans (hcx.below hb.size (fun _ _ h => h)))
          have HNL : Hid (∀ k, LSet lp aa p ao k → k ≠ wr.heap.size) := fun k hk => by have := (hla.lt k hk).2; omega
          have HNR : Hid (∀ k, RSet rp ra k → k ≠ wr.heap.size) := fun k hk => by have := (hrf.lt k hk).2; omega
          have hsx : wx.heap.size = wr.heap.size + 1 := by rw [hwx]; simp
          have HSX := hide hsx
          have HWX := hide hwx
          clear hla hrf hdis hgd hb hxr hx hxx hcx hsx hwx HO
          go_upto_block 2 with fail
          rw [← HWX.out]
          go_cut [11] (fun s11 wc => s11 = .bool true ∧ Hid (ScrAt W pend lanes lp rp wc ∧ wc.heap[wr.heap.size]? = some (.cells #[.int .i64 x.what, .int .i64 x.commit, .int .i64 x.lane, .int .i64 x.n, .int .i64 x.code] 79 (0, 0))))
          case first =>
            clear hx0 hx1 hx2 hx3 hx4
            have gx0 := cell_of_heap HXC.out 0
            have gx1 := cell_of_heap HXC.out 1
            have gx2 := cell_of_heap HXC.out 2
            have gx3 := cell_of_heap HXC.out 3
            have gx4 := cell_of_heap HXC.out 4
            go_wp2_with fail
            · refine (lane_Add_any wx x.commit x.lane HL.out HG.out hp8 hl4).mono ?_
              rintro e w5 ⟨rfl, aa5, acap5, p5, ao5, cap5, hl5, hc5, hs5⟩
              have HR5 := hide (HRF.out.chg hc5 (fun k hk h => HDIS.out k h hk))
              have HX5 := hide (hc5.heap HXC.out (fun h => HNL.out _ h rfl))
              have HB5 := hide (HB.out.trans (hc5.below HB.out.size (fun k hk e => by have := (HL.out.lt k e).1; omega)))
              have HL5 := hide hl5
              have HD5 : Hid (∀ k, LSet lp aa5 p5 ao5 k → ¬ RSet rp ra k) := fun k hk hr => (hs5 k hk).elim (fun h => HDIS.out k h hr) (fun h => by have := (HRF.out.lt k hr).2; omega)
              have hz5 := hc5.size
              have HN5 : Hid (∀ k, LSet lp aa5 p5 ao5 k → k < w5.heap.size) := fun k hk => (hl5.lt k hk).2
              clear hl5 hc5 hs5 gx0 gx1 gx2 gx3 gx4
              have gx1 := cell_of_heap HX5.out 1
              have gx2 := cell_of_heap HX5.out 2
              have HZ5 := hide hz5
              clear hz5
              go_wp2_with fail
              refine (ref20_Add_any w5 x.commit x.lane HR5.out).mono ?_
              rintro e w6 ⟨rfl, ra6, rcap6, hr6, hc6, hs6⟩
              have HL6 := hide (HL5.out.chg hc6 (fun k hk h => HD5.out k hk h))
              have HX6 := hide (hc6.heap HX5.out (fun h => HNR.out _ h rfl))
              have HB6 := hide (HB5.out.trans (hc6.below HB5.out.size (fun k hk e => by have := (HR5.out.lt k e).1; omega)))
              have HR6 := hide hr6
              have HD6 : Hid (∀ k, LSet lp aa5 p5 ao5 k → ¬ RSet rp ra6 k) := fun k hk hr => (hs6 k hr).elim (fun h => HD5.out k hk h) (fun h => by have := HN5.out k hk; omega)
              have HG6 := hide (addR_good (pend := pend) (lanes := lanes) (c := x.commit) (y := x.lane) HG.out hl4)
              clear hr6 hc6 hs6 gx1 gx2
              go_wp2_with fail
              refine (Num_ok _ _).mono ?_
              rintro e w7 ⟨rfl, rfl⟩
              go_wp2_with fail
              go_meet
              exact ⟨rfl, ⟨_, _, _, _, _, _, _, _, HL6.out, HR6.out, HD6.out, HG6.out, HB6.out⟩, HX6.out⟩
            ·
              refine reg_start (Chg (fun k => k ≠ wr.heap.size) wx) 14 (by rfl) (by kernel_rfl) (Chg.drew _ _) ?_
              intro hS0
              refine reg_take (i := 0) (v := ?g1v0) rfl (by kernel_rfl) (by kernel_rfl) (by kernel_rfl) (fun _ _ _ h => h) (by rfl) ?g1y0 (by assumption) ?g1r0
              case g1y0 => (intro W hS; first | (go_simp; done) | (go_simp; with_reducible rfl))
              simp only [Act.put, List.setIfInBounds_toArray, List.set_cons_zero, List.set_cons_succ]
              refine reg_take (i := 1) (v := ?g1v1) rfl (by kernel_rfl) (by kernel_rfl) (by kernel_rfl) (fun _ _ _ h => h) (by rfl) ?g1y1 (by assumption) ?g1r1
              case g1y1 => (intro W hS; first | (go_simp; done) | (go_simp; with_reducible rfl))
              simp only [Act.put, List.setIfInBounds_toArray, List.set_cons_zero, List.set_cons_succ]
              refine reg_take (i := 2) (v := ?g1v2) rfl (by kernel_rfl) (by kernel_rfl) (by kernel_rfl) (fun _ _ _ h => h) (by rfl) ?g1y2 (by assumption) ?g1r2
              case g1y2 => (intro W hS; have f3 := hS.cell gx3 (fun h => h rfl); have f4 := hS.cell gx4 (fun h => h rfl); first | (go_simp; done) | (go_simp; with_reducible rfl))
              simp only [Act.put, List.setIfInBounds_toArray, List.set_cons_zero, List.set_cons_succ]
              refine reg_take (i := 3) (v := ?g1v3) rfl (by kernel_rfl) (by kernel_rfl) (by kernel_rfl) (fun _ _ _ h => h) (by rfl) ?g1y3 (by assumption) ?g1r3
              case g1y3 => (intro W hS; first | (go_simp; done) | (go_simp; with_reducible rfl))
              simp only [Act.put, List.setIfInBounds_toArray, List.set_cons_zero, List.set_cons_succ]
              refine reg_take (i := 4) (v := ?g1v4) rfl (by kernel_rfl) (by kernel_rfl) (by kernel_rfl) (fun _ _ _ h => h) (by rfl) ?g1y4 (by assumption) ?g1r4
              case g1y4 => (intro W hS; have f3 := hS.cell gx3 (fun h => h rfl); have f4 := hS.cell gx4 (fun h => h rfl); first | (go_simp; done) | (go_simp; with_reducible rfl))
              simp only [Act.put, List.setIfInBounds_toArray, List.set_cons_zero, List.set_cons_succ]
              refine reg_take (i := 6) (v := ?g1v6) rfl (by kernel_rfl) (by kernel_rfl) (by kernel_rfl) (fun _ _ _ h => h) (by rfl) ?g1y6 (by assumption) ?g1r6
              case g1y6 => (intro W hS; first | (go_simp; done) | (go_simp; with_reducible rfl))
              simp only [Act.put, List.setIfInBounds_toArray, List.set_cons_zero, List.set_cons_succ]
              refine reg_take (i := 7) (v := ?g1v7) rfl (by kernel_rfl) (by kernel_rfl) (by kernel_rfl) (fun _ _ _ h => h) (by rfl) ?g1y7 (by assumption) ?g1r7
              case g1y7 => (intro W hS; first | (go_simp; done) | (go_simp; with_reducible rfl))
              simp only [Act.put, List.setIfInBounds_toArray, List.set_cons_zero, List.set_cons_succ]
              refine reg_take (i := 8) (v := ?g1v8) rfl (by kernel_rfl) (by kernel_rfl) (by kernel_rfl) (fun _ _ _ h => h) (by rfl) ?g1y8 (by assumption) ?g1r8
              case g1y8 => (intro W hS; have f3 := hS.cell gx3 (fun h => h rfl); have f4 := hS.cell gx4 (fun h => h rfl); first | (go_simp; done) | (go_simp; with_reducible rfl))
              simp only [Act.put, List.setIfInBounds_toArray, List.set_cons_zero, List.set_cons_succ]
              refine reg_take (i := 9) (v := ?g1v9) rfl (by kernel_rfl) (by kernel_rfl) (by kernel_rfl) (fun _ _ _ h => h) (by rfl) ?g1y9 (by assumption) ?g1r9
              case g1y9 => (intro W hS; first | (go_simp; done) | (go_simp; with_reducible rfl))
              simp only [Act.put, List.setIfInBounds_toArray, List.set_cons_zero, List.set_cons_succ]
              refine reg_take (i := 10) (v := ?g1v10) rfl (by kernel_rfl) (by kernel_rfl) (by kernel_rfl) (fun _ _ _ h => h) (by rfl) ?g1y10 (by assumption) ?g1r10
              case g1y10 => (intro W hS; have f3 := hS.cell gx3 (fun h => h rfl); have f4 := hS.cell gx4 (fun h => h rfl); first | (go_simp; done) | (go_simp; with_reducible rfl))
              simp only [Act.put, List.setIfInBounds_toArray, List.set_cons_zero, List.set_cons_succ]
              refine reg_call (i := 5) (#[.pointer (some ⟨lp, 0, none⟩), .int .i64 x.n, .int .i64 x.code]) rfl (by kernel_rfl) (by rfl) (enters_of Try.func41 (by kernel_rfl) rfl) (by first | (simp [Act.eval]; done) | rfl) ?_
              refine (lane_Close_any _ x.n x.code (HL.out.chg (Chg.drew (fun _ => False) wx) (fun _ _ h => h)) HG.out).mono ?_
              rintro e w5 ⟨rfl, aa5, acap5, p5, ao5, cap5, hl5, hc5, hs5⟩
              have hS5 : Chg (fun k => k ≠ wr.heap.size) wx w5 := hS0.trans hc5 (fun _ _ h => h) (fun k _ h => HNL.out k h)
              have hc5' : Chg (LSet lp aa p ao) wx w5 := (Chg.drew (fun _ => False) wx).trans hc5 (fun _ _ h => h.elim) (fun _ _ h => h)
              have HR5 := hide (HRF.out.chg hc5' (fun k hk h => HDIS.out k h hk))
              have HX5 := hide (hc5'.heap HXC.out (fun h => HNL.out _ h rfl))
              have HB5 := hide (HB.out.trans (hc5'.below HB.out.size (fun k hk e => by have := (HL.out.lt k e).1; omega)))
              have HL5 := hide hl5
              have HD5 : Hid (∀ k, LSet lp aa5 p5 ao5 k → ¬ RSet rp ra k) := fun k hk hr => (hs5 k hk).elim (fun h => HDIS.out k h hr) (fun h => by have h : wx.heap.size ≤ k := h; have := (HRF.out.lt k hr).2; omega)
              have HN5 : Hid (∀ k, LSet lp aa5 p5 ao5 k → k < w5.heap.size) := fun k hk => (hl5.lt k hk).2
              clear hl5 hc5 hs5 hc5'
              refine ⟨_, rfl, hS5, ?_⟩
              simp only [Act.put, List.setIfInBounds_toArray, List.set_cons_zero, List.set_cons_succ]
              refine reg_call (i := 11) (#[.pointer (some ⟨rp, 0, none⟩), .int .i64 x.n, .int .i64 x.code]) rfl (by kernel_rfl) (by rfl) (enters_of Try.func50 (by kernel_rfl) rfl) (by first | (simp [Act.eval]; done) | rfl) ?_
              refine (ref20_Close_any w5 x.n x.code HR5.out HG.out).mono ?_
              rintro e w6 ⟨rfl, ra6, rcap6, hr6, hc6, hs6⟩
              have hS6 : Chg (fun k => k ≠ wr.heap.size) wx w6 := hS5.trans hc6 (fun _ _ h => h) (fun k _ h => HNR.out k h)
              have HL6 := hide (HL5.out.chg hc6 (fun k hk h => HD5.out k hk h))
              have HX6 := hide (hc6.heap HX5.out (fun h => HNR.out _ h rfl))
              have HB6 := hide (HB5.out.trans (hc6.below HB5.out.size (fun k hk e => by have := (HR5.out.lt k e).1; omega)))
              have HR6 := hide hr6
              have HD6 : Hid (∀ k, LSet lp aa5 p5 ao5 k → ¬ RSet rp ra6 k) := fun k hk hr => (hs6 k hr).elim (fun h => HD5.out k hk h) (fun h => by have := HN5.out k hk; omega)
              have HG6 := hide (closeR_good (n := x.n) (code := x.code) HG.out)
              clear hr6 hc6 hs6
              refine ⟨_, rfl, hS6, ?_⟩
              simp only [Act.put, List.setIfInBounds_toArray, List.set_cons_zero, List.set_cons_succ]
              refine reg_take (i := 12) (v := ?g1v12) rfl (by kernel_rfl) (by kernel_rfl) (by kernel_rfl) (fun _ _ _ h => h) (by rfl) ?g1y12 (by assumption) ?g1r12
              case g1y12 => (intro W hS; first | (go_simp; done) | (go_simp; with_reducible rfl))
              simp only [Act.put, List.setIfInBounds_toArray, List.set_cons_zero, List.set_cons_succ]
              refine reg_take (i := 13) (v := ?g1v13) rfl (by kernel_rfl) (by kernel_rfl) (by kernel_rfl) (fun _ _ _ h => h) (by rfl) ?g1y13 (by assumption) ?g1r13
              case g1y13 => (intro W hS; first | (go_simp; done) | (go_simp; with_reducible rfl))
              simp only [Act.put, List.setIfInBounds_toArray, List.set_cons_zero, List.set_cons_succ]
              refine wpAnyH_done (by kernel_rfl) ?_ _
              clear hS0 hS5 hS6 gx0 gx1 gx2 gx3 gx4
              go_wp2_with fail
              go_meet
              exact ⟨by simp, ⟨_, _, _, _, _, _, _, _, HL6.out, HR6.out, HD6.out, HG6.out, HB6.out⟩, HX6.out⟩
            · go_meet
              exact ⟨rfl, ⟨_, _, _, _, _, _, _, _, HL.out, HRF.out, HDIS.out, HG.out, HB.out⟩, HXC.out⟩
          case rest =>
            clear hx0 hx1 hx2 hx3 hx4 HL HRF HDIS HG HB HNL HNR HWX HSX HXC aa acap all p ao cap ra rcap
            obtain ⟨rfl, HCUT⟩ := hcut
            obtain ⟨⟨aa, acap, all, p, ao, cap, ra, rcap, hla, hrf, hdis, hgd, hb⟩, hxc⟩ := HCUT.out
            have gx1 := cell_of_heap hxc 1
            have gx3 := cell_of_heap hxc 3
            have hxl := (Array.getElem?_eq_some_iff.1 hxc).1
            have HXC := hide hxc
            have HL := hide hla
            have HRF := hide hrf
            have HDIS := hide hdis
            have HG := hide hgd
            have HB := hide hb
            clear hla hrf hdis hgd hb hxc HCUT
            by_cases hn : x.n < 1 ∨ (all.length : Int) < x.n
            · have HN := hide hn
              clear hn
              go_wp2_with fail
              refine (lane_Get_no _ x.n HL.out HN.out).mono ?_
              rintro e w5 ⟨rfl, hb5⟩
              have hc5 := Chg.of_below0 (S := fun _ => False) hb5
              obtain ⟨w6, hw6⟩ : ∃ w6, w6 = w5.alloc (.cells #[.int .i64 0, .int .i64 0, .int .i64 0, .int .i64 0] 71) := ⟨_, rfl⟩
              have hc6 : Chg (fun _ => False) wc w6 := hc5.trans (by rw [hw6]; exact Chg.alloc _ w5 _) (fun _ _ h => h) (fun _ _ h => h)
              have he6 : w6.heap[w5.heap.size]? = some (.cells #[.int .i64 0, .int .i64 0, .int .i64 0, .int .i64 0] 71 (0, 0)) := by rw [hw6]; exact heap_alloc_new w5 _
              have HX6 := hide (hc6.heap HXC.out (fun h => h))
              have HL6 := hide (HL.out.chg hc6 (fun _ _ h => h))
              have HR6 := hide (HRF.out.chg hc6 (fun _ _ h => h))
              have HB6 := hide (HB.out.trans (hc6.below HB.out.size (fun _ _ h => h)))
              have HE6 := hide he6
              have HW6 := hide hw6
              clear hb5 hc5 hc6 he6 hw6 gx1 gx3
              go_wp2_with fail
              rw [← HW6.out]
              have hx1 := cell_of_heap HX6.out 1
              have hx3 := cell_of_heap HX6.out 3
              have he0 := cell_of_heap HE6.out 0
              have he1 := cell_of_heap HE6.out 1
              have he2 := cell_of_heap HE6.out 2
              have he3 := cell_of_heap HE6.out 3
              have hr0 := cell_of_heap HR6.out.box 0
              refine reg_start (Chg (fun _ => False) w6) 54 (by rfl) (by kernel_rfl) (Chg.drew _ _) ?_
              intro hS0
              refine reg_take (i := 0) (v := ?g2v0) rfl (by kernel_rfl) (by kernel_rfl) (by kernel_rfl) (fun _ _ _ h => h) (by rfl) ?g2y0 (by assumption) ?g2r0
              case g2y0 => (intro W hS; first | (go_simp; done) | (go_simp; with_reducible rfl))
              simp only [Act.put, List.setIfInBounds_toArray, List.set_cons_zero, List.set_cons_succ]
              refine reg_take (i := 1) (v := ?g2v1) rfl (by kernel_rfl) (by kernel_rfl) (by kernel_rfl) (fun _ _ _ h => h) (by rfl) ?g2y1 (by assumption) ?g2r1
              case g2y1 => (intro W hS; first | (go_simp; done) | (go_simp; with_reducible rfl))
              simp only [Act.put, List.setIfInBounds_toArray, List.set_cons_zero, List.set_cons_succ]
              refine reg_take (i := 2) (v := ?g2v2) rfl (by kernel_rfl) (by kernel_rfl) (by kernel_rfl) (fun _ _ _ h => h) (by rfl) ?g2y2 (by assumption) ?g2r2
              case g2y2 => (intro W hS; first | (go_simp; done) | (go_simp; with_reducible rfl))
              simp only [Act.put, List.setIfInBounds_toArray, List.set_cons_zero, List.set_cons_succ]
              refine reg_take (i := 3) (v := ?g2v3) rfl (by kernel_rfl) (by kernel_rfl) (by kernel_rfl) (fun _ _ _ h => h) (by rfl) ?g2y3 (by assumption) ?g2r3
              case g2y3 => (intro W hS; first | (go_simp; done) | (go_simp; with_reducible rfl))
              simp only [Act.put, List.setIfInBounds_toArray, List.set_cons_zero, List.set_cons_succ]
              refine reg_take (i := 4) (v := ?g2v4) rfl (by kernel_rfl) (by kernel_rfl) (by kernel_rfl) (fun _ _ _ h => h) (by rfl) ?g2y4 (by assumption) ?g2r4
              case g2y4 => (intro W hS; first | (go_simp; done) | (go_simp; with_reducible rfl))
              simp only [Act.put, List.setIfInBounds_toArray, List.set_cons_zero, List.set_cons_succ]
              refine reg_take (i := 5) (v := ?g2v5) rfl (by kernel_rfl) (by kernel_rfl) (by kernel_rfl) (fun _ _ _ h => h) (by rfl) ?g2y5 (by assumption) ?g2r5
              case g2y5 => (intro W hS; first | (go_simp; done) | (go_simp; with_reducible rfl))
              simp only [Act.put, List.setIfInBounds_toArray, List.set_cons_zero, List.set_cons_succ]
              refine reg_take (i := 6) (v := ?g2v6) rfl (by kernel_rfl) (by kernel_rfl) (by kernel_rfl) (fun _ _ _ h => h) (by rfl) ?g2y6 (by assumption) ?g2r6
              case g2y6 => (intro W hS; have f1 := hS.cell hx1 (fun h => h); have f3 := hS.cell hx3 (fun h => h); have e0 := hS.cell he0 (fun h => h); have e1 := hS.cell he1 (fun h => h); have e2 := hS.cell he2 (fun h => h); have e3 := hS.cell he3 (fun h => h); have r0 := hS.cell hr0 (fun h => h); first | (go_simp; done) | (go_simp; with_reducible rfl))
              simp only [Act.put, List.setIfInBounds_toArray, List.set_cons_zero, List.set_cons_succ]
              refine reg_call (i := 7) (#[.pointer (some ⟨rp, 0, none⟩), .int .i64 x.n]) rfl (by kernel_rfl) (by rfl) (enters_of Try.func52 (by kernel_rfl) rfl) (by first | (simp [Act.eval]; done) | rfl) ?_
              refine (ref20_Has_no _ x.n (HR6.out.chg hS0 (fun _ _ h => h)) HN.out).mono ?_
              rintro e w7 ⟨rfl, rfl⟩
              refine ⟨_, rfl, hS0, ?_⟩
              simp only [Act.put, List.setIfInBounds_toArray, List.set_cons_zero, List.set_cons_succ]
              refine reg_take (i := 8) (v := ?g2v8) rfl (by kernel_rfl) (by kernel_rfl) (by kernel_rfl) (fun _ _ _ h => h) (by rfl) ?g2y8 (by assumption) ?g2r8
              case g2y8 => (intro W hS; first | (go_simp; done) | (go_simp; with_reducible rfl))
              simp only [Act.put, List.setIfInBounds_toArray, List.set_cons_zero, List.set_cons_succ]
              refine reg_take (i := 9) (v := ?g2v9) rfl (by kernel_rfl) (by kernel_rfl) (by kernel_rfl) (fun _ _ _ h => h) (by rfl) ?g2y9 (by assumption) ?g2r9
              case g2y9 => (intro W hS; first | (go_simp; done) | (go_simp; with_reducible rfl))
              simp only [Act.put, List.setIfInBounds_toArray, List.set_cons_zero, List.set_cons_succ]
              refine reg_take (i := 10) (v := ?g2v10) rfl (by kernel_rfl) (by kernel_rfl) (by kernel_rfl) (fun _ _ _ h => h) (by rfl) ?g2y10 (by assumption) ?g2r10
              case g2y10 => (intro W hS; first | (go_simp; done) | (go_simp; with_reducible rfl))
              simp only [Act.put, List.setIfInBounds_toArray, List.set_cons_zero, List.set_cons_succ]
              refine reg_take (i := 11) (v := ?g2v11) rfl (by kernel_rfl) (by kernel_rfl) (by kernel_rfl) (fun _ _ _ h => h) (by rfl) ?g2y11 (by assumption) ?g2r11
              case g2y11 => (intro W hS; first | (go_simp; done) | (go_simp; with_reducible rfl))
              simp only [Act.put, List.setIfInBounds_toArray, List.set_cons_zero, List.set_cons_succ]
              refine reg_take (i := 12) (v := ?g2v12) rfl (by kernel_rfl) (by kernel_rfl) (by kernel_rfl) (fun _ _ _ h => h) (by rfl) ?g2y12 (by assumption) ?g2r12
              case g2y12 => (intro W hS; first | (go_simp; done) | (go_simp; with_reducible rfl))
              simp only [Act.put, List.setIfInBounds_toArray, List.set_cons_zero, List.set_cons_succ]
              refine reg_skip (i := 13) rfl (by kernel_rfl) (by kernel_rfl) (by kernel_rfl) (fun _ _ _ h => h) (by rfl) (by assumption) ?_
              simp only [Act.put, List.setIfInBounds_toArray, List.set_cons_zero, List.set_cons_succ]
              refine reg_skip (i := 14) rfl (by kernel_rfl) (by kernel_rfl) (by kernel_rfl) (fun _ _ _ h => h) (by rfl) (by assumption) ?_
              simp only [Act.put, List.setIfInBounds_toArray, List.set_cons_zero, List.set_cons_succ]
              refine reg_skip (i := 15) rfl (by kernel_rfl) (by kernel_rfl) (by kernel_rfl) (fun _ _ _ h => h) (by rfl) (by assumption) ?_
              simp only [Act.put, List.setIfInBounds_toArray, List.set_cons_zero, List.set_cons_succ]
              refine reg_skip (i := 16) rfl (by kernel_rfl) (by kernel_rfl) (by kernel_rfl) (fun _ _ _ h => h) (by rfl) (by assumption) ?_
              simp only [Act.put, List.setIfInBounds_toArray, List.set_cons_zero, List.set_cons_succ]
              refine reg_skip (i := 17) rfl (by kernel_rfl) (by kernel_rfl) (by kernel_rfl) (fun _ _ _ h => h) (by rfl) (by assumption) ?_
              simp only [Act.put, List.setIfInBounds_toArray, List.set_cons_zero, List.set_cons_succ]
              refine reg_skip (i := 18) rfl (by kernel_rfl) (by kernel_rfl) (by kernel_rfl) (fun _ _ _ h => h) (by rfl) (by assumption) ?_
              simp only [Act.put, List.setIfInBounds_toArray, List.set_cons_zero, List.set_cons_succ]
              refine reg_skip (i := 19) rfl (by kernel_rfl) (by kernel_rfl) (by kernel_rfl) (fun _ _ _ h => h) (by rfl) (by assumption) ?_
              simp only [Act.put, List.setIfInBounds_toArray, List.set_cons_zero, List.set_cons_succ]
              refine reg_skip (i := 20) rfl (by kernel_rfl) (by kernel_rfl) (by kernel_rfl) (fun _ _ _ h => h) (by rfl) (by assumption) ?_
              simp only [Act.put, List.setIfInBounds_toArray, List.set_cons_zero, List.set_cons_succ]
              refine reg_skip (i := 21) rfl (by kernel_rfl) (by kernel_rfl) (by kernel_rfl) (fun _ _ _ h => h) (by rfl) (by assumption) ?_
              simp only [Act.put, List.setIfInBounds_toArray, List.set_cons_zero, List.set_cons_succ]
              refine reg_skip (i := 22) rfl (by kernel_rfl) (by kernel_rfl) (by kernel_rfl) (fun _ _ _ h => h) (by rfl) (by assumption) ?_
              simp only [Act.put, List.setIfInBounds_toArray, List.set_cons_zero, List.set_cons_succ]
              refine reg_skip (i := 23) rfl (by kernel_rfl) (by kernel_rfl) (by kernel_rfl) (fun _ _ _ h => h) (by rfl) (by assumption) ?_
              simp only [Act.put, List.setIfInBounds_toArray, List.set_cons_zero, List.set_cons_succ]
              refine reg_take (i := 24) (v := ?g2v24) rfl (by kernel_rfl) (by kernel_rfl) (by kernel_rfl) (fun _ _ _ h => h) (by rfl) ?g2y24 (by assumption) ?g2r24
              case g2y24 => (intro W hS; first | (go_simp; done) | (go_simp; with_reducible rfl))
              simp only [Act.put, List.setIfInBounds_toArray, List.set_cons_zero, List.set_cons_succ]
              refine reg_take (i := 25) (v := ?g2v25) rfl (by kernel_rfl) (by kernel_rfl) (by kernel_rfl) (fun _ _ _ h => h) (by rfl) ?g2y25 (by assumption) ?g2r25
              case g2y25 => (intro W hS; first | (go_simp; done) | (go_simp; with_reducible rfl))
              simp only [Act.put, List.setIfInBounds_toArray, List.set_cons_zero, List.set_cons_succ]
              refine reg_take (i := 26) (v := ?g2v26) rfl (by kernel_rfl) (by kernel_rfl) (by kernel_rfl) (fun _ _ _ h => h) (by rfl) ?g2y26 (by assumption) ?g2r26
              case g2y26 => (intro W hS; first | (go_simp; done) | (go_simp; with_reducible rfl))
              simp only [Act.put, List.setIfInBounds_toArray, List.set_cons_zero, List.set_cons_succ]
              refine reg_take (i := 27) (v := ?g2v27) rfl (by kernel_rfl) (by kernel_rfl) (by kernel_rfl) (fun _ _ _ h => h) (by rfl) ?g2y27 (by assumption) ?g2r27
              case g2y27 => (intro W hS; first | (go_simp; done) | (go_simp; with_reducible rfl))
              simp only [Act.put, List.setIfInBounds_toArray, List.set_cons_zero, List.set_cons_succ]
              refine reg_take (i := 28) (v := ?g2v28) rfl (by kernel_rfl) (by kernel_rfl) (by kernel_rfl) (fun _ _ _ h => h) (by rfl) ?g2y28 (by assumption) ?g2r28
              case g2y28 => (intro W hS; first | (go_simp; done) | (go_simp; with_reducible rfl))
              simp only [Act.put, List.setIfInBounds_toArray, List.set_cons_zero, List.set_cons_succ]
              refine reg_take (i := 29) (v := ?g2v29) rfl (by kernel_rfl) (by kernel_rfl) (by kernel_rfl) (fun _ _ _ h => h) (by rfl) ?g2y29 (by assumption) ?g2r29
              case g2y29 => (intro W hS; first | (go_simp; done) | (go_simp; with_reducible rfl))
              simp only [Act.put, List.setIfInBounds_toArray, List.set_cons_zero, List.set_cons_succ]
              refine reg_take (i := 30) (v := ?g2v30) rfl (by kernel_rfl) (by kernel_rfl) (by kernel_rfl) (fun _ _ _ h => h) (by rfl) ?g2y30 (by assumption) ?g2r30
              case g2y30 => (intro W hS; have f1 := hS.cell hx1 (fun h => h); have f3 := hS.cell hx3 (fun h => h); have e0 := hS.cell he0 (fun h => h); have e1 := hS.cell he1 (fun h => h); have e2 := hS.cell he2 (fun h => h); have e3 := hS.cell he3 (fun h => h); have r0 := hS.cell hr0 (fun h => h); first | (go_simp; done) | (go_simp; with_reducible rfl))
              simp only [Act.put, List.setIfInBounds_toArray, List.set_cons_zero, List.set_cons_succ]
              refine reg_take (i := 31) (v := ?g2v31) rfl (by kernel_rfl) (by kernel_rfl) (by kernel_rfl) (fun _ _ _ h => h) (by rfl) ?g2y31 (by assumption) ?g2r31
              case g2y31 => (intro W hS; first | (go_simp; done) | (go_simp; with_reducible rfl))
              simp only [Act.put, List.setIfInBounds_toArray, List.set_cons_zero, List.set_cons_succ]
              refine reg_take (i := 32) (v := ?g2v32) rfl (by kernel_rfl) (by kernel_rfl) (by kernel_rfl) (fun _ _ _ h => h) (by rfl) ?g2y32 (by assumption) ?g2r32
              case g2y32 => (intro W hS; first | (go_simp; done) | (go_simp; with_reducible rfl))
              simp only [Act.put, List.setIfInBounds_toArray, List.set_cons_zero, List.set_cons_succ]
              refine reg_take (i := 33) (v := ?g2v33) rfl (by kernel_rfl) (by kernel_rfl) (by kernel_rfl) (fun _ _ _ h => h) (by rfl) ?g2y33 (by assumption) ?g2r33
              case g2y33 => (intro W hS; first | (go_simp; done) | (go_simp; with_reducible rfl))
              simp only [Act.put, List.setIfInBounds_toArray, List.set_cons_zero, List.set_cons_succ]
              refine reg_take (i := 34) (v := ?g2v34) rfl (by kernel_rfl) (by kernel_rfl) (by kernel_rfl) (fun _ _ _ h => h) (by rfl) ?g2y34 (by assumption) ?g2r34
              case g2y34 => (intro W hS; first | (go_simp; done) | (go_simp; with_reducible rfl))
              simp only [Act.put, List.setIfInBounds_toArray, List.set_cons_zero, List.set_cons_succ]
              refine reg_take (i := 35) (v := ?g2v35) rfl (by kernel_rfl) (by kernel_rfl) (by kernel_rfl) (fun _ _ _ h => h) (by rfl) ?g2y35 (by assumption) ?g2r35
              case g2y35 => (intro W hS; first | (go_simp; done) | (go_simp; with_reducible rfl))
              simp only [Act.put, List.setIfInBounds_toArray, List.set_cons_zero, List.set_cons_succ]
              refine reg_take (i := 36) (v := ?g2v36) rfl (by kernel_rfl) (by kernel_rfl) (by kernel_rfl) (fun _ _ _ h => h) (by rfl) ?g2y36 (by assumption) ?g2r36
              case g2y36 => (intro W hS; first | (go_simp; done) | (go_simp; with_reducible rfl))
              simp only [Act.put, List.setIfInBounds_toArray, List.set_cons_zero, List.set_cons_succ]
              refine reg_take (i := 37) (v := ?g2v37) rfl (by kernel_rfl) (by kernel_rfl) (by kernel_rfl) (fun _ _ _ h => h) (by rfl) ?g2y37 (by assumption) ?g2r37
              case g2y37 => (intro W hS; first | (go_simp; done) | (go_simp; with_reducible rfl))
              simp only [Act.put, List.setIfInBounds_toArray, List.set_cons_zero, List.set_cons_succ]
              refine reg_take (i := 38) (v := ?g2v38) rfl (by kernel_rfl) (by kernel_rfl) (by kernel_rfl) (fun _ _ _ h => h) (by rfl) ?g2y38 (by assumption) ?g2r38
              case g2y38 => (intro W hS; have f1 := hS.cell hx1 (fun h => h); have f3 := hS.cell hx3 (fun h => h); have e0 := hS.cell he0 (fun h => h); have e1 := hS.cell he1 (fun h => h); have e2 := hS.cell he2 (fun h => h); have e3 := hS.cell he3 (fun h => h); have r0 := hS.cell hr0 (fun h => h); first | (go_simp; done) | (go_simp; with_reducible rfl))
              simp only [Act.put, List.setIfInBounds_toArray, List.set_cons_zero, List.set_cons_succ]
              refine reg_take (i := 40) (v := ?g2v40) rfl (by kernel_rfl) (by kernel_rfl) (by kernel_rfl) (fun _ _ _ h => h) (by rfl) ?g2y40 (by assumption) ?g2r40
              case g2y40 => (intro W hS; first | (go_simp; done) | (go_simp; with_reducible rfl))
              simp only [Act.put, List.setIfInBounds_toArray, List.set_cons_zero, List.set_cons_succ]
              refine reg_take (i := 41) (v := ?g2v41) rfl (by kernel_rfl) (by kernel_rfl) (by kernel_rfl) (fun _ _ _ h => h) (by rfl) ?g2y41 (by assumption) ?g2r41
              case g2y41 => (intro W hS; first | (go_simp; done) | (go_simp; with_reducible rfl))
              simp only [Act.put, List.setIfInBounds_toArray, List.set_cons_zero, List.set_cons_succ]
              refine reg_take (i := 42) (v := ?g2v42) rfl (by kernel_rfl) (by kernel_rfl) (by kernel_rfl) (fun _ _ _ h => h) (by rfl) ?g2y42 (by assumption) ?g2r42
              case g2y42 => (intro W hS; have f1 := hS.cell hx1 (fun h => h); have f3 := hS.cell hx3 (fun h => h); have e0 := hS.cell he0 (fun h => h); have e1 := hS.cell he1 (fun h => h); have e2 := hS.cell he2 (fun h => h); have e3 := hS.cell he3 (fun h => h); have r0 := hS.cell hr0 (fun h => h); first | (go_simp; done) | (go_simp; with_reducible rfl))
              simp only [Act.put, List.setIfInBounds_toArray, List.set_cons_zero, List.set_cons_succ]
              refine reg_call (i := 39) (#[.pointer (some ⟨lp, 0, none⟩), .int .i64 x.commit]) rfl (by kernel_rfl) (by rfl) (enters_of Try.func42 (by kernel_rfl) rfl) (by first | (simp [Act.eval]; done) | rfl) ?_
              refine (lane_Waits _ x.commit (HL6.out.chg hS0 (fun _ _ h => h))).mono ?_
              rintro e w8 ⟨rfl, hb8⟩
              have hS8 := hS0.trans (Chg.of_below0 (S := fun _ => False) hb8) (S'' := fun _ => False) (fun _ _ h => h) (fun _ _ h => h)
              clear hb8
              refine ⟨_, rfl, hS8, ?_⟩
              simp only [Act.put, List.setIfInBounds_toArray, List.set_cons_zero, List.set_cons_succ]
              refine reg_call (i := 43) (#[.pointer (some ⟨rp, 0, none⟩), .int .i64 x.commit]) rfl (by kernel_rfl) (by rfl) (enters_of Try.func53 (by kernel_rfl) rfl) (by first | (simp [Act.eval]; done) | rfl) ?_
              refine (ref20_Waits _ x.commit (HR6.out.chg hS8 (fun _ _ h => h))).mono ?_
              rintro e w9 ⟨rfl, hb9⟩
              have hS9 := hS8.trans (Chg.of_below0 (S := fun _ => False) hb9) (S'' := fun _ => False) (fun _ _ h => h) (fun _ _ h => h)
              clear hb9
              refine ⟨_, rfl, hS9, ?_⟩
              simp only [Act.put, List.setIfInBounds_toArray, List.set_cons_zero, List.set_cons_succ]
              refine reg_take (i := 44) (v := ?g2v44) rfl (by kernel_rfl) (by kernel_rfl) (by kernel_rfl) (fun _ _ _ h => h) (by rfl) ?g2y44 (by assumption) ?g2r44
              case g2y44 => (intro W hS; first | (go_simp; done) | (go_simp; with_reducible rfl))
              simp only [Act.put, List.setIfInBounds_toArray, List.set_cons_zero, List.set_cons_succ]
              refine reg_take (i := 45) (v := ?g2v45) rfl (by kernel_rfl) (by kernel_rfl) (by kernel_rfl) (fun _ _ _ h => h) (by rfl) ?g2y45 (by assumption) ?g2r45
              case g2y45 => (intro W hS; first | (go_simp; done) | (go_simp; with_reducible rfl))
              simp only [Act.put, List.setIfInBounds_toArray, List.set_cons_zero, List.set_cons_succ]
              refine reg_take (i := 46) (v := ?g2v46) rfl (by kernel_rfl) (by kernel_rfl) (by kernel_rfl) (fun _ _ _ h => h) (by rfl) ?g2y46 (by assumption) ?g2r46
              case g2y46 => (intro W hS; first | (go_simp; done) | (go_simp; with_reducible rfl))
              simp only [Act.put, List.setIfInBounds_toArray, List.set_cons_zero, List.set_cons_succ]
              refine reg_take (i := 47) (v := ?g2v47) rfl (by kernel_rfl) (by kernel_rfl) (by kernel_rfl) (fun _ _ _ h => h) (by rfl) ?g2y47 (by assumption) ?g2r47
              case g2y47 => (intro W hS; first | (go_simp; done) | (go_simp; with_reducible rfl))
              simp only [Act.put, List.setIfInBounds_toArray, List.set_cons_zero, List.set_cons_succ]
              refine reg_take (i := 49) (v := ?g2v49) rfl (by kernel_rfl) (by kernel_rfl) (by kernel_rfl) (fun _ _ _ h => h) (by rfl) ?g2y49 (by assumption) ?g2r49
              case g2y49 => (intro W hS; first | (go_simp; done) | (go_simp; with_reducible rfl))
              simp only [Act.put, List.setIfInBounds_toArray, List.set_cons_zero, List.set_cons_succ]
              refine reg_call (i := 48) (#[.pointer (some ⟨lp, 0, none⟩)]) rfl (by kernel_rfl) (by rfl) (enters_of Try.func45 (by kernel_rfl) rfl) (by first | (simp [Act.eval]; done) | rfl) ?_
              refine (lane_Len _ (HL6.out.chg hS9 (fun _ _ h => h))).mono ?_
              rintro e w10 ⟨rfl, rfl⟩
              refine ⟨_, rfl, hS9, ?_⟩
              simp only [Act.put, List.setIfInBounds_toArray, List.set_cons_zero, List.set_cons_succ]
              refine reg_call (i := 50) (#[.pointer (some ⟨rp, 0, none⟩)]) rfl (by kernel_rfl) (by rfl) (enters_of Try.func54 (by kernel_rfl) rfl) (by first | (simp [Act.eval]; done) | rfl) ?_
              refine (ref20_Waiting _ (HR6.out.chg hS9 (fun _ _ h => h))).mono ?_
              rintro e w11 ⟨ao11, cap11, rfl, -, hb11⟩
              have hS11 := hS9.trans (Chg.of_below0 (S := fun _ => False) hb11) (S'' := fun _ => False) (fun _ _ h => h) (fun _ _ h => h)
              clear hb11
              refine ⟨_, rfl, hS11, ?_⟩
              simp only [Act.put, List.setIfInBounds_toArray, List.set_cons_zero, List.set_cons_succ]
              refine reg_take (i := 51) (v := ?g2v51) rfl (by kernel_rfl) (by kernel_rfl) (by kernel_rfl) (fun _ _ _ h => h) (by rfl) ?g2y51 (by assumption) ?g2r51
              case g2y51 => (intro W hS; first | (go_simp; done) | (go_simp; with_reducible rfl))
              simp only [Act.put, List.setIfInBounds_toArray, List.set_cons_zero, List.set_cons_succ]
              refine reg_take (i := 52) (v := ?g2v52) rfl (by kernel_rfl) (by kernel_rfl) (by kernel_rfl) (fun _ _ _ h => h) (by rfl) ?g2y52 (by assumption) ?g2r52
              case g2y52 => (intro W hS; first | (go_simp; done) | (go_simp; with_reducible rfl))
              simp only [Act.put, List.setIfInBounds_toArray, List.set_cons_zero, List.set_cons_succ]
              refine reg_take (i := 53) (v := ?g2v53) rfl (by kernel_rfl) (by kernel_rfl) (by kernel_rfl) (fun _ _ _ h => h) (by rfl) ?g2y53 (by assumption) ?g2r53
              case g2y53 => (intro W hS; first | (go_simp; done) | (go_simp; with_reducible rfl))
              simp only [Act.put, List.setIfInBounds_toArray, List.set_cons_zero, List.set_cons_succ]
              refine wpAnyH_done (by kernel_rfl) ?_ _
              have HS11 := hide hS11
              clear hS0 hS8 hS9 hS11 hx1 hx3 he0 he1 he2 he3 hr0
              go_wp2_with fail
              go_roundw
              case rel => exact ⟨k + 1, by omega, by go_num, _, _, all, _, _, _, _, _, HL6.out.chg HS11.out (fun _ _ h => h), HR6.out.chg HS11.out (fun _ _ h => h), HDIS.out, HG.out, HB6.out.trans (HS11.out.below HB6.out.size (fun _ _ h => h))⟩
              case measure => simp [intOf]; omega
            · obtain ⟨m, hm⟩ : ∃ m : Nat, x.n = (m : Int) + 1 := ⟨(x.n - 1).toNat, by omega⟩
              rw [hm] at gx3 HXC hn
              have hn : m < all.length := by omega
              have hfew := HRF.out.few
              obtain ⟨y, hy⟩ : ∃ y, y = all[m] := ⟨_, rfl⟩
              have hG := lane_Get_yes wc m HL.out hn
              rw [← hy] at hG
              have HGT := hide hG
              have HY := hide hy
              have HM := hide hm
              clear hG hy hm
              go_wp2_with fail
              refine HGT.out.mono ?_
              rintro e w5 ⟨rfl, hb5⟩
              have hc5 := Chg.of_below0 (S := fun _ => False) hb5
              obtain ⟨w6, hw6⟩ : ∃ w6, w6 = w5.alloc (.cells #[.int .i64 y.number, .int .i64 y.commit, .int .i64 y.lane, .int .i64 y.code] 71) := ⟨_, rfl⟩
              have hc6 : Chg (fun _ => False) wc w6 := hc5.trans (by rw [hw6]; exact Chg.alloc _ w5 _) (fun _ _ h => h) (fun _ _ h => h)
              have he6 : w6.heap[w5.heap.size]? = some (.cells #[.int .i64 y.number, .int .i64 y.commit, .int .i64 y.lane, .int .i64 y.code] 71 (0, 0)) := by rw [hw6]; exact heap_alloc_new w5 _
              have HX6 := hide (hc6.heap HXC.out (fun h => h))
              have HL6 := hide (HL.out.chg hc6 (fun _ _ h => h))
              have HR6 := hide (HRF.out.chg hc6 (fun _ _ h => h))
              have HB6 := hide (HB.out.trans (hc6.below HB.out.size (fun _ _ h => h)))
              have HE6 := hide he6
              have HW6 := hide hw6
              clear hb5 hc5 hc6 he6 hw6 gx1 gx3
              go_wp2_with fail
              rw [← HW6.out]
              have hx1 := cell_of_heap HX6.out 1
              have hx3 := cell_of_heap HX6.out 3
              have he0 := cell_of_heap HE6.out 0
              have he1 := cell_of_heap HE6.out 1
              have he2 := cell_of_heap HE6.out 2
              have he3 := cell_of_heap HE6.out 3
              have hr0 := cell_of_heap HR6.out.box 0
              obtain ⟨gb, rfl, hcs, -, -⟩ := own_at HR6.out.own (by omega)
              obtain ⟨hy0, hy1, hy2, hy3⟩ := pe_cells w6 gb 0 all hcs m hn
              simp only [Nat.zero_add, ← HY.out] at hy0 hy1 hy2 hy3
              have a1 : IntKind.i64.wrap (m : Int) = m := IntWalk.i64_in _ (by omega)
              have a2 : IntKind.i64.wrap ((m : Int) + 1 - 1) = m := by rw [Int.add_sub_cancel]; exact a1
              have hmi : (m : Int) < all.length := by omega
              have hmc : m < all.length := hn
              clear hcs
              refine reg_start (Chg (fun _ => False) w6) 54 (by rfl) (by kernel_rfl) (Chg.drew _ _) ?_
              intro hS0
              refine reg_take (i := 0) (v := ?g3v0) rfl (by kernel_rfl) (by kernel_rfl) (by kernel_rfl) (fun _ _ _ h => h) (by rfl) ?g3y0 (by assumption) ?g3r0
              case g3y0 => (intro W hS; first | (go_simp; done) | (go_simp; with_reducible rfl))
              simp only [Act.put, List.setIfInBounds_toArray, List.set_cons_zero, List.set_cons_succ]
              refine reg_take (i := 1) (v := ?g3v1) rfl (by kernel_rfl) (by kernel_rfl) (by kernel_rfl) (fun _ _ _ h => h) (by rfl) ?g3y1 (by assumption) ?g3r1
              case g3y1 => (intro W hS; first | (go_simp; done) | (go_simp; with_reducible rfl))
              simp only [Act.put, List.setIfInBounds_toArray, List.set_cons_zero, List.set_cons_succ]
              refine reg_take (i := 2) (v := ?g3v2) rfl (by kernel_rfl) (by kernel_rfl) (by kernel_rfl) (fun _ _ _ h => h) (by rfl) ?g3y2 (by assumption) ?g3r2
              case g3y2 => (intro W hS; first | (go_simp; done) | (go_simp; with_reducible rfl))
              simp only [Act.put, List.setIfInBounds_toArray, List.set_cons_zero, List.set_cons_succ]
              refine reg_take (i := 3) (v := ?g3v3) rfl (by kernel_rfl) (by kernel_rfl) (by kernel_rfl) (fun _ _ _ h => h) (by rfl) ?g3y3 (by assumption) ?g3r3
              case g3y3 => (intro W hS; first | (go_simp; done) | (go_simp; with_reducible rfl))
              simp only [Act.put, List.setIfInBounds_toArray, List.set_cons_zero, List.set_cons_succ]
              refine reg_take (i := 4) (v := ?g3v4) rfl (by kernel_rfl) (by kernel_rfl) (by kernel_rfl) (fun _ _ _ h => h) (by rfl) ?g3y4 (by assumption) ?g3r4
              case g3y4 => (intro W hS; first | (go_simp; done) | (go_simp; with_reducible rfl))
              simp only [Act.put, List.setIfInBounds_toArray, List.set_cons_zero, List.set_cons_succ]
              refine reg_take (i := 5) (v := ?g3v5) rfl (by kernel_rfl) (by kernel_rfl) (by kernel_rfl) (fun _ _ _ h => h) (by rfl) ?g3y5 (by assumption) ?g3r5
              case g3y5 => (intro W hS; first | (go_simp; done) | (go_simp; with_reducible rfl))
              simp only [Act.put, List.setIfInBounds_toArray, List.set_cons_zero, List.set_cons_succ]
              refine reg_take (i := 6) (v := ?g3v6) rfl (by kernel_rfl) (by kernel_rfl) (by kernel_rfl) (fun _ _ _ h => h) (by rfl) ?g3y6 (by assumption) ?g3r6
              case g3y6 => (intro W hS; have f1 := hS.cell hx1 (fun h => h); have f3 := hS.cell hx3 (fun h => h); have e0 := hS.cell he0 (fun h => h); have e1 := hS.cell he1 (fun h => h); have e2 := hS.cell he2 (fun h => h); have e3 := hS.cell he3 (fun h => h); have r0 := hS.cell hr0 (fun h => h); have y0 := hS.cell hy0 (fun h => h); have y1 := hS.cell hy1 (fun h => h); have y2 := hS.cell hy2 (fun h => h); have y3 := hS.cell hy3 (fun h => h); first | (go_simp; done) | (go_simp; with_reducible rfl))
              simp only [Act.put, List.setIfInBounds_toArray, List.set_cons_zero, List.set_cons_succ]
              refine reg_call (i := 7) (#[.pointer (some ⟨rp, 0, none⟩), .int .i64 (m + 1)]) rfl (by kernel_rfl) (by rfl) (enters_of Try.func52 (by kernel_rfl) rfl) (by first | (simp [Act.eval]; done) | rfl) ?_
              refine (ref20_Has_yes _ m (HR6.out.chg hS0 (fun _ _ h => h)) hn).mono ?_
              rintro e w7 ⟨rfl, rfl⟩
              refine ⟨_, rfl, hS0, ?_⟩
              simp only [Act.put, List.setIfInBounds_toArray, List.set_cons_zero, List.set_cons_succ]
              refine reg_take (i := 8) (v := ?g3v8) rfl (by kernel_rfl) (by kernel_rfl) (by kernel_rfl) (fun _ _ _ h => h) (by rfl) ?g3y8 (by assumption) ?g3r8
              case g3y8 => (intro W hS; first | (go_simp; done) | (go_simp; with_reducible rfl))
              simp only [Act.put, List.setIfInBounds_toArray, List.set_cons_zero, List.set_cons_succ]
              refine reg_take (i := 9) (v := ?g3v9) rfl (by kernel_rfl) (by kernel_rfl) (by kernel_rfl) (fun _ _ _ h => h) (by rfl) ?g3y9 (by assumption) ?g3r9
              case g3y9 => (intro W hS; first | (go_simp; done) | (go_simp; with_reducible rfl))
              simp only [Act.put, List.setIfInBounds_toArray, List.set_cons_zero, List.set_cons_succ]
              refine reg_take (i := 10) (v := ?g3v10) rfl (by kernel_rfl) (by kernel_rfl) (by kernel_rfl) (fun _ _ _ h => h) (by rfl) ?g3y10 (by assumption) ?g3r10
              case g3y10 => (intro W hS; first | (go_simp; done) | (go_simp; with_reducible rfl))
              simp only [Act.put, List.setIfInBounds_toArray, List.set_cons_zero, List.set_cons_succ]
              refine reg_take (i := 11) (v := ?g3v11) rfl (by kernel_rfl) (by kernel_rfl) (by kernel_rfl) (fun _ _ _ h => h) (by rfl) ?g3y11 (by assumption) ?g3r11
              case g3y11 => (intro W hS; first | (go_simp; done) | (go_simp; with_reducible rfl))
              simp only [Act.put, List.setIfInBounds_toArray, List.set_cons_zero, List.set_cons_succ]
              refine reg_take (i := 12) (v := ?g3v12) rfl (by kernel_rfl) (by kernel_rfl) (by kernel_rfl) (fun _ _ _ h => h) (by rfl) ?g3y12 (by assumption) ?g3r12
              case g3y12 => (intro W hS; first | (go_simp; done) | (go_simp; with_reducible rfl))
              simp only [Act.put, List.setIfInBounds_toArray, List.set_cons_zero, List.set_cons_succ]
              refine reg_take (i := 13) (v := ?g3v13) rfl (by kernel_rfl) (by kernel_rfl) (by kernel_rfl) (fun _ _ _ h => h) (by rfl) ?g3y13 (by assumption) ?g3r13
              case g3y13 => (intro W hS; have f1 := hS.cell hx1 (fun h => h); have f3 := hS.cell hx3 (fun h => h); have e0 := hS.cell he0 (fun h => h); have e1 := hS.cell he1 (fun h => h); have e2 := hS.cell he2 (fun h => h); have e3 := hS.cell he3 (fun h => h); have r0 := hS.cell hr0 (fun h => h); have y0 := hS.cell hy0 (fun h => h); have y1 := hS.cell hy1 (fun h => h); have y2 := hS.cell hy2 (fun h => h); have y3 := hS.cell hy3 (fun h => h); first | (go_simp; done) | (go_simp; with_reducible rfl))
              simp only [Act.put, List.setIfInBounds_toArray, List.set_cons_zero, List.set_cons_succ]
              refine reg_take (i := 14) (v := ?g3v14) rfl (by kernel_rfl) (by kernel_rfl) (by kernel_rfl) (fun _ _ _ h => h) (by rfl) ?g3y14 (by assumption) ?g3r14
              case g3y14 => (intro W hS; first | (go_simp; done) | (go_simp; with_reducible rfl))
              simp only [Act.put, List.setIfInBounds_toArray, List.set_cons_zero, List.set_cons_succ]
              refine reg_take (i := 15) (v := ?g3v15) rfl (by kernel_rfl) (by kernel_rfl) (by kernel_rfl) (fun _ _ _ h => h) (by rfl) ?g3y15 (by assumption) ?g3r15
              case g3y15 => (intro W hS; first | (go_simp; done) | (go_simp; with_reducible rfl))
              simp only [Act.put, List.setIfInBounds_toArray, List.set_cons_zero, List.set_cons_succ]
              refine reg_take (i := 16) (v := ?g3v16) rfl (by kernel_rfl) (by kernel_rfl) (by kernel_rfl) (fun _ _ _ h => h) (by rfl) ?g3y16 (by assumption) ?g3r16
              case g3y16 => (intro W hS; first | (go_simp; done) | (go_simp; with_reducible rfl))
              simp only [Act.put, List.setIfInBounds_toArray, List.set_cons_zero, List.set_cons_succ]
              refine reg_take (i := 17) (v := ?g3v17) rfl (by kernel_rfl) (by kernel_rfl) (by kernel_rfl) (fun _ _ _ h => h) (by rfl) ?g3y17 (by assumption) ?g3r17
              case g3y17 => (intro W hS; have f1 := hS.cell hx1 (fun h => h); have f3 := hS.cell hx3 (fun h => h); have e0 := hS.cell he0 (fun h => h); have e1 := hS.cell he1 (fun h => h); have e2 := hS.cell he2 (fun h => h); have e3 := hS.cell he3 (fun h => h); have r0 := hS.cell hr0 (fun h => h); have y0 := hS.cell hy0 (fun h => h); have y1 := hS.cell hy1 (fun h => h); have y2 := hS.cell hy2 (fun h => h); have y3 := hS.cell hy3 (fun h => h); first | (go_simp; done) | (go_simp; with_reducible rfl))
              simp only [Act.put, List.setIfInBounds_toArray, List.set_cons_zero, List.set_cons_succ]
              refine reg_take (i := 18) (v := ?g3v18) rfl (by kernel_rfl) (by kernel_rfl) (by kernel_rfl) (fun _ _ _ h => h) (by rfl) ?g3y18 (by assumption) ?g3r18
              case g3y18 => (intro W hS; first | (go_simp; done) | (go_simp; with_reducible rfl))
              simp only [Act.put, List.setIfInBounds_toArray, List.set_cons_zero, List.set_cons_succ]
              refine reg_take (i := 19) (v := ?g3v19) rfl (by kernel_rfl) (by kernel_rfl) (by kernel_rfl) (fun _ _ _ h => h) (by rfl) ?g3y19 (by assumption) ?g3r19
              case g3y19 => (intro W hS; have f1 := hS.cell hx1 (fun h => h); have f3 := hS.cell hx3 (fun h => h); have e0 := hS.cell he0 (fun h => h); have e1 := hS.cell he1 (fun h => h); have e2 := hS.cell he2 (fun h => h); have e3 := hS.cell he3 (fun h => h); have r0 := hS.cell hr0 (fun h => h); have y0 := hS.cell hy0 (fun h => h); have y1 := hS.cell hy1 (fun h => h); have y2 := hS.cell hy2 (fun h => h); have y3 := hS.cell hy3 (fun h => h); first | (go_simp; done) | (go_simp; with_reducible rfl))
              simp only [Act.put, List.setIfInBounds_toArray, List.set_cons_zero, List.set_cons_succ]
              refine reg_take (i := 20) (v := ?g3v20) rfl (by kernel_rfl) (by kernel_rfl) (by kernel_rfl) (fun _ _ _ h => h) (by rfl) ?g3y20 (by assumption) ?g3r20
              case g3y20 => (intro W hS; first | (go_simp; done) | (go_simp; with_reducible rfl))
              simp only [Act.put, List.setIfInBounds_toArray, List.set_cons_zero, List.set_cons_succ]
              refine reg_take (i := 21) (v := ?g3v21) rfl (by kernel_rfl) (by kernel_rfl) (by kernel_rfl) (fun _ _ _ h => h) (by rfl) ?g3y21 (by assumption) ?g3r21
              case g3y21 => (intro W hS; first | (go_simp; done) | (go_simp; with_reducible rfl))
              simp only [Act.put, List.setIfInBounds_toArray, List.set_cons_zero, List.set_cons_succ]
              refine reg_take (i := 22) (v := ?g3v22) rfl (by kernel_rfl) (by kernel_rfl) (by kernel_rfl) (fun _ _ _ h => h) (by rfl) ?g3y22 (by assumption) ?g3r22
              case g3y22 => (intro W hS; have f1 := hS.cell hx1 (fun h => h); have f3 := hS.cell hx3 (fun h => h); have e0 := hS.cell he0 (fun h => h); have e1 := hS.cell he1 (fun h => h); have e2 := hS.cell he2 (fun h => h); have e3 := hS.cell he3 (fun h => h); have r0 := hS.cell hr0 (fun h => h); have y0 := hS.cell hy0 (fun h => h); have y1 := hS.cell hy1 (fun h => h); have y2 := hS.cell hy2 (fun h => h); have y3 := hS.cell hy3 (fun h => h); first | (go_simp; done) | (go_simp; with_reducible rfl))
              simp only [Act.put, List.setIfInBounds_toArray, List.set_cons_zero, List.set_cons_succ]
              refine reg_take (i := 23) (v := ?g3v23) rfl (by kernel_rfl) (by kernel_rfl) (by kernel_rfl) (fun _ _ _ h => h) (by rfl) ?g3y23 (by assumption) ?g3r23
              case g3y23 => (intro W hS; first | (go_simp; done) | (go_simp; with_reducible rfl))
              simp only [Act.put, List.setIfInBounds_toArray, List.set_cons_zero, List.set_cons_succ]
              refine reg_take (i := 24) (v := ?g3v24) rfl (by kernel_rfl) (by kernel_rfl) (by kernel_rfl) (fun _ _ _ h => h) (by rfl) ?g3y24 (by assumption) ?g3r24
              case g3y24 => (intro W hS; first | (go_simp; done) | (go_simp; with_reducible rfl))
              simp only [Act.put, List.setIfInBounds_toArray, List.set_cons_zero, List.set_cons_succ]
              refine reg_take (i := 25) (v := ?g3v25) rfl (by kernel_rfl) (by kernel_rfl) (by kernel_rfl) (fun _ _ _ h => h) (by rfl) ?g3y25 (by assumption) ?g3r25
              case g3y25 => (intro W hS; first | (go_simp; done) | (go_simp; with_reducible rfl))
              simp only [Act.put, List.setIfInBounds_toArray, List.set_cons_zero, List.set_cons_succ]
              refine reg_take (i := 26) (v := ?g3v26) rfl (by kernel_rfl) (by kernel_rfl) (by kernel_rfl) (fun _ _ _ h => h) (by rfl) ?g3y26 (by assumption) ?g3r26
              case g3y26 => (intro W hS; first | (go_simp; done) | (go_simp; with_reducible rfl))
              simp only [Act.put, List.setIfInBounds_toArray, List.set_cons_zero, List.set_cons_succ]
              refine reg_take (i := 27) (v := ?g3v27) rfl (by kernel_rfl) (by kernel_rfl) (by kernel_rfl) (fun _ _ _ h => h) (by rfl) ?g3y27 (by assumption) ?g3r27
              case g3y27 => (intro W hS; first | (go_simp; done) | (go_simp; with_reducible rfl))
              simp only [Act.put, List.setIfInBounds_toArray, List.set_cons_zero, List.set_cons_succ]
              refine reg_take (i := 28) (v := ?g3v28) rfl (by kernel_rfl) (by kernel_rfl) (by kernel_rfl) (fun _ _ _ h => h) (by rfl) ?g3y28 (by assumption) ?g3r28
              case g3y28 => (intro W hS; first | (go_simp; done) | (go_simp; with_reducible rfl))
              simp only [Act.put, List.setIfInBounds_toArray, List.set_cons_zero, List.set_cons_succ]
              refine reg_take (i := 29) (v := ?g3v29) rfl (by kernel_rfl) (by kernel_rfl) (by kernel_rfl) (fun _ _ _ h => h) (by rfl) ?g3y29 (by assumption) ?g3r29
              case g3y29 => (intro W hS; first | (go_simp; done) | (go_simp; with_reducible rfl))
              simp only [Act.put, List.setIfInBounds_toArray, List.set_cons_zero, List.set_cons_succ]
              refine reg_skip (i := 30) rfl (by kernel_rfl) (by kernel_rfl) (by kernel_rfl) (fun _ _ _ h => h) (by rfl) (by assumption) ?_
              simp only [Act.put, List.setIfInBounds_toArray, List.set_cons_zero, List.set_cons_succ]
              refine reg_skip (i := 31) rfl (by kernel_rfl) (by kernel_rfl) (by kernel_rfl) (fun _ _ _ h => h) (by rfl) (by assumption) ?_
              simp only [Act.put, List.setIfInBounds_toArray, List.set_cons_zero, List.set_cons_succ]
              refine reg_skip (i := 32) rfl (by kernel_rfl) (by kernel_rfl) (by kernel_rfl) (fun _ _ _ h => h) (by rfl) (by assumption) ?_
              simp only [Act.put, List.setIfInBounds_toArray, List.set_cons_zero, List.set_cons_succ]
              refine reg_take (i := 33) (v := ?g3v33) rfl (by kernel_rfl) (by kernel_rfl) (by kernel_rfl) (fun _ _ _ h => h) (by rfl) ?g3y33 (by assumption) ?g3r33
              case g3y33 => (intro W hS; first | (go_simp; done) | (go_simp; with_reducible rfl))
              simp only [Act.put, List.setIfInBounds_toArray, List.set_cons_zero, List.set_cons_succ]
              refine reg_take (i := 34) (v := ?g3v34) rfl (by kernel_rfl) (by kernel_rfl) (by kernel_rfl) (fun _ _ _ h => h) (by rfl) ?g3y34 (by assumption) ?g3r34
              case g3y34 => (intro W hS; first | (go_simp; done) | (go_simp; with_reducible rfl))
              simp only [Act.put, List.setIfInBounds_toArray, List.set_cons_zero, List.set_cons_succ]
              refine reg_take (i := 35) (v := ?g3v35) rfl (by kernel_rfl) (by kernel_rfl) (by kernel_rfl) (fun _ _ _ h => h) (by rfl) ?g3y35 (by assumption) ?g3r35
              case g3y35 => (intro W hS; first | (go_simp; done) | (go_simp; with_reducible rfl))
              simp only [Act.put, List.setIfInBounds_toArray, List.set_cons_zero, List.set_cons_succ]
              refine reg_take (i := 36) (v := ?g3v36) rfl (by kernel_rfl) (by kernel_rfl) (by kernel_rfl) (fun _ _ _ h => h) (by rfl) ?g3y36 (by assumption) ?g3r36
              case g3y36 => (intro W hS; first | (go_simp; done) | (go_simp; with_reducible rfl))
              simp only [Act.put, List.setIfInBounds_toArray, List.set_cons_zero, List.set_cons_succ]
              refine reg_take (i := 37) (v := ?g3v37) rfl (by kernel_rfl) (by kernel_rfl) (by kernel_rfl) (fun _ _ _ h => h) (by rfl) ?g3y37 (by assumption) ?g3r37
              case g3y37 => (intro W hS; first | (go_simp; done) | (go_simp; with_reducible rfl))
              simp only [Act.put, List.setIfInBounds_toArray, List.set_cons_zero, List.set_cons_succ]
              refine reg_take (i := 38) (v := ?g3v38) rfl (by kernel_rfl) (by kernel_rfl) (by kernel_rfl) (fun _ _ _ h => h) (by rfl) ?g3y38 (by assumption) ?g3r38
              case g3y38 => (intro W hS; have f1 := hS.cell hx1 (fun h => h); have f3 := hS.cell hx3 (fun h => h); have e0 := hS.cell he0 (fun h => h); have e1 := hS.cell he1 (fun h => h); have e2 := hS.cell he2 (fun h => h); have e3 := hS.cell he3 (fun h => h); have r0 := hS.cell hr0 (fun h => h); have y0 := hS.cell hy0 (fun h => h); have y1 := hS.cell hy1 (fun h => h); have y2 := hS.cell hy2 (fun h => h); have y3 := hS.cell hy3 (fun h => h); first | (go_simp; done) | (go_simp; with_reducible rfl))
              simp only [Act.put, List.setIfInBounds_toArray, List.set_cons_zero, List.set_cons_succ]
              refine reg_take (i := 40) (v := ?g3v40) rfl (by kernel_rfl) (by kernel_rfl) (by kernel_rfl) (fun _ _ _ h => h) (by rfl) ?g3y40 (by assumption) ?g3r40
              case g3y40 => (intro W hS; first | (go_simp; done) | (go_simp; with_reducible rfl))
              simp only [Act.put, List.setIfInBounds_toArray, List.set_cons_zero, List.set_cons_succ]
              refine reg_take (i := 41) (v := ?g3v41) rfl (by kernel_rfl) (by kernel_rfl) (by kernel_rfl) (fun _ _ _ h => h) (by rfl) ?g3y41 (by assumption) ?g3r41
              case g3y41 => (intro W hS; first | (go_simp; done) | (go_simp; with_reducible rfl))
              simp only [Act.put, List.setIfInBounds_toArray, List.set_cons_zero, List.set_cons_succ]
              refine reg_take (i := 42) (v := ?g3v42) rfl (by kernel_rfl) (by kernel_rfl) (by kernel_rfl) (fun _ _ _ h => h) (by rfl) ?g3y42 (by assumption) ?g3r42
              case g3y42 => (intro W hS; have f1 := hS.cell hx1 (fun h => h); have f3 := hS.cell hx3 (fun h => h); have e0 := hS.cell he0 (fun h => h); have e1 := hS.cell he1 (fun h => h); have e2 := hS.cell he2 (fun h => h); have e3 := hS.cell he3 (fun h => h); have r0 := hS.cell hr0 (fun h => h); have y0 := hS.cell hy0 (fun h => h); have y1 := hS.cell hy1 (fun h => h); have y2 := hS.cell hy2 (fun h => h); have y3 := hS.cell hy3 (fun h => h); first | (go_simp; done) | (go_simp; with_reducible rfl))
              simp only [Act.put, List.setIfInBounds_toArray, List.set_cons_zero, List.set_cons_succ]
              refine reg_call (i := 39) (#[.pointer (some ⟨lp, 0, none⟩), .int .i64 x.commit]) rfl (by kernel_rfl) (by rfl) (enters_of Try.func42 (by kernel_rfl) rfl) (by first | (simp [Act.eval]; done) | rfl) ?_
              refine (lane_Waits _ x.commit (HL6.out.chg hS0 (fun _ _ h => h))).mono ?_
              rintro e w8 ⟨rfl, hb8⟩
              have hS8 := hS0.trans (Chg.of_below0 (S := fun _ => False) hb8) (S'' := fun _ => False) (fun _ _ h => h) (fun _ _ h => h)
              clear hb8
              refine ⟨_, rfl, hS8, ?_⟩
              simp only [Act.put, List.setIfInBounds_toArray, List.set_cons_zero, List.set_cons_succ]
              refine reg_call (i := 43) (#[.pointer (some ⟨rp, 0, none⟩), .int .i64 x.commit]) rfl (by kernel_rfl) (by rfl) (enters_of Try.func53 (by kernel_rfl) rfl) (by first | (simp [Act.eval]; done) | rfl) ?_
              refine (ref20_Waits _ x.commit (HR6.out.chg hS8 (fun _ _ h => h))).mono ?_
              rintro e w9 ⟨rfl, hb9⟩
              have hS9 := hS8.trans (Chg.of_below0 (S := fun _ => False) hb9) (S'' := fun _ => False) (fun _ _ h => h) (fun _ _ h => h)
              clear hb9
              refine ⟨_, rfl, hS9, ?_⟩
              simp only [Act.put, List.setIfInBounds_toArray, List.set_cons_zero, List.set_cons_succ]
              refine reg_take (i := 44) (v := ?g3v44) rfl (by kernel_rfl) (by kernel_rfl) (by kernel_rfl) (fun _ _ _ h => h) (by rfl) ?g3y44 (by assumption) ?g3r44
              case g3y44 => (intro W hS; first | (go_simp; done) | (go_simp; with_reducible rfl))
              simp only [Act.put, List.setIfInBounds_toArray, List.set_cons_zero, List.set_cons_succ]
              refine reg_take (i := 45) (v := ?g3v45) rfl (by kernel_rfl) (by kernel_rfl) (by kernel_rfl) (fun _ _ _ h => h) (by rfl) ?g3y45 (by assumption) ?g3r45
              case g3y45 => (intro W hS; first | (go_simp; done) | (go_simp; with_reducible rfl))
              simp only [Act.put, List.setIfInBounds_toArray, List.set_cons_zero, List.set_cons_succ]
              refine reg_take (i := 46) (v := ?g3v46) rfl (by kernel_rfl) (by kernel_rfl) (by kernel_rfl) (fun _ _ _ h => h) (by rfl) ?g3y46 (by assumption) ?g3r46
              case g3y46 => (intro W hS; first | (go_simp; done) | (go_simp; with_reducible rfl))
              simp only [Act.put, List.setIfInBounds_toArray, List.set_cons_zero, List.set_cons_succ]
              refine reg_take (i := 47) (v := ?g3v47) rfl (by kernel_rfl) (by kernel_rfl) (by kernel_rfl) (fun _ _ _ h => h) (by rfl) ?g3y47 (by assumption) ?g3r47
              case g3y47 => (intro W hS; first | (go_simp; done) | (go_simp; with_reducible rfl))
              simp only [Act.put, List.setIfInBounds_toArray, List.set_cons_zero, List.set_cons_succ]
              refine reg_take (i := 49) (v := ?g3v49) rfl (by kernel_rfl) (by kernel_rfl) (by kernel_rfl) (fun _ _ _ h => h) (by rfl) ?g3y49 (by assumption) ?g3r49
              case g3y49 => (intro W hS; first | (go_simp; done) | (go_simp; with_reducible rfl))
              simp only [Act.put, List.setIfInBounds_toArray, List.set_cons_zero, List.set_cons_succ]
              refine reg_call (i := 48) (#[.pointer (some ⟨lp, 0, none⟩)]) rfl (by kernel_rfl) (by rfl) (enters_of Try.func45 (by kernel_rfl) rfl) (by first | (simp [Act.eval]; done) | rfl) ?_
              refine (lane_Len _ (HL6.out.chg hS9 (fun _ _ h => h))).mono ?_
              rintro e w10 ⟨rfl, rfl⟩
              refine ⟨_, rfl, hS9, ?_⟩
              simp only [Act.put, List.setIfInBounds_toArray, List.set_cons_zero, List.set_cons_succ]
              refine reg_call (i := 50) (#[.pointer (some ⟨rp, 0, none⟩)]) rfl (by kernel_rfl) (by rfl) (enters_of Try.func54 (by kernel_rfl) rfl) (by first | (simp [Act.eval]; done) | rfl) ?_
              refine (ref20_Waiting _ (HR6.out.chg hS9 (fun _ _ h => h))).mono ?_
              rintro e w11 ⟨ao11, cap11, rfl, -, hb11⟩
              have hS11 := hS9.trans (Chg.of_below0 (S := fun _ => False) hb11) (S'' := fun _ => False) (fun _ _ h => h) (fun _ _ h => h)
              clear hb11
              refine ⟨_, rfl, hS11, ?_⟩
              simp only [Act.put, List.setIfInBounds_toArray, List.set_cons_zero, List.set_cons_succ]
              refine reg_take (i := 51) (v := ?g3v51) rfl (by kernel_rfl) (by kernel_rfl) (by kernel_rfl) (fun _ _ _ h => h) (by rfl) ?g3y51 (by assumption) ?g3r51
              case g3y51 => (intro W hS; first | (go_simp; done) | (go_simp; with_reducible rfl))
              simp only [Act.put, List.setIfInBounds_toArray, List.set_cons_zero, List.set_cons_succ]
              refine reg_take (i := 52) (v := ?g3v52) rfl (by kernel_rfl) (by kernel_rfl) (by kernel_rfl) (fun _ _ _ h => h) (by rfl) ?g3y52 (by assumption) ?g3r52
              case g3y52 => (intro W hS; first | (go_simp; done) | (go_simp; with_reducible rfl))
              simp only [Act.put, List.setIfInBounds_toArray, List.set_cons_zero, List.set_cons_succ]
              refine reg_take (i := 53) (v := ?g3v53) rfl (by kernel_rfl) (by kernel_rfl) (by kernel_rfl) (fun _ _ _ h => h) (by rfl) ?g3y53 (by assumption) ?g3r53
              case g3y53 => (intro W hS; first | (go_simp; done) | (go_simp; with_reducible rfl))
              simp only [Act.put, List.setIfInBounds_toArray, List.set_cons_zero, List.set_cons_succ]
              refine wpAnyH_done (by kernel_rfl) ?_ _
              have HS11 := hide hS11
              clear hS0 hS8 hS9 hS11 hx1 hx3 he0 he1 he2 he3 hr0 hy0 hy1 hy2 hy3
              go_wp2_with fail
              go_roundw
              case rel => exact ⟨k + 1, by omega, by go_num, _, _, all, _, _, _, _, _, HL6.out.chg HS11.out (fun _ _ h => h), HR6.out.chg HS11.out (fun _ _ h => h), HDIS.out, HG.out, HB6.out.trans (HS11.out.below HB6.out.size (fun _ _ h => h))⟩
              case measure => simp [intOf]; omega
        · obtain ⟨aa, acap, all, p, ao, cap, ra, rcap, hla, hrf, hdis, hgd, hb⟩ := HO.out
          have HL := hide hla
          have HRF := hide hrf
          have HB := hide hb
          have hr0 := cell_of_heap hrf.box 0
          have hfew := hrf.few
          have hwl := waitR_le all
          have HWL := hide hwl
          clear hla hrf hdis hgd hb HO hwl
          go_wp2_with fail
          refine reg_start (Chg (fun _ => False) wr) 20 (by rfl) (by kernel_rfl) (Chg.drew _ _) ?_
          intro hS0
          refine reg_take (i := 0) (v := ?g4v0) rfl (by kernel_rfl) (by kernel_rfl) (by kernel_rfl) (fun _ _ _ h => h) (by rfl) ?g4y0 (by assumption) ?g4r0
          case g4y0 => (intro W hS; first | (go_simp; done) | (go_simp; with_reducible rfl))
          simp only [Act.put, List.setIfInBounds_toArray, List.set_cons_zero, List.set_cons_succ]
          refine reg_take (i := 3) (v := ?g4v3) rfl (by kernel_rfl) (by kernel_rfl) (by kernel_rfl) (fun _ _ _ h => h) (by rfl) ?g4y3 (by assumption) ?g4r3
          case g4y3 => (intro W hS; first | (go_simp; done) | (go_simp; with_reducible rfl))
          simp only [Act.put, List.setIfInBounds_toArray, List.set_cons_zero, List.set_cons_succ]
          refine reg_call (i := 1) (#[.pointer (some ⟨lp, 0, none⟩)]) rfl (by kernel_rfl) (by rfl) (enters_of Try.func44 (by kernel_rfl) rfl) (by first | (simp [Act.eval]; done) | rfl) ?_
          refine (lane_pending_tells (fun _ => False) _ (HL.out.chg hS0 (fun _ _ h => h)) (fun _ h => h.elim)).mono ?_
          rintro e w4 ⟨v4, rfl, ht4, hb4⟩
          have hS4 := hS0.trans (Chg.of_below0 (S := fun _ => False) hb4) (S'' := fun _ => False) (fun _ _ h => h) (fun _ _ h => h)
          have HT4 := hide ht4
          clear hb4 ht4
          refine ⟨_, rfl, hS4, ?_⟩
          simp only [Act.put, List.setIfInBounds_toArray, List.set_cons_zero, List.set_cons_succ]
          refine reg_call (i := 2) (#[v4, .int .i64 100]) rfl (by kernel_rfl) (by rfl) (enters_of Try.func43 (by kernel_rfl) rfl) (by first | (simp [Act.eval]; done) | rfl) ?_
          refine (entries_told w4 _ v4 HT4.out (by have := HWL.out; omega) 100 (by omega)).mono ?_
          rintro e w5 ⟨ao5, cap5, rfl, ho5, hb5⟩
          rw [List.take_of_length_le (by have := HWL.out; simp; omega)] at ho5 ⊢
          have hS5 := hS4.trans (Chg.of_below0 (S := fun _ => False) hb5) (S'' := fun _ => False) (fun _ _ h => h) (fun _ _ h => h)
          have HO5 := hide ho5
          clear hb5 ho5
          refine ⟨_, rfl, hS5, ?_⟩
          simp only [Act.put, List.setIfInBounds_toArray, List.set_cons_zero, List.set_cons_succ]
          refine reg_call (i := 4) (#[.pointer (some ⟨rp, 0, none⟩)]) rfl (by kernel_rfl) (by rfl) (enters_of Try.func54 (by kernel_rfl) rfl) (by first | (simp [Act.eval]; done) | rfl) ?_
          refine (ref20_Waiting _ (HRF.out.chg hS5 (fun _ _ h => h))).mono ?_
          rintro e w6 ⟨ao6, cap6, rfl, ho6, hb6⟩
          have hc6 := Chg.of_below0 (S := fun _ => False) hb6
          have hS6 := hS5.trans hc6 (S'' := fun _ => False) (fun _ _ h => h) (fun _ _ h => h)
          have HO6 := hide ho6
          have HQ6 := hide (hc6.owns HO5.out (fun _ _ h => h))
          clear hb6 ho6 hc6
          refine ⟨_, rfl, hS6, ?_⟩
          simp only [Act.put, List.setIfInBounds_toArray, List.set_cons_zero, List.set_cons_succ]
          refine reg_call (i := 5) (#[.slice ao5 (waitR all).length cap5, .slice ao6 (waitR all).length cap6]) rfl (by kernel_rfl) (by rfl) (enters_of Try.func46 (by kernel_rfl) rfl) (by first | (simp [Act.eval]; done) | rfl) ?_
          refine (SameEntries_same w6 _ _ _ (Rd.of_owns HQ6.out) (Rd.of_owns HO6.out) (by have := HWL.out; omega)).mono ?_
          rintro e w7 ⟨rfl, n7, rfl⟩
          have hS7 := hS6.trans (Chg.drewN (fun _ => False) w6 n7) (S'' := fun _ => False) (fun _ _ h => h) (fun _ _ h => h)
          refine ⟨_, rfl, hS7, ?_⟩
          simp only [Act.put, List.setIfInBounds_toArray, List.set_cons_zero, List.set_cons_succ]
          refine reg_take (i := 6) (v := ?g4v6) rfl (by kernel_rfl) (by kernel_rfl) (by kernel_rfl) (fun _ _ _ h => h) (by rfl) ?g4y6 (by assumption) ?g4r6
          case g4y6 => (intro W hS; first | (go_simp; done) | (go_simp; with_reducible rfl))
          simp only [Act.put, List.setIfInBounds_toArray, List.set_cons_zero, List.set_cons_succ]
          refine reg_take (i := 7) (v := ?g4v7) rfl (by kernel_rfl) (by kernel_rfl) (by kernel_rfl) (fun _ _ _ h => h) (by rfl) ?g4y7 (by assumption) ?g4r7
          case g4y7 => (intro W hS; first | (go_simp; done) | (go_simp; with_reducible rfl))
          simp only [Act.put, List.setIfInBounds_toArray, List.set_cons_zero, List.set_cons_succ]
          refine reg_take (i := 10) (v := ?g4v10) rfl (by kernel_rfl) (by kernel_rfl) (by kernel_rfl) (fun _ _ _ h => h) (by rfl) ?g4y10 (by assumption) ?g4r10
          case g4y10 => (intro W hS; first | (go_simp; done) | (go_simp; with_reducible rfl))
          simp only [Act.put, List.setIfInBounds_toArray, List.set_cons_zero, List.set_cons_succ]
          refine reg_take (i := 11) (v := ?g4v11) rfl (by kernel_rfl) (by kernel_rfl) (by kernel_rfl) (fun _ _ _ h => h) (by rfl) ?g4y11 (by assumption) ?g4r11
          case g4y11 => (intro W hS; first | (go_simp; done) | (go_simp; with_reducible rfl))
          simp only [Act.put, List.setIfInBounds_toArray, List.set_cons_zero, List.set_cons_succ]
          refine reg_take (i := 12) (v := ?g4v12) rfl (by kernel_rfl) (by kernel_rfl) (by kernel_rfl) (fun _ _ _ h => h) (by rfl) ?g4y12 (by assumption) ?g4r12
          case g4y12 => (intro W hS; first | (go_simp; done) | (go_simp; with_reducible rfl))
          simp only [Act.put, List.setIfInBounds_toArray, List.set_cons_zero, List.set_cons_succ]
          refine reg_take (i := 13) (v := ?g4v13) rfl (by kernel_rfl) (by kernel_rfl) (by kernel_rfl) (fun _ _ _ h => h) (by rfl) ?g4y13 (by assumption) ?g4r13
          case g4y13 => (intro W hS; have r0 := hS.cell hr0 (fun h => h); first | (go_simp; done) | (go_simp; with_reducible rfl))
          simp only [Act.put, List.setIfInBounds_toArray, List.set_cons_zero, List.set_cons_succ]
          refine reg_call (i := 8) (#[.pointer (some ⟨lp, 0, none⟩)]) rfl (by kernel_rfl) (by rfl) (enters_of Try.func55 (by kernel_rfl) rfl) (by first | (simp [Act.eval]; done) | rfl) ?_
          refine (lane_all_tells _ (HL.out.chg hS7 (fun _ _ h => h))).mono ?_
          rintro e w8 ⟨v8, rfl, ht8, hb8⟩
          have hS8 := hS7.trans (Chg.of_below0 (S := fun _ => False) hb8) (S'' := fun _ => False) (fun _ _ h => h) (fun _ _ h => h)
          have HT8 := hide ht8
          clear hb8 ht8
          refine ⟨_, rfl, hS8, ?_⟩
          simp only [Act.put, List.setIfInBounds_toArray, List.set_cons_zero, List.set_cons_succ]
          refine reg_call (i := 9) (#[v8, .int .i64 100]) rfl (by kernel_rfl) (by rfl) (enters_of Try.func43 (by kernel_rfl) rfl) (by first | (simp [Act.eval]; done) | rfl) ?_
          refine (entries_told w8 _ v8 HT8.out (by omega) 100 (by omega)).mono ?_
          rintro e w9 ⟨ao9, cap9, rfl, ho9, hb9⟩
          rw [List.take_of_length_le (by simp; omega)] at ho9 ⊢
          have hS9 := hS8.trans (Chg.of_below0 (S := fun _ => False) hb9) (S'' := fun _ => False) (fun _ _ h => h) (fun _ _ h => h)
          have HO9 := hide ho9
          clear hb9 ho9
          refine ⟨_, rfl, hS9, ?_⟩
          simp only [Act.put, List.setIfInBounds_toArray, List.set_cons_zero, List.set_cons_succ]
          refine reg_call (i := 14) (#[.slice ao9 all.length cap9, .slice ra all.length rcap]) rfl (by kernel_rfl) (by rfl) (enters_of Try.func46 (by kernel_rfl) rfl) (by first | (simp [Act.eval]; done) | rfl) ?_
          refine (SameEntries_same w9 _ _ _ (Rd.of_owns HO9.out) (Rd.of_owns (hS9.owns HRF.out.own (fun _ _ h => h))) (by omega)).mono ?_
          rintro e w10 ⟨rfl, n10, rfl⟩
          have hS10 := hS9.trans (Chg.drewN (fun _ => False) w9 n10) (S'' := fun _ => False) (fun _ _ h => h) (fun _ _ h => h)
          refine ⟨_, rfl, hS10, ?_⟩
          simp only [Act.put, List.setIfInBounds_toArray, List.set_cons_zero, List.set_cons_succ]
          refine reg_take (i := 15) (v := ?g4v15) rfl (by kernel_rfl) (by kernel_rfl) (by kernel_rfl) (fun _ _ _ h => h) (by rfl) ?g4y15 (by assumption) ?g4r15
          case g4y15 => (intro W hS; first | (go_simp; done) | (go_simp; with_reducible rfl))
          simp only [Act.put, List.setIfInBounds_toArray, List.set_cons_zero, List.set_cons_succ]
          refine reg_take (i := 16) (v := ?g4v16) rfl (by kernel_rfl) (by kernel_rfl) (by kernel_rfl) (fun _ _ _ h => h) (by rfl) ?g4y16 (by assumption) ?g4r16
          case g4y16 => (intro W hS; first | (go_simp; done) | (go_simp; with_reducible rfl))
          simp only [Act.put, List.setIfInBounds_toArray, List.set_cons_zero, List.set_cons_succ]
          refine reg_call (i := 17) (#[]) rfl (by kernel_rfl) (by rfl) (enters_of Try.func38 (by kernel_rfl) rfl) (by simp) ?_
          refine (awake20 _).mono ?_
          rintro e w11 ⟨rfl, hb11⟩
          have hS11 := hS10.trans (Chg.of_below0 (S := fun _ => False) hb11) (S'' := fun _ => False) (fun _ _ h => h) (fun _ _ h => h)
          clear hb11
          refine ⟨_, rfl, hS11, ?_⟩
          simp only [Act.put, List.setIfInBounds_toArray, List.set_cons_zero, List.set_cons_succ]
          refine reg_take (i := 18) (v := ?g4v18) rfl (by kernel_rfl) (by kernel_rfl) (by kernel_rfl) (fun _ _ _ h => h) (by rfl) ?g4y18 (by assumption) ?g4r18
          case g4y18 => (intro W hS; first | (go_simp; done) | (go_simp; with_reducible rfl))
          simp only [Act.put, List.setIfInBounds_toArray, List.set_cons_zero, List.set_cons_succ]
          refine reg_take (i := 19) (v := ?g4v19) rfl (by kernel_rfl) (by kernel_rfl) (by kernel_rfl) (fun _ _ _ h => h) (by rfl) ?g4y19 (by assumption) ?g4r19
          case g4y19 => (intro W hS; first | (go_simp; done) | (go_simp; with_reducible rfl))
          simp only [Act.put, List.setIfInBounds_toArray, List.set_cons_zero, List.set_cons_succ]
          refine wpAnyH_done (by kernel_rfl) ?_ _
          have HS11 := hide hS11
          clear hS0 hS4 hS5 hS6 hS7 hS8 hS9 hS10 hS11 hr0
          go_wp2_with fail
          go_ret
          exact ⟨rfl, HB.out.trans (HS11.out.below HB.out.size (fun _ _ h => h))⟩
  · have d8 : decide ((acts.length : Int) > 90) = true := decide_eq_true (by omega)
    go_enter Try.func10, Try.ntmps10
    go_wp2_with fail
    refine (awake20 _).mono ?_
    rintro e w10 ⟨rfl, hb10⟩
    have HB10 := hide hb10
    clear hb10
    go_wp2_with fail
    go_ret
    exact ⟨rfl, HB10.out⟩

set_option maxRecDepth 100000 in
theorem LaneScript_lifted (os : Os) (started : os.Started) (H : Type) (enc : TypeId × Value → H) :
    ReturnsInHanded {} Try.checked os 10 .any (Rows.laneScriptSpec.pre6 enc Try.prog Try.f10 Rows.laneScriptRow.domain false) (Rows.laneScriptSpec.post enc Try.prog Try.f10 false true false false) := by
  refine returnsInHanded_of_change (C := Try.checked) law_own started (by kernel_rfl) Try.func10
    (ChangeSpec.witness6 (enc := enc) (C := Try.checked) false ⟨#[], #[.int .i64 0, .int .i64 0, .slice none 0 0], []⟩ 8 (by kernel_rfl) (by kernel_rfl) (by kernel_rfl) (by kernel_rfl)) ?_
  intro W base args ds gs before hval0 hW hcnd _
  have hval : ∀ (j : Nat) t v, Try.f10.params[j]? = some t → args[j]? = some v → Value.okWide Try.prog W .any base t v := hval0
  have hW' := hW
  obtain ⟨p, q, hA0, hV, rfl, hfz, hnd⟩ := hW
  have hA : DataW.TrodAll enc Try.prog W 0 (fun _ => true) true Try.f10.params.toList args.toList ds p := hA0
  rw [Try.params10] at hA hval
  obtain ⟨v0, vs0, d0, ds0, p0, q0, hargs, rfl, rfl, h0, r0⟩ := trodAll_cons hA
  obtain ⟨v1, vs1, d1, ds1, p1, q1, rfl, rfl, rfl, h1, r1⟩ := trodAll_cons r0
  obtain ⟨v2, vs2, d2, ds2, p2, q2, rfl, rfl, rfl, h2, r2⟩ := trodAll_cons r1
  obtain ⟨rfl, rfl, rfl⟩ := trodAll_nil r2
  obtain rfl : args = #[v0, v1, v2] := by cases args; simp_all
  obtain ⟨rfl, rfl⟩ := trodVars_none hV
  have k0 := h0
  have lt0 : ∀ x ∈ p0, x.block < W.heap.size := by obtain ⟨m, hm⟩ := k0; exact DataW.trod_lt m _ _ _ hm
  obtain ⟨a0, rfl, rfl, rfl, w0⟩ := open_int Try.underlying3 (hval 0 3 v0 rfl rfl) h0
  have k1 := h1
  have lt1 : ∀ x ∈ p1, x.block < W.heap.size := by obtain ⟨m, hm⟩ := k1; exact DataW.trod_lt m _ _ _ hm
  obtain ⟨a1, rfl, rfl, rfl, w1⟩ := open_int Try.underlying3 (hval 1 3 v1 rfl rfl) h1
  have k2 := h2
  have lt2 : ∀ x ∈ p2, x.block < W.heap.size := by obtain ⟨m, hm⟩ := k2; exact DataW.trod_lt m _ _ _ hm
  obtain ⟨a2, len2, cap2, rfl⟩ := okWide_slice Try.underlying74 (hval 2 74 v2 rfl rfl)
  clear hA0 hval0
  refine (LaneScript_walk (enc := enc) W a0 w0 a1 w1 a2 len2 cap2 (Readable.of_trod h2)).mono fun e W' ⟨he, bel⟩ => ?_
  subst he
  exact ⟨_, rfl, _, _, _, [], _, [], hW', trodAll_mk1 (shut_bool Try.underlying4 _), (trodAll_cons_mk (Below.trod law_laid (by kernel_rfl) (of_decide_eq_true (by kernel_rfl)) k0 bel lt0) (trodAll_cons_mk (Below.trod law_laid (by kernel_rfl) (of_decide_eq_true (by kernel_rfl)) k1 bel lt1) (trodAll_cons_mk (Below.trod law_laid (by kernel_rfl) (of_decide_eq_true (by kernel_rfl)) k2 bel lt2) trodAll_mk0))), rfl, bel.frame _, fun h => by cases h⟩

theorem LaneScript_over : Rows.laneScriptRow.holds Try.pinned (OpenSpec.ofChange Rows.laneScriptSpec) :=
  OpenClaim.holds_of_wide 10 Try.f10 rfl rfl rfl rfl rfl rfl rfl ⟨rfl, rfl, rfl, rfl, rfl⟩ rfl rfl rfl rfl rfl (by kernel_rfl) Try.func10 (by kernel_rfl)
    (of_decide_eq_true (by kernel_rfl)) (by unfold Func.isWrapper; first | (rw [if_pos (by decide +kernel)]; kernel_rfl) | (rw [if_neg (by decide +kernel)]; exact ⟨rfl, rfl⟩))
    (fun os started H enc _ => LaneScript_lifted os started H enc)

theorem LaneScript_holds : Rows.LaneScriptSaid := LaneScript_over
#print axioms LaneScript_holds

end Go.Proofs.Ytjgcicpclojfgaa
