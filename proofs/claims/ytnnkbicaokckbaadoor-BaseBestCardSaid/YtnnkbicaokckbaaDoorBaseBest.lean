/- BaseBest: which one is which does not matter; the best are common, none came of another; each common one is a best one, or ahead of one; of one that came of the other the other is the only best one. Conditions: none. -/
import Derived.Test.YtnnkbicaokckbaaDoorRows
import Derived.Test.YtnnkbicaokckbaaDoorTie
import Derived.Test.YtnnkbicaokckbaaDoorCards
import Derived.Test.YtnnkbicaokckbaaDoorCardB
import Derived.SevenTiedAt
import Derived.Test.YtnnkbicaokckbaaDoorBsW
import Derived.Test.YtnnkbicaokckbaaDoorBsP
import Derived.Test.YtnnkbicaokckbaaDoorDgD
import Derived.Test.YtnnkbicaokckbaaDoorLow
import Derived.Outline
import Derived.Deep.QuietTactic
import Derived.BigQuiet
import Derived.Deep.CutRange
namespace Go.Proofs.YtnnkbicaokckbaaDoor
open Go.ChangeShapes Go.WideShapes Go.ChangeAt Go.RowKit
open Go.ChangeMaps (open_string shut_string)
set_option linter.unusedVariables false
open Go.Shelf

theorem dag_IsN (w : World) {v : Value} {cs : List Cm} (hd : DagOk cs) (hg : Gets w v cs) (a b : Int) (hb : I64 b) :
    Calls Tryd.prog 42 #[v, .int .i64 a, .int .i64 b] w fun e w' => e = .returned (.bool (isN cs a b)) ∧ Below w.heap.size w w' := dag_Is w hd hg a b hb
/-- The cells of a row of ints, wherever nothing else turned. -/
theorem row_reads {w : World} {ao : Option Addr} {cap : Nat} {zs : List Int} (h : Rd w (.slice ao zs.length cap) zs.length (zs.map (Value.int .i64))) (hl : 0 < zs.length) : ∃ b off, ao = some ⟨b, off, none⟩ ∧ ∀ Wx, Chg (fun _ => False) w Wx → ∀ (k : Nat) (hk : k < zs.length), Wx.cell? ⟨b, off + k, none⟩ = some (.int .i64 zs[k]) := by
  obtain ⟨a', c', e, -, hcs0⟩ := h.shape
  obtain ⟨b0, off0, rfl, hcs⟩ := hcs0 hl
  cases e
  exact ⟨b0, off0, rfl, fun Wx hc k hk => hc.cell (hcs k (.int .i64 zs[k]) (by rw [List.getElem?_map, List.getElem?_eq_getElem hk]; rfl)) (fun h => h)⟩
set_option maxHeartbeats 8000000 in
set_option maxRecDepth 100000 in
theorem BaseBest_walk {H : Type} {enc : TypeId × Value → H} (W : World) (hM : Mx W) (ao : Option Addr) (len cap : Nat) (hv : Readable enc Tryd.prog W 27 (Value.slice ao len cap).cells.toList) (a0 : Int) (_ : (Lit.int .i64 a0).wf = true) (b0 : Int) (_ : (Lit.int .i64 b0).wf = true) :
    Calls Tryd.prog 14 #[.slice ao len cap, .int .i64 a0, .int .i64 b0] W fun e W' => e = .returned (.bool true) ∧ Below W.heap.size W W' := by
  obtain ⟨v0, xs, hveq, hrd, hxm, hxw, hxb⟩ := hv.ints Tryd.underlying27 Tryd.underlying3 (by kernel_rfl)
  obtain rfl : v0 = .slice ao len cap := by have h := hveq; simp [Value.cells] at h; exact h.symm
  obtain ⟨a', c', e, -, -⟩ := hrd.shape
  cases e
  have HM := hide hM
  by_cases hlen : xs.length ≤ 30 ∧ 0 < xs.length
  rotate_left
  · by_cases h30 : xs.length ≤ 30
    · obtain rfl : xs = [] := by cases xs with | nil => rfl | cons x xs => exact absurd ⟨h30, by simp⟩ hlen
      clear hrd hxm hxw hxb hv hM hlen h30 hveq
      simp only [List.length_nil]
      go_enter Tryd.func14, Tryd.ntmps14
      go_wp2_with fail
      refine (awake12 _ HM.out).mono ?_
      rintro e w2 ⟨rfl, hb2⟩
      have HB2 := hide hb2
      clear hb2
      go_wp2_with fail
      go_ret
      exact ⟨rfl, HB2.out⟩
    · have d1 : decide ((xs.length : Int) > 30) = true := decide_eq_true (by omega)
      have hxmm : (xs.length : Int) ≤ 9223372036854775807 := by unfold maxLen at hxm; omega
      clear hrd hxm hxw hxb hv hM hlen h30 hveq
      go_enter Tryd.func14, Tryd.ntmps14
      go_wp2_with fail
      refine (awake12 _ HM.out).mono ?_
      rintro e w2 ⟨rfl, hb2⟩
      have HB2 := hide hb2
      clear hb2
      go_wp2_with fail
      go_ret
      exact ⟨rfl, HB2.out⟩
  obtain ⟨hl30, hl0⟩ := hlen
  have d1 : decide ((xs.length : Int) > 30) = false := decide_eq_false (by omega)
  have d2 : ((xs.length : Int) == 0) = false := by simp; intro e; simp [e] at hl0
  have HMD := hide (made12 W hM (.slice ao xs.length cap) xs hrd hxb hl30 (fun x hx => wf_range (hxw x hx)))
  have HD : Hid (DagOk (gcs xs)) := hide (gcs_ok xs hl30)
  have hgl := gcs_length xs
  clear hrd hxm hxw hxb hv hM hveq
  go_enter Tryd.func14, Tryd.ntmps14
  go_wp2_with fail
  refine HMD.out.mono ?_
  rintro e w2 ⟨p, q, rfl, ht, hb2⟩
  have HG : Hid (∀ Wx, Chg (fun _ => False) w2 Wx → Gets Wx (.pointer (some ⟨p, 0, none⟩)) (gcs xs)) := hide (fun Wx h => (ht.same h).is.gets)
  have HB2 := hide hb2
  have HT2 := hide ht
  clear ht hb2 HMD
  go_wp2_with fail
  refine (Low_ok _ a0 xs.length (by omega) (by omega)).mono ?_
  rintro e w3 ⟨rfl, hw3⟩
  rw [hw3]
  clear hw3
  have hal := low_lt a0 xs.length (by omega)
  generalize low a0 xs.length = la at *
  obtain ⟨A, hA⟩ : ∃ A : Int, A = 1 + (la : Int) := ⟨_, rfl⟩
  go_wp2_with fail
  refine (Low_ok _ b0 xs.length (by omega) (by omega)).mono ?_
  rintro e w3 ⟨rfl, hw3⟩
  rw [hw3]
  clear hw3
  have hbl := low_lt b0 xs.length (by omega)
  generalize low b0 xs.length = lb at *
  obtain ⟨B, hB⟩ : ∃ B : Int, B = 1 + (lb : Int) := ⟨_, rfl⟩
  have hAr : 1 ≤ A ∧ A ≤ xs.length := by omega
  have hBr : 1 ≤ B ∧ B ≤ xs.length := by omega
  have HAI : Hid (I64 A) := hide (by unfold I64; omega)
  have HBI : Hid (I64 B) := hide (by unfold I64; omega)
  have HEA := hide hA
  have HEB := hide hB
  clear hA hB
  go_wp2_with fail
  rw [← HEA.out, ← HEB.out]
  clear HEA HEB hal hbl
  have hcl := common_len (gcs xs) A B
  have hbn := best_len (gcs xs) A B
  obtain ⟨C, hC⟩ : ∃ C, C = commonN (gcs xs) A B := ⟨_, rfl⟩
  obtain ⟨Bn, hBn⟩ : ∃ Bn, Bn = bestN (gcs xs) A B := ⟨_, rfl⟩
  have HCC := hide hC
  have HBB := hide hBn
  have HCO := hide (base_Common w2 HD.out (HG.out w2 (Chg.refl _ _)) A B HAI.out HBI.out)
  have HBE := hide (fun Wx (hc : Chg (fun _ => False) w2 Wx) => base_Best Wx HD.out (HG.out Wx hc) A B HAI.out HBI.out)
  have HCO2 := hide (fun Wx (hc : Chg (fun _ => False) w2 Wx) => base_Common Wx HD.out (HG.out Wx hc) B A HBI.out HAI.out)
  have HBE2 := hide (fun Wx (hc : Chg (fun _ => False) w2 Wx) => base_Best Wx HD.out (HG.out Wx hc) B A HBI.out HAI.out)
  rw [common_symm (gcs xs) B A] at HCO2
  rw [best_symm (gcs xs) B A] at HBE2
  rw [← hC] at HCO HCO2 hcl
  rw [← hBn] at HBE HBE2 hbn
  have hz : ((C.length : Int) == 0) = ((Bn.length : Int) == 0) := by
    have h1 := best_nil HD.out A B
    rw [← hC, ← hBn] at h1
    rw [Bool.eq_iff_iff, beq_iff_eq, beq_iff_eq]
    omega
  have HIS := hide (fun Wx (hc : Chg (fun _ => False) w2 Wx) a b (hb : I64 b) => dag_IsN Wx HD.out (HG.out Wx hc) a b hb)
  clear hC hBn
  refine HCO.out.mono ?_
  rintro e w3 ⟨a3, c3, rfl, ho3, hb3⟩
  have HO3 := hide (Rd.of_owns ho3)
  have HC3 := hide (chg_b (Chg.refl _ w2) hb3)
  clear ho3 hb3
  go_wp2_with fail
  refine (HBE.out w3 HC3.out).mono ?_
  rintro e w4 ⟨a4, c4, rfl, ho4, hb4⟩
  have HO4 := hide (Rd.of_owns ho4)
  have HC4 := hide (chg_b HC3.out hb4)
  have HO34 := hide (HO3.out.chg (Chg.of_below0 (S := fun _ => False) hb4) (fun _ _ _ h => h))
  clear ho4 hb4 HO3
  go_wp2_with fail
  refine (HCO2.out w4 HC4.out).mono ?_
  rintro e w5 ⟨a5, c5, rfl, ho5, hb5⟩
  have HC45 := hide (chg_b (Chg.refl _ w4) hb5)
  have HSI := hide (same_intsT w5 (.slice a5 C.length c5) (.slice a3 C.length c3) C (Rd.of_owns ho5) (HO34.out.chg HC45.out (fun _ _ _ h => h)) (by omega))
  clear ho5 hb5
  go_wp2_with fail
  refine HSI.out.mono ?_
  rintro e w6 ⟨rfl, hc6⟩
  have HC46 := hide (chg_c HC45.out hc6)
  clear hc6 HSI
  go_wp2_with fail
  refine (HBE2.out w6 (chg_c HC4.out HC46.out)).mono ?_
  rintro e w7 ⟨a7, c7, rfl, ho7, hb7⟩
  have HC47 := hide (chg_b HC46.out hb7)
  have HSI := hide (same_intsT w7 (.slice a7 Bn.length c7) (.slice a4 Bn.length c4) Bn (Rd.of_owns ho7) (HO4.out.chg HC47.out (fun _ _ _ h => h)) (by omega))
  clear ho7 hb7
  have hzz : (!(((C.length : Int) == 0) == ((Bn.length : Int) == 0))) = false := by rw [hz]; simp
  go_wp2_with fail
  refine HSI.out.mono ?_
  rintro e w8 ⟨rfl, hc8⟩
  have HC48 := hide (chg_c HC47.out hc8)
  have HC8 := hide (chg_c HC4.out HC48.out)
  have HRB := hide (HO4.out.chg HC48.out (fun _ _ _ h => h))
  have HRC := hide (HO34.out.chg HC48.out (fun _ _ _ h => h))
  clear hc8 HSI hz HC45 HC46 HC47
  go_wp2_with fail
  go_loopw [11] (fun i wr => ∃ k : Nat, k ≤ Bn.length ∧ i = .int .i64 k ∧ Hid (Chg (fun _ => False) w8 wr)) (fun i _ => Bn.length - (intOf i).toNat)
  case atStart => exact ⟨0, Nat.zero_le _, rfl, Chg.refl _ _⟩
  case round =>
    obtain ⟨k, hk, rfl, HCL⟩ := hrel
    obtain ⟨wo, rfl⟩ : ∃ wo : World, wo = wr := ⟨_, rfl⟩
    by_cases hkl : k < Bn.length
    · obtain ⟨bb, bo, rfl, hrb⟩ := row_reads HRB.out (by omega)
      have HRD := hide hrb
      have hx0 := hrb wo HCL.out k hkl
      have hmem : Bn[k] ∈ bestN (gcs xs) A B := by rw [← HBB.out]; exact List.getElem_mem hkl
      obtain ⟨hia, hib⟩ := isN_best hmem
      have hxr := common_range (best_mem hmem)
      have HXR : Hid (I64 Bn[k]) := hide (by rw [hgl] at hxr; unfold I64; omega)
      have HI1 := hide (HIS.out wo (chg_c HC8.out HCL.out) Bn[k] A HAI.out)
      have HI2 := hide (fun Wx (hc : Chg (fun _ => False) wo Wx) => HIS.out Wx (chg_c HC8.out (chg_c HCL.out hc)) Bn[k] B HBI.out)
      rw [hia] at HI1
      rw [hib] at HI2
      have HX := hide (fun Wx (hc : Chg (fun _ => False) wo Wx) => hrb Wx (chg_c HCL.out hc) k hkl)
      have HAN : Hid (∀ (j : Nat) (hj : j < k), Bn[j]'(by omega) < Bn[k] ∧ isN (gcs xs) (Bn[j]'(by omega)) Bn[k] = false ∧ isN (gcs xs) Bn[k] (Bn[j]'(by omega)) = false ∧ I64 (Bn[j]'(by omega))) := hide (fun j hj => by
        have h1 : k < (bestN (gcs xs) A B).length := by rw [← HBB.out]; exact hkl
        have h2 := best_anti HD.out h1 hj
        simp only [← HBB.out] at h2
        have hm2 : Bn[j]'(by omega) ∈ bestN (gcs xs) A B := by rw [← HBB.out]; exact List.getElem_mem _
        have h3 := common_range (best_mem hm2)
        rw [hgl] at h3
        exact ⟨h2.1, h2.2.1, h2.2.2, by unfold I64; omega⟩)
      have hwk : IntKind.i64.wrap (k : Int) = k := IntWalk.i64_in _ (by omega)
      have hki : (k : Int) < (Bn.length : Int) := by omega
      obtain ⟨x, hx⟩ : ∃ x, x = Bn[k] := ⟨_, rfl⟩
      rw [← hx] at hx0 HI1 HI2 HX HXR
      have HXX := hide hx
      clear hrb hmem hia hib hxr hx
      go_wp2_with fail
      refine HI1.out.mono ?_
      rintro e w9 ⟨rfl, hb9⟩
      have HC9 := hide (Chg.of_below0 (S := fun _ => False) hb9)
      have hx9 := HX.out w9 HC9.out
      clear hb9 hx0
      go_wp2_with fail
      refine (HI2.out w9 HC9.out).mono ?_
      rintro e w10 ⟨rfl, hb10⟩
      have HC10 := hide (chg_c HCL.out (chg_b HC9.out hb10))
      clear hb10 hx9
      go_wp2_with fail
      go_loopw [12] (fun i wr => ∃ j : Nat, j ≤ k ∧ i = .int .i64 j ∧ Hid (Chg (fun _ => False) w8 wr)) (fun i _ => k - (intOf i).toNat)
      case atStart => exact ⟨0, Nat.zero_le _, rfl, HC10.out⟩
      case round =>
        obtain ⟨j, hj, rfl, HCI⟩ := hrel
        obtain ⟨wi, rfl⟩ : ∃ wi : World, wi = wr := ⟨_, rfl⟩
        by_cases hjl : j < k
        · have hx0 := HRD.out wi HCI.out k hkl
          have hy0 := HRD.out wi HCI.out j (by omega)
          obtain ⟨hlt, hn1, hn2, hiy⟩ := HAN.out j hjl
          rw [← HXX.out] at hx0 hlt hn1 hn2
          obtain ⟨y, hy⟩ : ∃ y, y = Bn[j] := ⟨_, rfl⟩
          rw [← hy] at hy0 hlt hn1 hn2 hiy
          have HJ1 := hide (fun Wx (hc : Chg (fun _ => False) wi Wx) => HIS.out Wx (chg_c HC8.out (chg_c HCI.out hc)) y x HXR.out)
          have HJ2 := hide (fun Wx (hc : Chg (fun _ => False) wi Wx) => HIS.out Wx (chg_c HC8.out (chg_c HCI.out hc)) x y hiy)
          rw [hn1] at HJ1
          rw [hn2] at HJ2
          have d3 : decide ((j : Int) < (k : Int)) = true := decide_eq_true (by omega)
          have d4 : decide (y ≥ x) = false := decide_eq_false (by omega)
          have hjb : (j : Int) < (Bn.length : Int) := by omega
          have hwj : IntKind.i64.wrap (j : Int) = j := IntWalk.i64_in _ (by omega)
          clear hlt hn1 hn2 hiy hy
          go_wp2_with fail
          refine reg_start (Chg (fun _ => False) wi) 33 33 (by rfl) (by kernel_rfl) (Chg.drew _ _) ?_
          intro hS0
          have hSc := hS0
          refine reg_take (i := 0) (v := ?g2v) rfl (by kernel_rfl) (by kernel_rfl) (by kernel_rfl) (by kernel_rfl) (fun _ _ _ h => h) (by rfl) ?g2y (by assumption) ?g2r
          case g2y => (intro W hS; first | (go_simp; done) | (go_simp; with_reducible rfl))
          simp only [Act.put, List.setIfInBounds_toArray, List.set_cons_zero, List.set_cons_succ]
          refine reg_take (i := 1) (v := ?g3v) rfl (by kernel_rfl) (by kernel_rfl) (by kernel_rfl) (by kernel_rfl) (fun _ _ _ h => h) (by rfl) ?g3y (by assumption) ?g3r
          case g3y => (intro W hS; first | (go_simp; done) | (go_simp; with_reducible rfl))
          simp only [Act.put, List.setIfInBounds_toArray, List.set_cons_zero, List.set_cons_succ]
          refine reg_take (i := 2) (v := ?g4v) rfl (by kernel_rfl) (by kernel_rfl) (by kernel_rfl) (by kernel_rfl) (fun _ _ _ h => h) (by rfl) ?g4y (by assumption) ?g4r
          case g4y => (intro W hS; first | (go_simp; done) | (go_simp; with_reducible rfl))
          simp only [Act.put, List.setIfInBounds_toArray, List.set_cons_zero, List.set_cons_succ]
          refine reg_take (i := 3) (v := ?g5v) rfl (by kernel_rfl) (by kernel_rfl) (by kernel_rfl) (by kernel_rfl) (fun _ _ _ h => h) (by rfl) ?g5y (by assumption) ?g5r
          case g5y => (intro W hS; have f0 := hS.cell hx0 (fun h => h); have f1 := hS.cell hy0 (fun h => h); first | (go_simp; done) | (go_simp; with_reducible rfl))
          simp only [Act.put, List.setIfInBounds_toArray, List.set_cons_zero, List.set_cons_succ]
          refine reg_take (i := 4) (v := ?g6v) rfl (by kernel_rfl) (by kernel_rfl) (by kernel_rfl) (by kernel_rfl) (fun _ _ _ h => h) (by rfl) ?g6y (by assumption) ?g6r
          case g6y => (intro W hS; first | (go_simp; done) | (go_simp; with_reducible rfl))
          simp only [Act.put, List.setIfInBounds_toArray, List.set_cons_zero, List.set_cons_succ]
          refine reg_take (i := 5) (v := ?g7v) rfl (by kernel_rfl) (by kernel_rfl) (by kernel_rfl) (by kernel_rfl) (fun _ _ _ h => h) (by rfl) ?g7y (by assumption) ?g7r
          case g7y => (intro W hS; first | (go_simp; done) | (go_simp; with_reducible rfl))
          simp only [Act.put, List.setIfInBounds_toArray, List.set_cons_zero, List.set_cons_succ]
          refine reg_take (i := 6) (v := ?g8v) rfl (by kernel_rfl) (by kernel_rfl) (by kernel_rfl) (by kernel_rfl) (fun _ _ _ h => h) (by rfl) ?g8y (by assumption) ?g8r
          case g8y => (intro W hS; first | (go_simp; done) | (go_simp; with_reducible rfl))
          simp only [Act.put, List.setIfInBounds_toArray, List.set_cons_zero, List.set_cons_succ]
          refine reg_take (i := 7) (v := ?g9v) rfl (by kernel_rfl) (by kernel_rfl) (by kernel_rfl) (by kernel_rfl) (fun _ _ _ h => h) (by rfl) ?g9y (by assumption) ?g9r
          case g9y => (intro W hS; have f0 := hS.cell hx0 (fun h => h); have f1 := hS.cell hy0 (fun h => h); first | (go_simp; done) | (go_simp; with_reducible rfl))
          simp only [Act.put, List.setIfInBounds_toArray, List.set_cons_zero, List.set_cons_succ]
          refine reg_take (i := 8) (v := ?g10v) rfl (by kernel_rfl) (by kernel_rfl) (by kernel_rfl) (by kernel_rfl) (fun _ _ _ h => h) (by rfl) ?g10y (by assumption) ?g10r
          case g10y => (intro W hS; first | (go_simp; done) | (go_simp; with_reducible rfl))
          simp only [Act.put, List.setIfInBounds_toArray, List.set_cons_zero, List.set_cons_succ]
          refine reg_take (i := 9) (v := ?g11v) rfl (by kernel_rfl) (by kernel_rfl) (by kernel_rfl) (by kernel_rfl) (fun _ _ _ h => h) (by rfl) ?g11y (by assumption) ?g11r
          case g11y => (intro W hS; first | (go_simp; done) | (go_simp; with_reducible rfl))
          simp only [Act.put, List.setIfInBounds_toArray, List.set_cons_zero, List.set_cons_succ]
          refine reg_take (i := 10) (v := ?g12v) rfl (by kernel_rfl) (by kernel_rfl) (by kernel_rfl) (by kernel_rfl) (fun _ _ _ h => h) (by rfl) ?g12y (by assumption) ?g12r
          case g12y => (intro W hS; first | (go_simp; done) | (go_simp; with_reducible rfl))
          simp only [Act.put, List.setIfInBounds_toArray, List.set_cons_zero, List.set_cons_succ]
          refine reg_take (i := 11) (v := ?g13v) rfl (by kernel_rfl) (by kernel_rfl) (by kernel_rfl) (by kernel_rfl) (fun _ _ _ h => h) (by rfl) ?g13y (by assumption) ?g13r
          case g13y => (intro W hS; first | (go_simp; done) | (go_simp; with_reducible rfl))
          simp only [Act.put, List.setIfInBounds_toArray, List.set_cons_zero, List.set_cons_succ]
          refine reg_take (i := 12) (v := ?g14v) rfl (by kernel_rfl) (by kernel_rfl) (by kernel_rfl) (by kernel_rfl) (fun _ _ _ h => h) (by rfl) ?g14y (by assumption) ?g14r
          case g14y => (intro W hS; first | (go_simp; done) | (go_simp; with_reducible rfl))
          simp only [Act.put, List.setIfInBounds_toArray, List.set_cons_zero, List.set_cons_succ]
          refine reg_take (i := 13) (v := ?g15v) rfl (by kernel_rfl) (by kernel_rfl) (by kernel_rfl) (by kernel_rfl) (fun _ _ _ h => h) (by rfl) ?g15y (by assumption) ?g15r
          case g15y => (intro W hS; first | (go_simp; done) | (go_simp; with_reducible rfl))
          simp only [Act.put, List.setIfInBounds_toArray, List.set_cons_zero, List.set_cons_succ]
          refine reg_take (i := 14) (v := ?g16v) rfl (by kernel_rfl) (by kernel_rfl) (by kernel_rfl) (by kernel_rfl) (fun _ _ _ h => h) (by rfl) ?g16y (by assumption) ?g16r
          case g16y => (intro W hS; have f0 := hS.cell hx0 (fun h => h); have f1 := hS.cell hy0 (fun h => h); first | (go_simp; done) | (go_simp; with_reducible rfl))
          simp only [Act.put, List.setIfInBounds_toArray, List.set_cons_zero, List.set_cons_succ]
          refine reg_take (i := 15) (v := ?g17v) rfl (by kernel_rfl) (by kernel_rfl) (by kernel_rfl) (by kernel_rfl) (fun _ _ _ h => h) (by rfl) ?g17y (by assumption) ?g17r
          case g17y => (intro W hS; first | (go_simp; done) | (go_simp; with_reducible rfl))
          simp only [Act.put, List.setIfInBounds_toArray, List.set_cons_zero, List.set_cons_succ]
          refine reg_take (i := 16) (v := ?g18v) rfl (by kernel_rfl) (by kernel_rfl) (by kernel_rfl) (by kernel_rfl) (fun _ _ _ h => h) (by rfl) ?g18y (by assumption) ?g18r
          case g18y => (intro W hS; first | (go_simp; done) | (go_simp; with_reducible rfl))
          simp only [Act.put, List.setIfInBounds_toArray, List.set_cons_zero, List.set_cons_succ]
          refine reg_take (i := 17) (v := ?g19v) rfl (by kernel_rfl) (by kernel_rfl) (by kernel_rfl) (by kernel_rfl) (fun _ _ _ h => h) (by rfl) ?g19y (by assumption) ?g19r
          case g19y => (intro W hS; first | (go_simp; done) | (go_simp; with_reducible rfl))
          simp only [Act.put, List.setIfInBounds_toArray, List.set_cons_zero, List.set_cons_succ]
          refine reg_take (i := 18) (v := ?g20v) rfl (by kernel_rfl) (by kernel_rfl) (by kernel_rfl) (by kernel_rfl) (fun _ _ _ h => h) (by rfl) ?g20y (by assumption) ?g20r
          case g20y => (intro W hS; have f0 := hS.cell hx0 (fun h => h); have f1 := hS.cell hy0 (fun h => h); first | (go_simp; done) | (go_simp; with_reducible rfl))
          simp only [Act.put, List.setIfInBounds_toArray, List.set_cons_zero, List.set_cons_succ]
          refine reg_one (i := 19) (by kernel_rfl) ?_
          refine op_call (i := 19) (#[.pointer (some ⟨p, 0, none⟩), .int .i64 y, .int .i64 x]) rfl (by rfl) (enters_of Tryd.func42 (by kernel_rfl) rfl) (by first | (simp [Act.eval]; done) | rfl | (simp only [List.map_toArray, List.map_cons, List.map_nil, Act.eval]; rfl) | (simp [Act.eval]; trace_state; done)) ?_
          refine (HJ1.out _ hSc).mono ?_
          rintro e W3 ⟨rfl, hb3⟩
          have hSc := chg_b hSc hb3
          clear hb3
          refine ⟨_, rfl, hSc, ?_⟩
          simp only [Act.put, List.setIfInBounds_toArray, List.set_cons_zero, List.set_cons_succ]
          refine reg_take (i := 20) (v := ?g21v) rfl (by kernel_rfl) (by kernel_rfl) (by kernel_rfl) (by kernel_rfl) (fun _ _ _ h => h) (by rfl) ?g21y (by assumption) ?g21r
          case g21y => (intro W hS; first | (go_simp; done) | (go_simp; with_reducible rfl))
          simp only [Act.put, List.setIfInBounds_toArray, List.set_cons_zero, List.set_cons_succ]
          refine reg_take (i := 21) (v := ?g22v) rfl (by kernel_rfl) (by kernel_rfl) (by kernel_rfl) (by kernel_rfl) (fun _ _ _ h => h) (by rfl) ?g22y (by assumption) ?g22r
          case g22y => (intro W hS; first | (go_simp; done) | (go_simp; with_reducible rfl))
          simp only [Act.put, List.setIfInBounds_toArray, List.set_cons_zero, List.set_cons_succ]
          refine reg_take (i := 22) (v := ?g23v) rfl (by kernel_rfl) (by kernel_rfl) (by kernel_rfl) (by kernel_rfl) (fun _ _ _ h => h) (by rfl) ?g23y (by assumption) ?g23r
          case g23y => (intro W hS; first | (go_simp; done) | (go_simp; with_reducible rfl))
          simp only [Act.put, List.setIfInBounds_toArray, List.set_cons_zero, List.set_cons_succ]
          refine reg_take (i := 23) (v := ?g24v) rfl (by kernel_rfl) (by kernel_rfl) (by kernel_rfl) (by kernel_rfl) (fun _ _ _ h => h) (by rfl) ?g24y (by assumption) ?g24r
          case g24y => (intro W hS; first | (go_simp; done) | (go_simp; with_reducible rfl))
          simp only [Act.put, List.setIfInBounds_toArray, List.set_cons_zero, List.set_cons_succ]
          refine reg_take (i := 24) (v := ?g25v) rfl (by kernel_rfl) (by kernel_rfl) (by kernel_rfl) (by kernel_rfl) (fun _ _ _ h => h) (by rfl) ?g25y (by assumption) ?g25r
          case g25y => (intro W hS; first | (go_simp; done) | (go_simp; with_reducible rfl))
          simp only [Act.put, List.setIfInBounds_toArray, List.set_cons_zero, List.set_cons_succ]
          refine reg_take (i := 25) (v := ?g26v) rfl (by kernel_rfl) (by kernel_rfl) (by kernel_rfl) (by kernel_rfl) (fun _ _ _ h => h) (by rfl) ?g26y (by assumption) ?g26r
          case g26y => (intro W hS; first | (go_simp; done) | (go_simp; with_reducible rfl))
          simp only [Act.put, List.setIfInBounds_toArray, List.set_cons_zero, List.set_cons_succ]
          refine reg_take (i := 26) (v := ?g27v) rfl (by kernel_rfl) (by kernel_rfl) (by kernel_rfl) (by kernel_rfl) (fun _ _ _ h => h) (by rfl) ?g27y (by assumption) ?g27r
          case g27y => (intro W hS; have f0 := hS.cell hx0 (fun h => h); have f1 := hS.cell hy0 (fun h => h); first | (go_simp; done) | (go_simp; with_reducible rfl))
          simp only [Act.put, List.setIfInBounds_toArray, List.set_cons_zero, List.set_cons_succ]
          refine reg_take (i := 27) (v := ?g28v) rfl (by kernel_rfl) (by kernel_rfl) (by kernel_rfl) (by kernel_rfl) (fun _ _ _ h => h) (by rfl) ?g28y (by assumption) ?g28r
          case g28y => (intro W hS; first | (go_simp; done) | (go_simp; with_reducible rfl))
          simp only [Act.put, List.setIfInBounds_toArray, List.set_cons_zero, List.set_cons_succ]
          refine reg_take (i := 28) (v := ?g29v) rfl (by kernel_rfl) (by kernel_rfl) (by kernel_rfl) (by kernel_rfl) (fun _ _ _ h => h) (by rfl) ?g29y (by assumption) ?g29r
          case g29y => (intro W hS; first | (go_simp; done) | (go_simp; with_reducible rfl))
          simp only [Act.put, List.setIfInBounds_toArray, List.set_cons_zero, List.set_cons_succ]
          refine reg_take (i := 29) (v := ?g30v) rfl (by kernel_rfl) (by kernel_rfl) (by kernel_rfl) (by kernel_rfl) (fun _ _ _ h => h) (by rfl) ?g30y (by assumption) ?g30r
          case g30y => (intro W hS; first | (go_simp; done) | (go_simp; with_reducible rfl))
          simp only [Act.put, List.setIfInBounds_toArray, List.set_cons_zero, List.set_cons_succ]
          refine reg_take (i := 30) (v := ?g31v) rfl (by kernel_rfl) (by kernel_rfl) (by kernel_rfl) (by kernel_rfl) (fun _ _ _ h => h) (by rfl) ?g31y (by assumption) ?g31r
          case g31y => (intro W hS; have f0 := hS.cell hx0 (fun h => h); have f1 := hS.cell hy0 (fun h => h); first | (go_simp; done) | (go_simp; with_reducible rfl))
          simp only [Act.put, List.setIfInBounds_toArray, List.set_cons_zero, List.set_cons_succ]
          refine reg_one (i := 31) (by kernel_rfl) ?_
          refine op_call (i := 31) (#[.pointer (some ⟨p, 0, none⟩), .int .i64 x, .int .i64 y]) rfl (by rfl) (enters_of Tryd.func42 (by kernel_rfl) rfl) (by first | (simp [Act.eval]; done) | rfl | (simp only [List.map_toArray, List.map_cons, List.map_nil, Act.eval]; rfl) | (simp [Act.eval]; trace_state; done)) ?_
          refine (HJ2.out _ hSc).mono ?_
          rintro e W4 ⟨rfl, hb4⟩
          have hSc := chg_b hSc hb4
          clear hb4
          refine ⟨_, rfl, hSc, ?_⟩
          simp only [Act.put, List.setIfInBounds_toArray, List.set_cons_zero, List.set_cons_succ]
          refine reg_take (i := 32) (v := ?g32v) rfl (by kernel_rfl) (by kernel_rfl) (by kernel_rfl) (by kernel_rfl) (fun _ _ _ h => h) (by rfl) ?g32y (by assumption) ?g32r
          case g32y => (intro W hS; first | (go_simp; done) | (go_simp; with_reducible rfl))
          simp only [Act.put, List.setIfInBounds_toArray, List.set_cons_zero, List.set_cons_succ]
          refine wpAnyG_done (by kernel_rfl) ?_ _
          have HC11 := hide (chg_c HCI.out hSc)
          clear hS0 hSc hx0 hy0
          go_wp2_with fail
          go_roundw
          case rel => exact ⟨j + 1, by omega, by go_num, HC11.out⟩
          case measure => simp [intOf]; omega
        · obtain rfl : j = k := by omega
          go_wp2_with fail
          go_roundw
          case rel => exact ⟨j + 1, by omega, by go_num, HCI.out⟩
          case measure => simp [intOf]; omega
    · obtain rfl : k = Bn.length := by omega
      go_wp2_with fail
      go_loopw [13] (fun i wr => ∃ k : Nat, k ≤ C.length ∧ i = .int .i64 k ∧ Hid (Chg (fun _ => False) w8 wr)) (fun i _ => C.length - (intOf i).toNat)
      case atStart => exact ⟨0, Nat.zero_le _, rfl, HCL.out⟩
      case round =>
        obtain ⟨k, hk, rfl, HCK⟩ := hrel
        obtain ⟨wk, rfl⟩ : ∃ wk : World, wk = wr := ⟨_, rfl⟩
        by_cases hkl : k < C.length
        · obtain ⟨bb, bo, rfl, hrc⟩ := row_reads HRC.out (by omega)
          have HRD := hide hrc
          have hmem : C[k] ∈ commonN (gcs xs) A B := by rw [← HCC.out]; exact List.getElem_mem hkl
          obtain ⟨y, hy, hxy⟩ := best_cover HD.out hmem
          have HCV : Hid ((Bn.any (fun y => isN (gcs xs) C[k] y)) = true) := hide (List.any_eq_true.2 ⟨y, by rw [HBB.out]; exact hy, hxy⟩)
          have HIB : Hid (∀ y ∈ Bn, I64 y) := hide (fun y hy => by
            rw [HBB.out] at hy
            have h3 := common_range (best_mem hy)
            rw [hgl] at h3; unfold I64; omega)
          have hprev : ∀ j, k = j + 1 → ∃ z, (∀ Wx, Chg (fun _ => False) w8 Wx → Wx.cell? ⟨bb, bo + j, none⟩ = some (.int .i64 z)) ∧ z < C[k] := fun j hj => by
            have hjl : j < C.length := by omega
            refine ⟨C[j], fun Wx hc => hrc Wx hc j hjl, ?_⟩
            have hr : Rises C := by rw [HCC.out]; exact common_rises _ _ _
            exact List.pairwise_iff_getElem.1 hr j k hjl hkl (by omega)
          have hwk : IntKind.i64.wrap (k : Int) = k := IntWalk.i64_in _ (by omega)
          have hki : (k : Int) < (C.length : Int) := by omega
          have HXC := hide (fun Wx hc => hrc Wx hc k hkl)
          obtain ⟨x, hx⟩ : ∃ x, x = C[k] := ⟨_, rfl⟩
          simp only [← hx] at HCV hprev HXC
          have HPV := hide hprev
          clear hrc hmem hy hxy hx hprev
          go_wp2_with fail
          go_loopw [14, 15] (fun v i wr => ∃ j : Nat, j ≤ Bn.length ∧ i = .int .i64 j ∧ v = .bool ((Bn.take j).any (fun y => isN (gcs xs) x y)) ∧ Hid (Chg (fun _ => False) w8 wr)) (fun _ i _ => Bn.length - (intOf i).toNat)
          case atStart => exact ⟨0, Nat.zero_le _, rfl, rfl, HCK.out⟩
          case round =>
            obtain ⟨j, hj, rfl, rfl, HCI⟩ := hrel
            obtain ⟨wi, rfl⟩ : ∃ wi : World, wi = wr := ⟨_, rfl⟩
            by_cases hjl : j < Bn.length
            · obtain ⟨b2, o2, rfl, hrb⟩ := row_reads HRB.out (by omega)
              have hx0 := HXC.out wi HCI.out
              have hy0 := hrb wi HCI.out j hjl
              have hiy := HIB.out Bn[j] (List.getElem_mem hjl)
              have htj : (Bn.take (j + 1)).any (fun y => isN (gcs xs) x y) = ((Bn.take j).any (fun y => isN (gcs xs) x y) || isN (gcs xs) x Bn[j]) := by
                rw [take_succ_get Bn j hjl, List.any_append]; simp
              obtain ⟨y, hy⟩ : ∃ y, y = Bn[j] := ⟨_, rfl⟩
              rw [← hy] at hy0 hiy htj
              obtain ⟨un, hun⟩ : ∃ un, un = (Bn.take j).any (fun y => isN (gcs xs) x y) := ⟨_, rfl⟩
              obtain ⟨bi, hbi⟩ : ∃ bi, bi = isN (gcs xs) x y := ⟨_, rfl⟩
              have HJ1 := hide (fun Wx (hc : Chg (fun _ => False) wi Wx) => HIS.out Wx (chg_c HC8.out (chg_c HCI.out hc)) x y hiy)
              rw [← hbi] at HJ1 htj
              rw [← hun] at htj ⊢
              have HTJ := hide htj
              have hjb : (j : Int) < (Bn.length : Int) := by omega
              have hwj : IntKind.i64.wrap (j : Int) = j := IntWalk.i64_in _ (by omega)
              clear hrb hiy htj hy hun hbi
              cases un with
              | true =>
                go_wp2_with fail
                refine reg_start (Chg (fun _ => False) wi) 14 14 (by rfl) (by kernel_rfl) (Chg.drew _ _) ?_
                intro hS0
                have hSc := hS0
                refine reg_take (i := 0) (v := ?g34v) rfl (by kernel_rfl) (by kernel_rfl) (by kernel_rfl) (by kernel_rfl) (fun _ _ _ h => h) (by rfl) ?g34y (by assumption) ?g34r
                case g34y => (intro W hS; first | (go_simp; done) | (go_simp; with_reducible rfl))
                simp only [Act.put, List.setIfInBounds_toArray, List.set_cons_zero, List.set_cons_succ]
                refine reg_take (i := 1) (v := ?g35v) rfl (by kernel_rfl) (by kernel_rfl) (by kernel_rfl) (by kernel_rfl) (fun _ _ _ h => h) (by rfl) ?g35y (by assumption) ?g35r
                case g35y => (intro W hS; first | (go_simp; done) | (go_simp; with_reducible rfl))
                simp only [Act.put, List.setIfInBounds_toArray, List.set_cons_zero, List.set_cons_succ]
                refine reg_skip (i := 2) rfl (by kernel_rfl) (by kernel_rfl) (by kernel_rfl) (by kernel_rfl) (fun _ _ _ h => h) (by rfl) (by assumption) ?_
                simp only [Act.put, List.setIfInBounds_toArray, List.set_cons_zero, List.set_cons_succ]
                refine reg_skip (i := 3) rfl (by kernel_rfl) (by kernel_rfl) (by kernel_rfl) (by kernel_rfl) (fun _ _ _ h => h) (by rfl) (by assumption) ?_
                simp only [Act.put, List.setIfInBounds_toArray, List.set_cons_zero, List.set_cons_succ]
                refine reg_skip (i := 4) rfl (by kernel_rfl) (by kernel_rfl) (by kernel_rfl) (by kernel_rfl) (fun _ _ _ h => h) (by rfl) (by assumption) ?_
                simp only [Act.put, List.setIfInBounds_toArray, List.set_cons_zero, List.set_cons_succ]
                refine reg_skip (i := 5) rfl (by kernel_rfl) (by kernel_rfl) (by kernel_rfl) (by kernel_rfl) (fun _ _ _ h => h) (by rfl) (by assumption) ?_
                simp only [Act.put, List.setIfInBounds_toArray, List.set_cons_zero, List.set_cons_succ]
                refine reg_skip (i := 6) rfl (by kernel_rfl) (by kernel_rfl) (by kernel_rfl) (by kernel_rfl) (fun _ _ _ h => h) (by rfl) (by assumption) ?_
                simp only [Act.put, List.setIfInBounds_toArray, List.set_cons_zero, List.set_cons_succ]
                refine reg_skip (i := 7) rfl (by kernel_rfl) (by kernel_rfl) (by kernel_rfl) (by kernel_rfl) (fun _ _ _ h => h) (by rfl) (by assumption) ?_
                simp only [Act.put, List.setIfInBounds_toArray, List.set_cons_zero, List.set_cons_succ]
                refine reg_skip (i := 8) rfl (by kernel_rfl) (by kernel_rfl) (by kernel_rfl) (by kernel_rfl) (fun _ _ _ h => h) (by rfl) (by assumption) ?_
                simp only [Act.put, List.setIfInBounds_toArray, List.set_cons_zero, List.set_cons_succ]
                refine reg_skip (i := 9) rfl (by kernel_rfl) (by kernel_rfl) (by kernel_rfl) (by kernel_rfl) (fun _ _ _ h => h) (by rfl) (by assumption) ?_
                simp only [Act.put, List.setIfInBounds_toArray, List.set_cons_zero, List.set_cons_succ]
                refine reg_skip (i := 10) rfl (by kernel_rfl) (by kernel_rfl) (by kernel_rfl) (by kernel_rfl) (fun _ _ _ h => h) (by rfl) (by assumption) ?_
                simp only [Act.put, List.setIfInBounds_toArray, List.set_cons_zero, List.set_cons_succ]
                refine reg_skip (i := 11) rfl (by kernel_rfl) (by kernel_rfl) (by kernel_rfl) (by kernel_rfl) (fun _ _ _ h => h) (by rfl) (by assumption) ?_
                simp only [Act.put, List.setIfInBounds_toArray, List.set_cons_zero, List.set_cons_succ]
                refine reg_take (i := 12) (v := ?g36v) rfl (by kernel_rfl) (by kernel_rfl) (by kernel_rfl) (by kernel_rfl) (fun _ _ _ h => h) (by rfl) ?g36y (by assumption) ?g36r
                case g36y => (intro W hS; first | (go_simp; done) | (go_simp; with_reducible rfl))
                simp only [Act.put, List.setIfInBounds_toArray, List.set_cons_zero, List.set_cons_succ]
                refine reg_take (i := 13) (v := ?g37v) rfl (by kernel_rfl) (by kernel_rfl) (by kernel_rfl) (by kernel_rfl) (fun _ _ _ h => h) (by rfl) ?g37y (by assumption) ?g37r
                case g37y => (intro W hS; first | (go_simp; done) | (go_simp; with_reducible rfl))
                simp only [Act.put, List.setIfInBounds_toArray, List.set_cons_zero, List.set_cons_succ]
                refine wpAnyG_done (by kernel_rfl) ?_ _
                have HC11 := hide (chg_c HCI.out hSc)
                clear hS0 hSc hx0 hy0
                go_wp2_with fail
                go_roundw
                case rel => exact ⟨j + 1, by omega, by go_num, by rw [HTJ.out]; rfl, HC11.out⟩
                case measure => simp [intOf]; omega
              | false =>
                go_wp2_with fail
                refine reg_start (Chg (fun _ => False) wi) 14 14 (by rfl) (by kernel_rfl) (Chg.drew _ _) ?_
                intro hS0
                have hSc := hS0
                refine reg_take (i := 0) (v := ?g39v) rfl (by kernel_rfl) (by kernel_rfl) (by kernel_rfl) (by kernel_rfl) (fun _ _ _ h => h) (by rfl) ?g39y (by assumption) ?g39r
                case g39y => (intro W hS; first | (go_simp; done) | (go_simp; with_reducible rfl))
                simp only [Act.put, List.setIfInBounds_toArray, List.set_cons_zero, List.set_cons_succ]
                refine reg_take (i := 1) (v := ?g40v) rfl (by kernel_rfl) (by kernel_rfl) (by kernel_rfl) (by kernel_rfl) (fun _ _ _ h => h) (by rfl) ?g40y (by assumption) ?g40r
                case g40y => (intro W hS; first | (go_simp; done) | (go_simp; with_reducible rfl))
                simp only [Act.put, List.setIfInBounds_toArray, List.set_cons_zero, List.set_cons_succ]
                refine reg_take (i := 2) (v := ?g41v) rfl (by kernel_rfl) (by kernel_rfl) (by kernel_rfl) (by kernel_rfl) (fun _ _ _ h => h) (by rfl) ?g41y (by assumption) ?g41r
                case g41y => (intro W hS; first | (go_simp; done) | (go_simp; with_reducible rfl))
                simp only [Act.put, List.setIfInBounds_toArray, List.set_cons_zero, List.set_cons_succ]
                refine reg_take (i := 3) (v := ?g42v) rfl (by kernel_rfl) (by kernel_rfl) (by kernel_rfl) (by kernel_rfl) (fun _ _ _ h => h) (by rfl) ?g42y (by assumption) ?g42r
                case g42y => (intro W hS; first | (go_simp; done) | (go_simp; with_reducible rfl))
                simp only [Act.put, List.setIfInBounds_toArray, List.set_cons_zero, List.set_cons_succ]
                refine reg_take (i := 4) (v := ?g43v) rfl (by kernel_rfl) (by kernel_rfl) (by kernel_rfl) (by kernel_rfl) (fun _ _ _ h => h) (by rfl) ?g43y (by assumption) ?g43r
                case g43y => (intro W hS; first | (go_simp; done) | (go_simp; with_reducible rfl))
                simp only [Act.put, List.setIfInBounds_toArray, List.set_cons_zero, List.set_cons_succ]
                refine reg_take (i := 5) (v := ?g44v) rfl (by kernel_rfl) (by kernel_rfl) (by kernel_rfl) (by kernel_rfl) (fun _ _ _ h => h) (by rfl) ?g44y (by assumption) ?g44r
                case g44y => (intro W hS; first | (go_simp; done) | (go_simp; with_reducible rfl))
                simp only [Act.put, List.setIfInBounds_toArray, List.set_cons_zero, List.set_cons_succ]
                refine reg_take (i := 6) (v := ?g45v) rfl (by kernel_rfl) (by kernel_rfl) (by kernel_rfl) (by kernel_rfl) (fun _ _ _ h => h) (by rfl) ?g45y (by assumption) ?g45r
                case g45y => (intro W hS; have f0 := hS.cell hx0 (fun h => h); have f1 := hS.cell hy0 (fun h => h); first | (go_simp; done) | (go_simp; with_reducible rfl))
                simp only [Act.put, List.setIfInBounds_toArray, List.set_cons_zero, List.set_cons_succ]
                refine reg_take (i := 7) (v := ?g46v) rfl (by kernel_rfl) (by kernel_rfl) (by kernel_rfl) (by kernel_rfl) (fun _ _ _ h => h) (by rfl) ?g46y (by assumption) ?g46r
                case g46y => (intro W hS; first | (go_simp; done) | (go_simp; with_reducible rfl))
                simp only [Act.put, List.setIfInBounds_toArray, List.set_cons_zero, List.set_cons_succ]
                refine reg_take (i := 8) (v := ?g47v) rfl (by kernel_rfl) (by kernel_rfl) (by kernel_rfl) (by kernel_rfl) (fun _ _ _ h => h) (by rfl) ?g47y (by assumption) ?g47r
                case g47y => (intro W hS; first | (go_simp; done) | (go_simp; with_reducible rfl))
                simp only [Act.put, List.setIfInBounds_toArray, List.set_cons_zero, List.set_cons_succ]
                refine reg_take (i := 9) (v := ?g48v) rfl (by kernel_rfl) (by kernel_rfl) (by kernel_rfl) (by kernel_rfl) (fun _ _ _ h => h) (by rfl) ?g48y (by assumption) ?g48r
                case g48y => (intro W hS; first | (go_simp; done) | (go_simp; with_reducible rfl))
                simp only [Act.put, List.setIfInBounds_toArray, List.set_cons_zero, List.set_cons_succ]
                refine reg_take (i := 10) (v := ?g49v) rfl (by kernel_rfl) (by kernel_rfl) (by kernel_rfl) (by kernel_rfl) (fun _ _ _ h => h) (by rfl) ?g49y (by assumption) ?g49r
                case g49y => (intro W hS; have f0 := hS.cell hx0 (fun h => h); have f1 := hS.cell hy0 (fun h => h); first | (go_simp; done) | (go_simp; with_reducible rfl))
                simp only [Act.put, List.setIfInBounds_toArray, List.set_cons_zero, List.set_cons_succ]
                refine reg_one (i := 11) (by kernel_rfl) ?_
                refine op_call (i := 11) (#[.pointer (some ⟨p, 0, none⟩), .int .i64 x, .int .i64 y]) rfl (by rfl) (enters_of Tryd.func42 (by kernel_rfl) rfl) (by first | (simp [Act.eval]; done) | rfl | (simp only [List.map_toArray, List.map_cons, List.map_nil, Act.eval]; rfl) | (simp [Act.eval]; trace_state; done)) ?_
                refine (HJ1.out _ hSc).mono ?_
                rintro e W3 ⟨rfl, hb3⟩
                have hSc := chg_b hSc hb3
                clear hb3
                refine ⟨_, rfl, hSc, ?_⟩
                simp only [Act.put, List.setIfInBounds_toArray, List.set_cons_zero, List.set_cons_succ]
                refine reg_take (i := 12) (v := ?g50v) rfl (by kernel_rfl) (by kernel_rfl) (by kernel_rfl) (by kernel_rfl) (fun _ _ _ h => h) (by rfl) ?g50y (by assumption) ?g50r
                case g50y => (intro W hS; first | (go_simp; done) | (go_simp; with_reducible rfl))
                simp only [Act.put, List.setIfInBounds_toArray, List.set_cons_zero, List.set_cons_succ]
                refine reg_take (i := 13) (v := ?g51v) rfl (by kernel_rfl) (by kernel_rfl) (by kernel_rfl) (by kernel_rfl) (fun _ _ _ h => h) (by rfl) ?g51y (by assumption) ?g51r
                case g51y => (intro W hS; first | (go_simp; done) | (go_simp; with_reducible rfl))
                simp only [Act.put, List.setIfInBounds_toArray, List.set_cons_zero, List.set_cons_succ]
                refine wpAnyG_done (by kernel_rfl) ?_ _
                have HC11 := hide (chg_c HCI.out hSc)
                clear hS0 hSc hx0 hy0
                go_wp2_with fail
                go_roundw
                case rel => exact ⟨j + 1, by omega, by go_num, by rw [HTJ.out]; rfl, HC11.out⟩
                case measure => simp [intOf]; omega
            · obtain rfl : j = Bn.length := by omega
              rw [List.take_length, HCV.out]
              cases k with
              | zero =>
                have d5 : decide (((0 : Nat) : Int) > 0) = false := rfl
                go_wp2_with fail
                refine reg_start (Chg (fun _ => False) wi) 18 18 (by rfl) (by kernel_rfl) (Chg.drew _ _) ?_
                intro hS0
                have hSc := hS0
                refine reg_take (i := 0) (v := ?g53v) rfl (by kernel_rfl) (by kernel_rfl) (by kernel_rfl) (by kernel_rfl) (fun _ _ _ h => h) (by rfl) ?g53y (by assumption) ?g53r
                case g53y => (intro W hS; first | (go_simp; done) | (go_simp; with_reducible rfl))
                simp only [Act.put, List.setIfInBounds_toArray, List.set_cons_zero, List.set_cons_succ]
                refine reg_take (i := 1) (v := ?g54v) rfl (by kernel_rfl) (by kernel_rfl) (by kernel_rfl) (by kernel_rfl) (fun _ _ _ h => h) (by rfl) ?g54y (by assumption) ?g54r
                case g54y => (intro W hS; first | (go_simp; done) | (go_simp; with_reducible rfl))
                simp only [Act.put, List.setIfInBounds_toArray, List.set_cons_zero, List.set_cons_succ]
                refine reg_take (i := 2) (v := ?g55v) rfl (by kernel_rfl) (by kernel_rfl) (by kernel_rfl) (by kernel_rfl) (fun _ _ _ h => h) (by rfl) ?g55y (by assumption) ?g55r
                case g55y => (intro W hS; first | (go_simp; done) | (go_simp; with_reducible rfl))
                simp only [Act.put, List.setIfInBounds_toArray, List.set_cons_zero, List.set_cons_succ]
                refine reg_take (i := 3) (v := ?g56v) rfl (by kernel_rfl) (by kernel_rfl) (by kernel_rfl) (by kernel_rfl) (fun _ _ _ h => h) (by rfl) ?g56y (by assumption) ?g56r
                case g56y => (intro W hS; first | (go_simp; done) | (go_simp; with_reducible rfl))
                simp only [Act.put, List.setIfInBounds_toArray, List.set_cons_zero, List.set_cons_succ]
                refine reg_take (i := 4) (v := ?g57v) rfl (by kernel_rfl) (by kernel_rfl) (by kernel_rfl) (by kernel_rfl) (fun _ _ _ h => h) (by rfl) ?g57y (by assumption) ?g57r
                case g57y => (intro W hS; first | (go_simp; done) | (go_simp; with_reducible rfl))
                simp only [Act.put, List.setIfInBounds_toArray, List.set_cons_zero, List.set_cons_succ]
                refine reg_take (i := 5) (v := ?g58v) rfl (by kernel_rfl) (by kernel_rfl) (by kernel_rfl) (by kernel_rfl) (fun _ _ _ h => h) (by rfl) ?g58y (by assumption) ?g58r
                case g58y => (intro W hS; first | (go_simp; done) | (go_simp; with_reducible rfl))
                simp only [Act.put, List.setIfInBounds_toArray, List.set_cons_zero, List.set_cons_succ]
                refine reg_skip (i := 6) rfl (by kernel_rfl) (by kernel_rfl) (by kernel_rfl) (by kernel_rfl) (fun _ _ _ h => h) (by rfl) (by assumption) ?_
                simp only [Act.put, List.setIfInBounds_toArray, List.set_cons_zero, List.set_cons_succ]
                refine reg_skip (i := 7) rfl (by kernel_rfl) (by kernel_rfl) (by kernel_rfl) (by kernel_rfl) (fun _ _ _ h => h) (by rfl) (by assumption) ?_
                simp only [Act.put, List.setIfInBounds_toArray, List.set_cons_zero, List.set_cons_succ]
                refine reg_skip (i := 8) rfl (by kernel_rfl) (by kernel_rfl) (by kernel_rfl) (by kernel_rfl) (fun _ _ _ h => h) (by rfl) (by assumption) ?_
                simp only [Act.put, List.setIfInBounds_toArray, List.set_cons_zero, List.set_cons_succ]
                refine reg_skip (i := 9) rfl (by kernel_rfl) (by kernel_rfl) (by kernel_rfl) (by kernel_rfl) (fun _ _ _ h => h) (by rfl) (by assumption) ?_
                simp only [Act.put, List.setIfInBounds_toArray, List.set_cons_zero, List.set_cons_succ]
                refine reg_skip (i := 10) rfl (by kernel_rfl) (by kernel_rfl) (by kernel_rfl) (by kernel_rfl) (fun _ _ _ h => h) (by rfl) (by assumption) ?_
                simp only [Act.put, List.setIfInBounds_toArray, List.set_cons_zero, List.set_cons_succ]
                refine reg_skip (i := 11) rfl (by kernel_rfl) (by kernel_rfl) (by kernel_rfl) (by kernel_rfl) (fun _ _ _ h => h) (by rfl) (by assumption) ?_
                simp only [Act.put, List.setIfInBounds_toArray, List.set_cons_zero, List.set_cons_succ]
                refine reg_skip (i := 12) rfl (by kernel_rfl) (by kernel_rfl) (by kernel_rfl) (by kernel_rfl) (fun _ _ _ h => h) (by rfl) (by assumption) ?_
                simp only [Act.put, List.setIfInBounds_toArray, List.set_cons_zero, List.set_cons_succ]
                refine reg_skip (i := 13) rfl (by kernel_rfl) (by kernel_rfl) (by kernel_rfl) (by kernel_rfl) (fun _ _ _ h => h) (by rfl) (by assumption) ?_
                simp only [Act.put, List.setIfInBounds_toArray, List.set_cons_zero, List.set_cons_succ]
                refine reg_skip (i := 14) rfl (by kernel_rfl) (by kernel_rfl) (by kernel_rfl) (by kernel_rfl) (fun _ _ _ h => h) (by rfl) (by assumption) ?_
                simp only [Act.put, List.setIfInBounds_toArray, List.set_cons_zero, List.set_cons_succ]
                refine reg_skip (i := 15) rfl (by kernel_rfl) (by kernel_rfl) (by kernel_rfl) (by kernel_rfl) (fun _ _ _ h => h) (by rfl) (by assumption) ?_
                simp only [Act.put, List.setIfInBounds_toArray, List.set_cons_zero, List.set_cons_succ]
                refine reg_take (i := 16) (v := ?g59v) rfl (by kernel_rfl) (by kernel_rfl) (by kernel_rfl) (by kernel_rfl) (fun _ _ _ h => h) (by rfl) ?g59y (by assumption) ?g59r
                case g59y => (intro W hS; first | (go_simp; done) | (go_simp; with_reducible rfl))
                simp only [Act.put, List.setIfInBounds_toArray, List.set_cons_zero, List.set_cons_succ]
                refine reg_take (i := 17) (v := ?g60v) rfl (by kernel_rfl) (by kernel_rfl) (by kernel_rfl) (by kernel_rfl) (fun _ _ _ h => h) (by rfl) ?g60y (by assumption) ?g60r
                case g60y => (intro W hS; first | (go_simp; done) | (go_simp; with_reducible rfl))
                simp only [Act.put, List.setIfInBounds_toArray, List.set_cons_zero, List.set_cons_succ]
                refine wpAnyG_done (by kernel_rfl) ?_ _
                have HC11 := hide (chg_c HCI.out hSc)
                clear hS0 hSc
                go_wp2_with fail
                go_roundw
                case rel => exact ⟨0 + 1, by omega, by go_num, HC11.out⟩
                case measure => simp [intOf]; omega
              | succ k =>
                obtain ⟨z, hz, hlt⟩ := HPV.out k rfl
                have hx0 := HXC.out wi HCI.out
                have hz0 := hz wi HCI.out
                have d5 : decide (((k + 1 : Nat) : Int) > 0) = true := decide_eq_true (by omega)
                have d6 : decide (z ≥ x) = false := decide_eq_false (by omega)
                have hk1 : ((k + 1 : Nat) : Int) - 1 = (k : Int) := by omega
                have hwk2 : IntKind.i64.wrap (k : Int) = k := IntWalk.i64_in _ (by omega)
                have hki2 : (k : Int) < (C.length : Int) := by omega
                have hj0 : (0 : Int) ≤ (k : Int) + 1 := by omega
                have hj1 : (k : Int) + 1 < (C.length : Int) := by omega
                clear hz hlt
                go_wp2_with fail
                refine reg_start (Chg (fun _ => False) wi) 18 18 (by rfl) (by kernel_rfl) (Chg.drew _ _) ?_
                intro hS0
                have hSc := hS0
                refine reg_take (i := 0) (v := ?g62v) rfl (by kernel_rfl) (by kernel_rfl) (by kernel_rfl) (by kernel_rfl) (fun _ _ _ h => h) (by rfl) ?g62y (by assumption) ?g62r
                case g62y => (intro W hS; first | (go_simp; done) | (go_simp; with_reducible rfl))
                simp only [Act.put, List.setIfInBounds_toArray, List.set_cons_zero, List.set_cons_succ]
                refine reg_take (i := 1) (v := ?g63v) rfl (by kernel_rfl) (by kernel_rfl) (by kernel_rfl) (by kernel_rfl) (fun _ _ _ h => h) (by rfl) ?g63y (by assumption) ?g63r
                case g63y => (intro W hS; first | (go_simp; done) | (go_simp; with_reducible rfl))
                simp only [Act.put, List.setIfInBounds_toArray, List.set_cons_zero, List.set_cons_succ]
                refine reg_take (i := 2) (v := ?g64v) rfl (by kernel_rfl) (by kernel_rfl) (by kernel_rfl) (by kernel_rfl) (fun _ _ _ h => h) (by rfl) ?g64y (by assumption) ?g64r
                case g64y => (intro W hS; first | (go_simp; done) | (go_simp; with_reducible rfl))
                simp only [Act.put, List.setIfInBounds_toArray, List.set_cons_zero, List.set_cons_succ]
                refine reg_take (i := 3) (v := ?g65v) rfl (by kernel_rfl) (by kernel_rfl) (by kernel_rfl) (by kernel_rfl) (fun _ _ _ h => h) (by rfl) ?g65y (by assumption) ?g65r
                case g65y => (intro W hS; first | (go_simp; done) | (go_simp; with_reducible rfl))
                simp only [Act.put, List.setIfInBounds_toArray, List.set_cons_zero, List.set_cons_succ]
                refine reg_take (i := 4) (v := ?g66v) rfl (by kernel_rfl) (by kernel_rfl) (by kernel_rfl) (by kernel_rfl) (fun _ _ _ h => h) (by rfl) ?g66y (by assumption) ?g66r
                case g66y => (intro W hS; first | (go_simp; done) | (go_simp; with_reducible rfl))
                simp only [Act.put, List.setIfInBounds_toArray, List.set_cons_zero, List.set_cons_succ]
                refine reg_take (i := 5) (v := ?g67v) rfl (by kernel_rfl) (by kernel_rfl) (by kernel_rfl) (by kernel_rfl) (fun _ _ _ h => h) (by rfl) ?g67y (by assumption) ?g67r
                case g67y => (intro W hS; first | (go_simp; done) | (go_simp; with_reducible rfl))
                simp only [Act.put, List.setIfInBounds_toArray, List.set_cons_zero, List.set_cons_succ]
                refine reg_take (i := 6) (v := ?g68v) rfl (by kernel_rfl) (by kernel_rfl) (by kernel_rfl) (by kernel_rfl) (fun _ _ _ h => h) (by rfl) ?g68y (by assumption) ?g68r
                case g68y => (intro W hS; first | (go_simp; done) | (go_simp; with_reducible rfl))
                simp only [Act.put, List.setIfInBounds_toArray, List.set_cons_zero, List.set_cons_succ]
                refine reg_take (i := 7) (v := ?g69v) rfl (by kernel_rfl) (by kernel_rfl) (by kernel_rfl) (by kernel_rfl) (fun _ _ _ h => h) (by rfl) ?g69y (by assumption) ?g69r
                case g69y => (intro W hS; first | (go_simp; done) | (go_simp; with_reducible rfl))
                simp only [Act.put, List.setIfInBounds_toArray, List.set_cons_zero, List.set_cons_succ]
                refine reg_take (i := 8) (v := ?g70v) rfl (by kernel_rfl) (by kernel_rfl) (by kernel_rfl) (by kernel_rfl) (fun _ _ _ h => h) (by rfl) ?g70y (by assumption) ?g70r
                case g70y => (intro W hS; first | (go_simp; done) | (go_simp; with_reducible rfl))
                simp only [Act.put, List.setIfInBounds_toArray, List.set_cons_zero, List.set_cons_succ]
                refine reg_take (i := 9) (v := ?g71v) rfl (by kernel_rfl) (by kernel_rfl) (by kernel_rfl) (by kernel_rfl) (fun _ _ _ h => h) (by rfl) ?g71y (by assumption) ?g71r
                case g71y => (intro W hS; first | (go_simp; done) | (go_simp; with_reducible rfl))
                simp only [Act.put, List.setIfInBounds_toArray, List.set_cons_zero, List.set_cons_succ]
                refine reg_take (i := 10) (v := ?g72v) rfl (by kernel_rfl) (by kernel_rfl) (by kernel_rfl) (by kernel_rfl) (fun _ _ _ h => h) (by rfl) ?g72y (by assumption) ?g72r
                case g72y => (intro W hS; have f0 := hS.cell hx0 (fun h => h); have f1 := hS.cell hz0 (fun h => h); first | (go_simp; done) | (go_simp; with_reducible rfl))
                simp only [Act.put, List.setIfInBounds_toArray, List.set_cons_zero, List.set_cons_succ]
                refine reg_take (i := 11) (v := ?g73v) rfl (by kernel_rfl) (by kernel_rfl) (by kernel_rfl) (by kernel_rfl) (fun _ _ _ h => h) (by rfl) ?g73y (by assumption) ?g73r
                case g73y => (intro W hS; first | (go_simp; done) | (go_simp; with_reducible rfl))
                simp only [Act.put, List.setIfInBounds_toArray, List.set_cons_zero, List.set_cons_succ]
                refine reg_take (i := 12) (v := ?g74v) rfl (by kernel_rfl) (by kernel_rfl) (by kernel_rfl) (by kernel_rfl) (fun _ _ _ h => h) (by rfl) ?g74y (by assumption) ?g74r
                case g74y => (intro W hS; first | (go_simp; done) | (go_simp; with_reducible rfl))
                simp only [Act.put, List.setIfInBounds_toArray, List.set_cons_zero, List.set_cons_succ]
                refine reg_take (i := 13) (v := ?g75v) rfl (by kernel_rfl) (by kernel_rfl) (by kernel_rfl) (by kernel_rfl) (fun _ _ _ h => h) (by rfl) ?g75y (by assumption) ?g75r
                case g75y => (intro W hS; first | (go_simp; done) | (go_simp; with_reducible rfl))
                simp only [Act.put, List.setIfInBounds_toArray, List.set_cons_zero, List.set_cons_succ]
                refine reg_take (i := 14) (v := ?g76v) rfl (by kernel_rfl) (by kernel_rfl) (by kernel_rfl) (by kernel_rfl) (fun _ _ _ h => h) (by rfl) ?g76y (by assumption) ?g76r
                case g76y => (intro W hS; have f0 := hS.cell hx0 (fun h => h); have f1 := hS.cell hz0 (fun h => h); first | (go_simp; done) | (go_simp; with_reducible rfl))
                simp only [Act.put, List.setIfInBounds_toArray, List.set_cons_zero, List.set_cons_succ]
                refine reg_take (i := 15) (v := ?g77v) rfl (by kernel_rfl) (by kernel_rfl) (by kernel_rfl) (by kernel_rfl) (fun _ _ _ h => h) (by rfl) ?g77y (by assumption) ?g77r
                case g77y => (intro W hS; first | (go_simp; done) | (go_simp; with_reducible rfl))
                simp only [Act.put, List.setIfInBounds_toArray, List.set_cons_zero, List.set_cons_succ]
                refine reg_take (i := 16) (v := ?g78v) rfl (by kernel_rfl) (by kernel_rfl) (by kernel_rfl) (by kernel_rfl) (fun _ _ _ h => h) (by rfl) ?g78y (by assumption) ?g78r
                case g78y => (intro W hS; first | (go_simp; done) | (go_simp; with_reducible rfl))
                simp only [Act.put, List.setIfInBounds_toArray, List.set_cons_zero, List.set_cons_succ]
                refine reg_take (i := 17) (v := ?g79v) rfl (by kernel_rfl) (by kernel_rfl) (by kernel_rfl) (by kernel_rfl) (fun _ _ _ h => h) (by rfl) ?g79y (by assumption) ?g79r
                case g79y => (intro W hS; first | (go_simp; done) | (go_simp; with_reducible rfl))
                simp only [Act.put, List.setIfInBounds_toArray, List.set_cons_zero, List.set_cons_succ]
                refine wpAnyG_done (by kernel_rfl) ?_ _
                have HC11 := hide (chg_c HCI.out hSc)
                clear hS0 hSc hx0 hz0
                go_wp2_with fail
                go_roundw
                case rel => exact ⟨k + 1 + 1, by omega, by go_num, HC11.out⟩
                case measure => simp [intOf]; omega
        · obtain rfl : k = C.length := by omega
          have HCW := hide (chg_c HC8.out HCK.out)
          obtain ⟨ab, hab⟩ : ∃ ab, ab = isN (gcs xs) A B := ⟨_, rfl⟩
          have HI9 := hide (HIS.out wk HCW.out A B HBI.out)
          rw [← hab] at HI9
          have HAB := hide hab
          clear hab
          cases ab with
          | false =>
            go_wp2_with fail
            refine HI9.out.mono ?_
            rintro e w9 ⟨rfl, hb9⟩
            have HC9 := hide (chg_b HCW.out hb9)
            have HB9 := hide (HB2.out.trans (HC9.out.below HB2.out.size (fun _ _ h => h)))
            clear hb9
            go_wp2_with fail
            refine (awake12 w9 (HM.out.below HB9.out HM.out.pos)).mono ?_
            rintro e w17 ⟨rfl, hb17⟩
            have HB17 := hide (HB9.out.trans (hb17.mono HB9.out.size))
            clear hb17
            go_wp2_with fail
            go_ret
            exact ⟨rfl, HB17.out⟩
          | true =>
            have HB1 : Hid (Bn = [A]) := hide (by rw [HBB.out]; exact best_one HD.out HAB.out.symm)
            go_wp2_with fail
            refine HI9.out.mono ?_
            rintro e w9 ⟨rfl, hb9⟩
            have HC9 := hide (chg_b HCW.out hb9)
            have hal := Chg.alloc (fun _ => False) w9 (.cells #[.int .i64 A] 3)
            have hr9 := HRB.out.chg (chg_c (chg_b HCK.out hb9) hal) (fun _ _ _ h => h)
            rw [HB1.out] at hr9
            have HSI := hide (same_intsT _ (.slice a4 1 c4) _ [A] hr9 (Rd_lit w9 #[.int .i64 A] 3 1) (by simp))
            have HC10 := hide (chg_c HC9.out hal)
            have hb1 : Bn.length = 1 := by rw [HB1.out]; rfl
            clear hb9 hal hr9
            rw [hb1]
            clear hb1
            go_wp2_with fail
            refine HSI.out.mono ?_
            rintro e w11 ⟨rfl, hc11⟩
            have HC11 := hide (chg_c HC10.out hc11)
            have HB11 := hide (HB2.out.trans (HC11.out.below HB2.out.size (fun _ _ h => h)))
            clear hc11 HSI
            go_wp2_with fail
            refine (awake12 w11 (HM.out.below HB11.out HM.out.pos)).mono ?_
            rintro e w17 ⟨rfl, hb17⟩
            have HB17 := hide (HB11.out.trans (hb17.mono HB11.out.size))
            clear hb17
            go_wp2_with fail
            go_ret
            exact ⟨rfl, HB17.out⟩
set_option maxRecDepth 100000 in
theorem BaseBest_lifted (os : Os) (started : os.Started) (H : Type) (enc : TypeId × Value → H) :
    ReturnsInHanded {} Tryd.checked os 14 .any (fun w args => (Rows.baseBestSpec.pre enc Tryd.prog Tryd.f14 Rows.baseBestRow.domain false w args ∧ laidMetH Tryd.prog cardLaid w) ∧ sizedMet enc Tryd.prog Tryd.f14 (OpenSpec.ofChange Rows.baseBestSpec) false w args) (Rows.baseBestSpec.post enc Tryd.prog Tryd.f14 false true false false) := by
  refine card_wrap (C := Tryd.checked) (X := fun w => laidMetH Tryd.prog cardLaid w) law_own started (by kernel_rfl) Tryd.func14
    (ChangeSpec.witness_at (enc := enc) (C := Tryd.checked) (os := os) (X := fun w _ => laidMetH Tryd.prog cardLaid w) false (laidWorld os) #[.slice none 0 0, .int .i64 0, .int .i64 0] 8 rfl (by kernel_rfl) (by kernel_rfl) (by kernel_rfl) (by kernel_rfl) (by kernel_rfl) (laidWorld_met os _)) ?_
  intro W base args ds gs before hval0 hW hsh
  have hM := mx_of_shaped hsh
  have hval : ∀ (j : Nat) t v, Tryd.f14.params[j]? = some t → args[j]? = some v → Value.okWide Tryd.prog W .any base t v := hval0
  have hW' := hW
  obtain ⟨p, q, hA0, hV, rfl, hfz, hnd⟩ := hW
  have hA : DataW.TrodAll enc Tryd.prog W 0 (fun _ => true) true Tryd.f14.params.toList args.toList ds p := hA0
  rw [Tryd.params14] at hA hval
  obtain ⟨v0, vs0, d0, ds0, p0, q0, hargs, rfl, rfl, h0, r0⟩ := trodAll_cons hA
  obtain ⟨v1, vs1, d1, ds1, p1, q1, rfl, rfl, rfl, h1, r1⟩ := trodAll_cons r0
  obtain ⟨v2, vs2, d2, ds2, p2, q2, rfl, rfl, rfl, h2, r2⟩ := trodAll_cons r1
  obtain ⟨rfl, rfl, rfl⟩ := trodAll_nil r2
  obtain rfl : args = #[v0, v1, v2] := by cases args; simp_all
  obtain ⟨rfl, rfl⟩ := trodVars_none hV
  have k0 := h0
  have lt0 : ∀ x ∈ p0, x.block < W.heap.size := by obtain ⟨m, hm⟩ := k0; exact DataW.trod_lt m _ _ _ hm
  obtain ⟨a0, len0, cap0, rfl⟩ := okWide_slice Tryd.underlying27 (hval 0 27 v0 rfl rfl)
  have k1 := h1
  have lt1 : ∀ x ∈ p1, x.block < W.heap.size := by obtain ⟨m, hm⟩ := k1; exact DataW.trod_lt m _ _ _ hm
  obtain ⟨a1, rfl, rfl, rfl, w1⟩ := open_int Tryd.underlying3 (hval 1 3 v1 rfl rfl) h1
  have k2 := h2
  have lt2 : ∀ x ∈ p2, x.block < W.heap.size := by obtain ⟨m, hm⟩ := k2; exact DataW.trod_lt m _ _ _ hm
  obtain ⟨a2, rfl, rfl, rfl, w2⟩ := open_int Tryd.underlying3 (hval 2 3 v2 rfl rfl) h2
  clear hA0 hval0
  refine (BaseBest_walk (enc := enc) W hM a0 len0 cap0 (Readable.of_trod h0) a1 w1 a2 w2).mono fun e W' ⟨he, bel⟩ => ?_
  subst he
  exact ⟨_, rfl, _, _, _, [], _, [], hW', trodAll_mk1 (shut_bool Tryd.underlying4 _), (trodAll_cons_mk (Below.trod law_laid (by kernel_rfl) (of_decide_eq_true (by kernel_rfl)) k0 bel lt0) (trodAll_cons_mk (Below.trod law_laid (by kernel_rfl) (of_decide_eq_true (by kernel_rfl)) k1 bel lt1) (trodAll_cons_mk (Below.trod law_laid (by kernel_rfl) (of_decide_eq_true (by kernel_rfl)) k2 bel lt2) trodAll_mk0))), rfl, bel.frame _, fun h => by cases h⟩

theorem BaseBest_over : Rows.baseBestRow.holds Tryd.pinned (OpenSpec.ofChange Rows.baseBestSpec) :=
  OpenClaim.holds_of_wide 14 Tryd.f14 rfl rfl rfl rfl rfl rfl rfl ⟨rfl, rfl, rfl, rfl, rfl⟩ rfl rfl rfl rfl rfl (by kernel_rfl) Tryd.func14 (by kernel_rfl)
    (of_decide_eq_true (by kernel_rfl)) (by unfold Func.isWrapper; first | (rw [if_pos (by decide +kernel)]; kernel_rfl) | (rw [if_neg (by decide +kernel)]; exact ⟨rfl, rfl⟩))
    (fun os started H enc _ => BaseBest_lifted os started H enc)

theorem BaseBest_params : ∀ (j : Nat) t, Tryd.f14.params[j]? = some t → Tryd.prog.wantsStandIn t = false := by
  intro j t ht
  rw [Tryd.params14] at ht
  have hm : t ∈ ([27, 3, 3] : List TypeId) := List.mem_of_getElem? (i := j) (by simpa using ht)
  simp only [List.mem_cons, List.not_mem_nil, or_false] at hm
  rcases hm with h | h | h
  · subst h; exact (show Tryd.prog.wantsStandIn 27 = false by kernel_rfl)
  · subst h; exact (show Tryd.prog.wantsStandIn 3 = false by kernel_rfl)
  · subst h; exact (show Tryd.prog.wantsStandIn 3 = false by kernel_rfl)
theorem BaseBest_holds : Rows.BaseBestCardSaid :=
  Claim7.holds_tied_plain_at .later [] [.data, .pinned] true (true, "b8549941136c75f2c554eaf403c37bf8f3fce9d6a3edd6b504917a752e07b547") false
    BaseBest_over (fun _ h => by cases h) (by kernel_rfl) (fun _ h => by cases h) baseBest_row_tie rfl ⟨rfl, rfl⟩ (by kernel_rfl) rfl
    (fun f fn hf hfn => by
      obtain rfl : f = 14 := Option.some.inj ((show Tryd.prog.funcNamed "cortege/cortegelaw12.BaseBest" = some 14 by kernel_rfl).symm.trans hf) |>.symm
      obtain rfl : fn = Tryd.f14 := (Option.some.inj (Tryd.func14.symm.trans hfn)).symm
      exact ⟨by kernel_rfl, BaseBest_params⟩)
    (by kernel_rfl)
#print axioms BaseBest_holds

end Go.Proofs.YtnnkbicaokckbaaDoor
