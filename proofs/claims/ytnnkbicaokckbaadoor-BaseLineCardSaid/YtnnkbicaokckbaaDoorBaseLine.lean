/- BaseLine: on a line of commits the best of two is the elder; on two lines that come of one of it it is that one, or the elder of one line. Conditions: none. -/
import Derived.Test.YtnnkbicaokckbaaDoorRows
import Derived.Test.YtnnkbicaokckbaaDoorTie
import Derived.Test.YtnnkbicaokckbaaDoorCards
import Derived.Test.YtnnkbicaokckbaaDoorCardB
import Derived.SevenTiedAt
import Derived.Test.YtnnkbicaokckbaaDoorBsX
import Derived.Test.YtnnkbicaokckbaaDoorLow
import Derived.Outline
import Derived.Deep.QuietTactic
import Derived.BigQuiet
import Derived.Deep.CutRange
namespace Go.Proofs.YtnnkbicaokckbaaDoor
open Go.ChangeShapes Go.WideShapes Go.ChangeAt Go.RowKit
open Go.ChangeMaps (open_string shut_string)
set_option linter.unusedVariables false
open Go.Shelf

/-- What was laid so far. -/
def LnSt (W : World) (zs : List Int) (v : Value) (wr : World) : Prop := ∃ a1 c1, v = .slice a1 zs.length c1 ∧ wr.ownsRow W.heap.size 3 1 (.slice a1 zs.length c1) zs.length (zs.map (Value.int .i64)) ∧ Chg (fun _ => False) W wr
theorem rng_snoc (f : Nat → Int) (n : Nat) : (List.range (n + 1)).map f = (List.range n).map f ++ [f n] := by rw [List.range_succ, List.map_append]; rfl
theorem ln_app {W wo w9 : World} {zs : List Int} {a1 ao1 : Option Addr} {c1 cap1 : Nat} {x : Int} {o : Obj} (hro : wo.ownsRow W.heap.size 3 1 (.slice a1 zs.length c1) zs.length (zs.map (Value.int .i64))) (hco : Chg (fun _ => False) W wo)
    (hown : w9.ownsRow W.heap.size 3 1 (.slice ao1 (zs.length + 1) cap1) (zs.length + 1) (zs.map (Value.int .i64) ++ [.int .i64 x])) (hg : Chg (fun k => (Value.slice a1 zs.length c1).ownBlock = some k) (wo.alloc o) w9) : LnSt W (zs ++ [x]) (.slice ao1 (zs.length + 1) cap1) w9 := by
  refine ⟨ao1, cap1, by rw [List.length_append]; rfl, ?_, ?_⟩
  · rw [List.length_append, List.map_append]; exact hown
  · exact hco.trans ((Chg.alloc (fun _ => False) wo o).trans hg (S'' := fun k => (Value.slice a1 zs.length c1).ownBlock = some k) (fun _ _ h => h.elim) (fun _ _ h => h)) (fun _ _ h => h) (fun k hk h => by have := (ownsRow_lt hro k h).1; omega)
set_option maxHeartbeats 8000000 in
set_option maxRecDepth 100000 in
theorem BaseLine_walk {H : Type} {enc : TypeId × Value → H} (W : World) (hM : Mx W) (t0 : Int) (_ : (Lit.int .i64 t0).wf = true) (l0 : Int) (_ : (Lit.int .i64 l0).wf = true) (r0 : Int) (_ : (Lit.int .i64 r0).wf = true) (a0 : Int) (_ : (Lit.int .i64 a0).wf = true) (b0 : Int) (_ : (Lit.int .i64 b0).wf = true) :
    Calls Tryd.prog 13 #[.int .i64 t0, .int .i64 l0, .int .i64 r0, .int .i64 a0, .int .i64 b0] W fun e W' => e = .returned (.bool true) ∧ Below W.heap.size W W' := by
  have HM := hide hM
  clear hM
  go_enter Tryd.func13, Tryd.ntmps13
  go_wp2_with fail
  refine (Low_ok _ t0 12 (by decide) (by decide)).mono ?_
  rintro e w3 ⟨rfl, hw3⟩
  rw [hw3]
  clear hw3
  have hl1 := low_lt t0 12 (by decide)
  generalize low t0 12 = lt at *
  obtain ⟨T, hT⟩ : ∃ T : Nat, T = 1 + lt := ⟨_, rfl⟩
  have e1T : (1 : Int) + (lt : Int) = (T : Int) := by omega
  have HT := hide e1T
  have hwt : IntKind.i64.wrap (1 + (lt : Int)) = 1 + (lt : Int) := IntWalk.i64_in _ (by omega)
  have hTb : 1 ≤ T ∧ T ≤ 12 := by omega
  clear e1T
  go_wp2_with fail
  refine (Low_ok _ l0 12 (by decide) (by decide)).mono ?_
  rintro e w3 ⟨rfl, hw3⟩
  rw [hw3]
  clear hw3
  have hl2 := low_lt l0 12 (by decide)
  generalize low l0 12 = L at *
  go_wp2_with fail
  refine (Low_ok _ r0 12 (by decide) (by decide)).mono ?_
  rintro e w3 ⟨rfl, hw3⟩
  rw [hw3]
  clear hw3
  have hl3 := low_lt r0 12 (by decide)
  generalize low r0 12 = R at *
  go_wp2_with fail
  rw [HT.out]
  clear hT hl1 hwt HT
  go_loopw [11, 12] (fun v i wr => ∃ k : Nat, k ≤ T ∧ i = .int .i64 k ∧ Hid (LnSt W ((List.range k).map (fun i : Nat => (i : Int))) v wr)) (fun _ i _ => T - (intOf i).toNat)
  case atStart => exact ⟨0, Nat.zero_le _, rfl, none, 0, rfl, World.ownsRow_nil _ _ _ _, Chg.refl _ _⟩
  case round =>
    obtain ⟨k, hk, rfl, HS⟩ := hrel
    obtain ⟨wo, rfl⟩ : ∃ wo : World, wo = wr := ⟨_, rfl⟩
    obtain ⟨a1, c1, rfl, hro, hco⟩ := HS.out
    obtain ⟨zs, hzs⟩ : ∃ zs, zs = (List.range k).map (fun i : Nat => (i : Int)) := ⟨_, rfl⟩
    have hzl : zs.length ≤ 12 := by rw [hzs]; simp; omega
    rw [← hzs] at hro HS ⊢
    by_cases hkT : k < T
    · have HZ := hide (show (List.range (k + 1)).map (fun i : Nat => (i : Int)) = zs ++ [(k : Int)] by rw [hzs]; exact rng_snoc _ _)
      have hwk : IntKind.i64.wrap ((k : Int) + 1) = (k : Int) + 1 := IntWalk.i64_in _ (by omega)
      clear hzs
      go_wp2_with (at_builtin; go_loud ((refine wpl_append rfl _ _ _ rfl int_slT W.heap.size (hro.alloc _) (Rd_lit wo #[.int .i64 ((k : Int))] 3 1) rfl rfl rfl (by simp [Value.oneCell']) (by unfold maxLen; omega) (by omega) (by have := hco.size; simp; omega) ?_); intro ao1 cap1 w9 hown hg hat hnil; have hst := ln_app hro hco hown hg; have HST := hide hst; clear hown hg hat hnil hst))
      go_roundw
      case rel => exact ⟨k + 1, by omega, by go_num, by rw [HZ.out]; exact HST.out⟩
      case measure => simp [intOf]; omega
    · obtain rfl : k = T := by omega
      have HZ1 := hide hzs
      have HS1 := hide hco
      clear hzs hro hco
      go_wp2_with fail
      go_loopw [11, 13] (fun v i wr => ∃ j : Nat, j ≤ L ∧ i = .int .i64 j ∧ Hid (LnSt W (zs ++ (List.range j).map (fun i : Nat => (k : Int) + i)) v wr)) (fun _ i _ => L - (intOf i).toNat)
      case atStart => exact ⟨0, Nat.zero_le _, rfl, hide (by simpa using HS.out)⟩
      case round =>
        obtain ⟨j, hj, rfl, HS2⟩ := hrel
        obtain ⟨wo, rfl⟩ : ∃ wo : World, wo = wr := ⟨_, rfl⟩
        obtain ⟨a1, c1, rfl, hro, hco⟩ := HS2.out
        obtain ⟨ys, hys⟩ : ∃ ys, ys = zs ++ (List.range j).map (fun i : Nat => (k : Int) + i) := ⟨_, rfl⟩
        have hyl : ys.length ≤ 24 := by rw [hys]; simp; omega
        rw [← hys] at hro HS2 ⊢
        by_cases hjL : j < L
        · have HZ := hide (show zs ++ (List.range (j + 1)).map (fun i : Nat => (k : Int) + i) = ys ++ [(k : Int) + (j : Int)] by rw [hys, List.append_assoc]; exact congrArg _ (rng_snoc _ _))
          have hwk : IntKind.i64.wrap ((j : Int) + 1) = (j : Int) + 1 := IntWalk.i64_in _ (by omega)
          have hwj : IntKind.i64.wrap ((k : Int) + (j : Int)) = (k : Int) + (j : Int) := IntWalk.i64_in _ (by omega)
          clear hys
          go_wp2_with (at_builtin; go_loud ((refine wpl_append rfl _ _ _ rfl int_slT W.heap.size (hro.alloc _) (Rd_lit wo #[.int .i64 ((k : Int) + (j : Int))] 3 1) rfl rfl rfl (by simp [Value.oneCell']) (by unfold maxLen; omega) (by omega) (by have := hco.size; simp; omega) ?_); intro ao1 cap1 w9 hown hg hat hnil; have hst := ln_app hro hco hown hg; have HST := hide hst; clear hown hg hat hnil hst))
          go_roundw
          case rel => exact ⟨j + 1, by omega, by go_num, by rw [HZ.out]; exact HST.out⟩
          case measure => simp [intOf]; omega
        · obtain rfl : j = L := by omega
          have HZ2 := hide hys
          clear hys hro hco
          go_wp2_with fail
          go_loopw [11, 14] (fun v i wr => ∃ m : Nat, m ≤ R ∧ i = .int .i64 m ∧ Hid (LnSt W (ys ++ (List.range m).map (fun i : Nat => if i = 0 then (k : Int) else (k : Int) + j + i)) v wr)) (fun _ i _ => R - (intOf i).toNat)
          case atStart => exact ⟨0, Nat.zero_le _, rfl, hide (by simpa using HS2.out)⟩
          case round =>
            obtain ⟨m, hm, rfl, HS3⟩ := hrel
            obtain ⟨wo, rfl⟩ : ∃ wo : World, wo = wr := ⟨_, rfl⟩
            obtain ⟨a1, c1, rfl, hro, hco⟩ := HS3.out
            obtain ⟨xs, hus⟩ : ∃ xs, xs = ys ++ (List.range m).map (fun i : Nat => if i = 0 then (k : Int) else (k : Int) + j + i) := ⟨_, rfl⟩
            have hul : xs.length ≤ 36 := by rw [hus]; simp; omega
            rw [← hus] at hro HS3 ⊢
            by_cases hmR : m < R
            · have hsn : ys ++ (List.range (m + 1)).map (fun i : Nat => if i = 0 then (k : Int) else (k : Int) + j + i) = xs ++ [if m = 0 then (k : Int) else (k : Int) + j + m] := by rw [hus, List.append_assoc]; exact congrArg _ (rng_snoc (fun i : Nat => if i = 0 then (k : Int) else (k : Int) + j + i) m)
              have hwk : IntKind.i64.wrap ((m : Int) + 1) = (m : Int) + 1 := IntWalk.i64_in _ (by omega)
              have hwj : IntKind.i64.wrap ((k : Int) + (j : Int)) = (k : Int) + (j : Int) := IntWalk.i64_in _ (by omega)
              have hwm : IntKind.i64.wrap ((k : Int) + (j : Int) + (m : Int)) = (k : Int) + (j : Int) + (m : Int) := IntWalk.i64_in _ (by omega)
              clear hus
              cases m with
              | zero =>
                rw [if_pos rfl] at hsn
                have HZ := hide hsn
                clear hsn
                go_wp2_with (at_builtin; go_loud ((refine wpl_append rfl _ _ _ rfl int_slT W.heap.size (hro.alloc _) (Rd_lit wo #[.int .i64 ((k : Int))] 3 1) rfl rfl rfl (by simp [Value.oneCell']) (by unfold maxLen; omega) (by omega) (by have := hco.size; simp; omega) ?_); intro ao1 cap1 w9 hown hg hat hnil; have hst := ln_app hro hco hown hg; have HST := hide hst; clear hown hg hat hnil hst))
                go_roundw
                case rel => exact ⟨0 + 1, by omega, by go_num, by rw [HZ.out]; exact HST.out⟩
                case measure => simp [intOf]; omega
              | succ m =>
                rw [if_neg (by omega)] at hsn
                have HZ := hide hsn
                have hm0 : (((m + 1 : Nat) : Int) == 0) = false := by simp; omega
                clear hsn
                go_wp2_with (at_builtin; go_loud ((refine wpl_append rfl _ _ _ rfl int_slT W.heap.size (hro.alloc _) (Rd_lit wo #[.int .i64 ((k : Int) + (j : Int) + ((m + 1 : Nat) : Int))] 3 1) rfl rfl rfl (by simp [Value.oneCell']) (by unfold maxLen; omega) (by omega) (by have := hco.size; simp; omega) ?_); intro ao1 cap1 w9 hown hg hat hnil; have hst := ln_app hro hco hown hg; have HST := hide hst; clear hown hg hat hnil hst))
                go_roundw
                case rel => exact ⟨m + 1 + 1, by omega, by go_num, by rw [HZ.out]; exact HST.out⟩
                case measure => simp [intOf]; omega
            · obtain rfl : m = R := by omega
              have HX : Hid (xs = lnX k j m) := hide (by rw [hus, HZ2.out, HZ1.out]; rfl)
              have HUL : Hid (xs.length = k + j + m) := hide (by rw [HX.out, lnX_len])
              have HMD := hide (made12w wo (HM.out.below (hco.below (n := W.heap.size) (Nat.le_refl _) (fun _ _ h => h)) HM.out.pos) (.slice a1 xs.length c1) xs (Rd.of_owns hro) (fun b hb _ => (ownsRow_lt hro b hb).2) (by have := HUL.out; omega) (fun x hx => by
                obtain ⟨i, hi, rfl⟩ := List.getElem_of_mem hx
                have h1 : i < (lnX k j m).length := by rw [← HX.out]; exact hi
                have h2 := lnX_get k j m h1
                simp only [← HX.out] at h2
                rw [h2]
                split <;> omega))
              have HB0 := hide (hco.below (n := W.heap.size) (Nat.le_refl _) (fun _ _ h => h))
              clear hus hro hco
              go_wp2_with fail
              refine HMD.out.mono ?_
              rintro e w2 ⟨p, q, rfl, ht, hb2⟩
              have HG : Hid (∀ Wx, Chg (fun _ => False) w2 Wx → Gets Wx (.pointer (some ⟨p, 0, none⟩)) (gcs xs)) := hide (fun Wx h => (ht.same h).is.gets)
              have hln := ht.is.lenC
              rw [show ((gcs xs).length : Int) = (k : Int) + (j : Int) + (m : Int) by rw [gcs_length]; have := HUL.out; omega] at hln
              have HLN := hide hln
              have HB2 := hide (HB0.out.trans (hb2.mono HB0.out.size))
              have hw1 : IntKind.i64.wrap ((k : Int) + (j : Int)) = (k : Int) + (j : Int) := IntWalk.i64_in _ (by omega)
              have hw2 : IntKind.i64.wrap ((k : Int) + (j : Int) + (m : Int)) = (k : Int) + (j : Int) + (m : Int) := IntWalk.i64_in _ (by omega)
              have hne : (((k : Int) + (j : Int) + (m : Int)) != ((k : Int) + (j : Int) + (m : Int))) = false := by simp
              have HTB := hide hTb
              clear ht hb2 HMD hln
              go_wp2_with fail
              refine HLN.out.mono ?_
              rintro e w3 ⟨rfl, hw3⟩
              rw [hw3]
              clear hw3
              have hl0 : 0 < xs.length := by have := HUL.out; omega
              go_wp2_with fail
              refine (Low_ok _ a0 xs.length (by omega) (by omega)).mono ?_
              rintro e w3 ⟨rfl, hw3⟩
              rw [hw3]
              clear hw3
              have hal := low_lt a0 xs.length (by omega)
              generalize low a0 xs.length = la at *
              obtain ⟨A, hA⟩ : ∃ A : Int, A = 1 + (la : Int) := ⟨_, rfl⟩
              go_wp2_with fail
              refine (Low_ok _ b0 xs.length (by omega) (by omega)).mono ?_
              rintro e w3 ⟨rfl, hw3⟩
              rw [hw3]
              clear hw3
              have hbl := low_lt b0 xs.length (by omega)
              generalize low b0 xs.length = lb at *
              obtain ⟨B, hB⟩ : ∃ B : Int, B = 1 + (lb : Int) := ⟨_, rfl⟩
              have hAr : 1 ≤ A ∧ A ≤ xs.length := by omega
              have hBr : 1 ≤ B ∧ B ≤ xs.length := by omega
              have HAI : Hid (I64 A) := hide (by unfold I64; omega)
              have HBI : Hid (I64 B) := hide (by unfold I64; omega)
              have HEA := hide hA
              have HEB := hide hB
              clear hA hB
              go_upto_region 22 with (fail)
              rw [← HEA.out, ← HEB.out]
              clear HEA HEB hal hbl
              have hAB : (1 ≤ A ∧ A ≤ ((k + j + m : Nat) : Int)) ∧ (1 ≤ B ∧ B ≤ ((k + j + m : Nat) : Int)) := by have := HUL.out; omega
              have hwt := ln_want (T := k) (L := j) (R := m) (by omega) (by omega) hAB.1 hAB.2
              rw [← HX.out] at hwt
              have HD : Hid (DagOk (gcs xs)) := hide (gcs_ok4 xs (by have := HUL.out; omega))
              have hAb : A ≤ 40 ∧ B ≤ 40 := by have := HUL.out; omega
              have HCO := hide (base_Common w2 HD.out (HG.out w2 (Chg.refl _ _)) A B HAI.out HBI.out)
              have HBE := hide (fun Wx (hc : Chg (fun _ => False) w2 Wx) => base_Best Wx HD.out (HG.out Wx hc) A B HAI.out HBI.out)
              obtain ⟨mn, hmn⟩ : ∃ mn, mn = min A B := ⟨_, rfl⟩
              obtain ⟨mx, hmx⟩ : ∃ mx, mx = max A B := ⟨_, rfl⟩
              obtain ⟨cc, hcc⟩ : ∃ cc, cc = decide (mn > (k : Int) ∧ mx > (k : Int) + (j : Int) ∧ mn ≤ (k : Int) + (j : Int)) := ⟨_, rfl⟩
              have hwx : wantX k j A B = if cc = true then (k : Int) else mn := by
                unfold wantX
                rw [hcc, ← hmn, ← hmx]
                simp only [decide_eq_true_eq, Int.natCast_add]
              have HWX := hide hwx
              have HWT := hide hwt
              have HMN := hide hmn
              have HMX := hide hmx
              have hmnb : 1 ≤ mn ∧ mn ≤ 40 := by omega
              have HCC := hide hcc
              have hmn2 : min A B = mn := hmn.symm
              clear hwt hwx hmn hmx hcc
              go_upto_region 23 with (fail)
              have hmx2 : max A B = mx := HMX.out.symm
              go_cut [113] from 95 (fun s wc => s = .bool cc ∧ wc = w2)
              case first =>
                by_cases c1 : mn > (k : Int)
                · have d1 : decide (mn > (k : Int)) = true := decide_eq_true c1
                  by_cases c2 : mx > (k : Int) + (j : Int)
                  · have d2 : decide (mx > (k : Int) + (j : Int)) = true := decide_eq_true c2
                    have HR := hide (show cc = decide (mn ≤ (k : Int) + (j : Int)) by rw [HCC.out]; simp [c1, c2])
                    clear c1 c2
                    go_wp2_with fail
                    go_meet
                    exact ⟨by rw [HR.out], rfl⟩
                  · have d2 : decide (mx > (k : Int) + (j : Int)) = false := decide_eq_false c2
                    have HR := hide (show cc = false by rw [HCC.out]; simp [c2])
                    clear c1 c2
                    go_wp2_with fail
                    go_meet
                    exact ⟨by rw [HR.out], rfl⟩
                · have d1 : decide (mn > (k : Int)) = false := decide_eq_false c1
                  have HR := hide (show cc = false by rw [HCC.out]; simp [c1])
                  clear c1
                  go_wp2_with fail
                  go_meet
                  exact ⟨by rw [HR.out], rfl⟩
              case rest =>
                obtain ⟨rfl, hwc⟩ := hcut
                rw [hwc]
                clear hwc hmn2 hmx2
                go_upto_if 113 with (fail)
                go_cut [18] from 113 (fun s wc => s = .int .i64 (wantX k j A B) ∧ wc = w2)
                case first =>
                  cases cc with
                  | true =>
                    have hx := HWX.out
                    rw [if_pos rfl] at hx
                    have HX2 := hide hx
                    clear hx
                    go_wp2_with fail
                    go_meet
                    exact ⟨by rw [HX2.out], rfl⟩
                  | false =>
                    have hx := HWX.out
                    rw [if_neg (by decide)] at hx
                    have HX2 := hide hx
                    clear hx
                    go_wp2_with fail
                    go_meet
                    exact ⟨by rw [HX2.out], rfl⟩
                case rest =>
                  obtain ⟨rfl, hwc⟩ := hcut
                  rw [hwc]
                  clear hwc
                  have hwb : 1 ≤ wantX k j A B ∧ wantX k j A B ≤ 40 := by rw [HWX.out]; split <;> omega
                  obtain ⟨hb1, hc1⟩ := HWT.out
                  obtain ⟨wt, hwt⟩ : ∃ wt, wt = wantX k j A B := ⟨_, rfl⟩
                  rw [← hwt] at hb1 hc1 hwb ⊢
                  obtain ⟨cl, hcl⟩ : ∃ cl, cl = commonN (gcs xs) A B := ⟨_, rfl⟩
                  rw [← hcl] at hc1 HCO
                  rw [hb1] at HBE
                  clear HWT HWX hwt hcl hb1
                  go_wp2_with fail
                  refine HCO.out.mono ?_
                  rintro e w4 ⟨a4, c4, rfl, ho4, hb4⟩
                  have HC4 := hide (chg_b (Chg.refl _ w2) hb4)
                  clear ho4 hb4 HCO
                  have hkj : ((k + j : Nat) : Int) = (k : Int) + (j : Int) := by omega
                  rw [hkj] at hc1
                  by_cases hdp : wt > (k : Int) + (j : Int)
                  · have d4 : decide (wt > (k : Int) + (j : Int)) = true := decide_eq_true hdp
                    rw [if_pos hdp] at hc1
                    have hw5 : IntKind.i64.wrap (wt - (j : Int)) = wt - (j : Int) := IntWalk.i64_in _ (by omega)
                    have hce : ((cl.length : Int) == wt - (j : Int)) = true := by rw [hc1]; simp
                    have HCL := hide hc1
                    clear hc1 hdp hkj
                    go_wp2_with fail
                    refine (HBE.out w4 HC4.out).mono ?_
                    rintro e w5 ⟨a5, c5, rfl, ho5, hb5⟩
                    have HC5 := hide (chg_b HC4.out hb5)
                    have hal := Chg.alloc (fun _ => False) w5 (.cells #[.int .i64 wt] 3)
                    have HSI := hide (same_intsT _ (.slice a5 1 c5) _ [wt] ((Rd.of_owns ho5).chg hal (fun _ _ _ h => h)) (Rd_lit w5 #[.int .i64 wt] 3 1) (by simp))
                    have HC6 := hide (chg_c HC5.out hal)
                    clear ho5 hb5 hal
                    simp only [List.length_cons, List.length_nil, Nat.zero_add]
                    go_wp2_with fail
                    refine HSI.out.mono ?_
                    rintro e w7 ⟨rfl, hc7⟩
                    have HC7 := hide (chg_c HC6.out hc7)
                    have HB7 := hide (HB2.out.trans (HC7.out.below HB2.out.size (fun _ _ h => h)))
                    clear hc7 HSI
                    go_wp2_with fail
                    refine (awake12 w7 (HM.out.below HB7.out HM.out.pos)).mono ?_
                    rintro e w17 ⟨rfl, hb17⟩
                    have HB17 := hide (HB7.out.trans (hb17.mono HB7.out.size))
                    clear hb17
                    go_wp2_with fail
                    go_ret
                    exact ⟨rfl, HB17.out⟩
                  · have d4 : decide (wt > (k : Int) + (j : Int)) = false := decide_eq_false hdp
                    rw [if_neg hdp] at hc1
                    have hce : ((cl.length : Int) == wt) = true := by rw [hc1]; simp
                    have HCL := hide hc1
                    clear hc1 hdp hkj
                    go_wp2_with fail
                    refine (HBE.out w4 HC4.out).mono ?_
                    rintro e w5 ⟨a5, c5, rfl, ho5, hb5⟩
                    have HC5 := hide (chg_b HC4.out hb5)
                    have hal := Chg.alloc (fun _ => False) w5 (.cells #[.int .i64 wt] 3)
                    have HSI := hide (same_intsT _ (.slice a5 1 c5) _ [wt] ((Rd.of_owns ho5).chg hal (fun _ _ _ h => h)) (Rd_lit w5 #[.int .i64 wt] 3 1) (by simp))
                    have HC6 := hide (chg_c HC5.out hal)
                    clear ho5 hb5 hal
                    simp only [List.length_cons, List.length_nil, Nat.zero_add]
                    go_wp2_with fail
                    refine HSI.out.mono ?_
                    rintro e w7 ⟨rfl, hc7⟩
                    have HC7 := hide (chg_c HC6.out hc7)
                    have HB7 := hide (HB2.out.trans (HC7.out.below HB2.out.size (fun _ _ h => h)))
                    clear hc7 HSI
                    go_wp2_with fail
                    refine (awake12 w7 (HM.out.below HB7.out HM.out.pos)).mono ?_
                    rintro e w17 ⟨rfl, hb17⟩
                    have HB17 := hide (HB7.out.trans (hb17.mono HB7.out.size))
                    clear hb17
                    go_wp2_with fail
                    go_ret
                    exact ⟨rfl, HB17.out⟩
set_option maxRecDepth 100000 in
theorem BaseLine_lifted (os : Os) (started : os.Started) (H : Type) (enc : TypeId × Value → H) :
    ReturnsInHanded {} Tryd.checked os 13 .any (fun w args => (Rows.baseLineSpec.pre enc Tryd.prog Tryd.f13 Rows.baseLineRow.domain false w args ∧ laidMetH Tryd.prog cardLaid w) ∧ sizedMet enc Tryd.prog Tryd.f13 (OpenSpec.ofChange Rows.baseLineSpec) false w args) (Rows.baseLineSpec.post enc Tryd.prog Tryd.f13 false true false false) := by
  refine card_wrap (C := Tryd.checked) (X := fun w => laidMetH Tryd.prog cardLaid w) law_own started (by kernel_rfl) Tryd.func13
    (ChangeSpec.witness_at (enc := enc) (C := Tryd.checked) (os := os) (X := fun w _ => laidMetH Tryd.prog cardLaid w) false (laidWorld os) #[.int .i64 0, .int .i64 0, .int .i64 0, .int .i64 0, .int .i64 0] 8 rfl (by kernel_rfl) (by kernel_rfl) (by kernel_rfl) (by kernel_rfl) (by kernel_rfl) (laidWorld_met os _)) ?_
  intro W base args ds gs before hval0 hW hsh
  have hM := mx_of_shaped hsh
  have hval : ∀ (j : Nat) t v, Tryd.f13.params[j]? = some t → args[j]? = some v → Value.okWide Tryd.prog W .any base t v := hval0
  have hW' := hW
  obtain ⟨p, q, hA0, hV, rfl, hfz, hnd⟩ := hW
  have hA : DataW.TrodAll enc Tryd.prog W 0 (fun _ => true) true Tryd.f13.params.toList args.toList ds p := hA0
  rw [Tryd.params13] at hA hval
  obtain ⟨v0, vs0, d0, ds0, p0, q0, hargs, rfl, rfl, h0, r0⟩ := trodAll_cons hA
  obtain ⟨v1, vs1, d1, ds1, p1, q1, rfl, rfl, rfl, h1, r1⟩ := trodAll_cons r0
  obtain ⟨v2, vs2, d2, ds2, p2, q2, rfl, rfl, rfl, h2, r2⟩ := trodAll_cons r1
  obtain ⟨v3, vs3, d3, ds3, p3, q3, rfl, rfl, rfl, h3, r3⟩ := trodAll_cons r2
  obtain ⟨v4, vs4, d4, ds4, p4, q4, rfl, rfl, rfl, h4, r4⟩ := trodAll_cons r3
  obtain ⟨rfl, rfl, rfl⟩ := trodAll_nil r4
  obtain rfl : args = #[v0, v1, v2, v3, v4] := by cases args; simp_all
  obtain ⟨rfl, rfl⟩ := trodVars_none hV
  have k0 := h0
  have lt0 : ∀ x ∈ p0, x.block < W.heap.size := by obtain ⟨m, hm⟩ := k0; exact DataW.trod_lt m _ _ _ hm
  obtain ⟨a0, rfl, rfl, rfl, w0⟩ := open_int Tryd.underlying3 (hval 0 3 v0 rfl rfl) h0
  have k1 := h1
  have lt1 : ∀ x ∈ p1, x.block < W.heap.size := by obtain ⟨m, hm⟩ := k1; exact DataW.trod_lt m _ _ _ hm
  obtain ⟨a1, rfl, rfl, rfl, w1⟩ := open_int Tryd.underlying3 (hval 1 3 v1 rfl rfl) h1
  have k2 := h2
  have lt2 : ∀ x ∈ p2, x.block < W.heap.size := by obtain ⟨m, hm⟩ := k2; exact DataW.trod_lt m _ _ _ hm
  obtain ⟨a2, rfl, rfl, rfl, w2⟩ := open_int Tryd.underlying3 (hval 2 3 v2 rfl rfl) h2
  have k3 := h3
  have lt3 : ∀ x ∈ p3, x.block < W.heap.size := by obtain ⟨m, hm⟩ := k3; exact DataW.trod_lt m _ _ _ hm
  obtain ⟨a3, rfl, rfl, rfl, w3⟩ := open_int Tryd.underlying3 (hval 3 3 v3 rfl rfl) h3
  have k4 := h4
  have lt4 : ∀ x ∈ p4, x.block < W.heap.size := by obtain ⟨m, hm⟩ := k4; exact DataW.trod_lt m _ _ _ hm
  obtain ⟨a4, rfl, rfl, rfl, w4⟩ := open_int Tryd.underlying3 (hval 4 3 v4 rfl rfl) h4
  clear hA0 hval0
  refine (BaseLine_walk (enc := enc) W hM a0 w0 a1 w1 a2 w2 a3 w3 a4 w4).mono fun e W' ⟨he, bel⟩ => ?_
  subst he
  exact ⟨_, rfl, _, _, _, [], _, [], hW', trodAll_mk1 (shut_bool Tryd.underlying4 _), (trodAll_cons_mk (Below.trod law_laid (by kernel_rfl) (of_decide_eq_true (by kernel_rfl)) k0 bel lt0) (trodAll_cons_mk (Below.trod law_laid (by kernel_rfl) (of_decide_eq_true (by kernel_rfl)) k1 bel lt1) (trodAll_cons_mk (Below.trod law_laid (by kernel_rfl) (of_decide_eq_true (by kernel_rfl)) k2 bel lt2) (trodAll_cons_mk (Below.trod law_laid (by kernel_rfl) (of_decide_eq_true (by kernel_rfl)) k3 bel lt3) (trodAll_cons_mk (Below.trod law_laid (by kernel_rfl) (of_decide_eq_true (by kernel_rfl)) k4 bel lt4) trodAll_mk0))))), rfl, bel.frame _, fun h => by cases h⟩

theorem BaseLine_over : Rows.baseLineRow.holds Tryd.pinned (OpenSpec.ofChange Rows.baseLineSpec) :=
  OpenClaim.holds_of_wide 13 Tryd.f13 rfl rfl rfl rfl rfl rfl rfl ⟨rfl, rfl, rfl, rfl, rfl⟩ rfl rfl rfl rfl rfl (by kernel_rfl) Tryd.func13 (by kernel_rfl)
    (of_decide_eq_true (by kernel_rfl)) (by unfold Func.isWrapper; first | (rw [if_pos (by decide +kernel)]; kernel_rfl) | (rw [if_neg (by decide +kernel)]; exact ⟨rfl, rfl⟩))
    (fun os started H enc _ => BaseLine_lifted os started H enc)

theorem BaseLine_params : ∀ (j : Nat) t, Tryd.f13.params[j]? = some t → Tryd.prog.wantsStandIn t = false := by
  intro j t ht
  rw [Tryd.params13] at ht
  have hm : t ∈ ([3, 3, 3, 3, 3] : List TypeId) := List.mem_of_getElem? (i := j) (by simpa using ht)
  simp only [List.mem_cons, List.not_mem_nil, or_false] at hm
  rcases hm with h | h | h | h | h
  · subst h; exact (show Tryd.prog.wantsStandIn 3 = false by kernel_rfl)
  · subst h; exact (show Tryd.prog.wantsStandIn 3 = false by kernel_rfl)
  · subst h; exact (show Tryd.prog.wantsStandIn 3 = false by kernel_rfl)
  · subst h; exact (show Tryd.prog.wantsStandIn 3 = false by kernel_rfl)
  · subst h; exact (show Tryd.prog.wantsStandIn 3 = false by kernel_rfl)
theorem BaseLine_holds : Rows.BaseLineCardSaid :=
  Claim7.holds_tied_plain_at .later [] [.data, .pinned] true (true, "b8549941136c75f2c554eaf403c37bf8f3fce9d6a3edd6b504917a752e07b547") false
    BaseLine_over (fun _ h => by cases h) (by kernel_rfl) (fun _ h => by cases h) baseLine_row_tie rfl ⟨rfl, rfl⟩ (by kernel_rfl) rfl
    (fun f fn hf hfn => by
      obtain rfl : f = 13 := Option.some.inj ((show Tryd.prog.funcNamed "cortege/cortegelaw12.BaseLine" = some 13 by kernel_rfl).symm.trans hf) |>.symm
      obtain rfl : fn = Tryd.f13 := (Option.some.inj (Tryd.func13.symm.trans hfn)).symm
      exact ⟨by kernel_rfl, BaseLine_params⟩)
    (by kernel_rfl)
#print axioms BaseLine_holds

end Go.Proofs.YtnnkbicaokckbaaDoor
