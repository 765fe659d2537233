/- BaseAhead: what two have in common is what stands in both lists of what is ahead. Conditions: none. -/
import Derived.Test.YtnnkbicaokckbaaDoorRows
import Derived.Test.YtnnkbicaokckbaaDoorTie
import Derived.Test.YtnnkbicaokckbaaDoorCards
import Derived.Test.YtnnkbicaokckbaaDoorCardB
import Derived.SevenTiedAt
import Derived.Test.YtnnkbicaokckbaaDoorBsW
import Derived.Test.YtnnkbicaokckbaaDoorLow
import Derived.Outline
import Derived.Deep.QuietTactic
import Derived.BigQuiet
import Derived.Deep.CutRange
namespace Go.Proofs.YtnnkbicaokckbaaDoor
open Go.ChangeShapes Go.WideShapes Go.ChangeAt Go.RowKit
open Go.ChangeMaps (open_string shut_string)
set_option linter.unusedVariables false
open Go.Shelf

/-- Of what stands in both what the outer loop's rounds, and of its last one the inner's, have found. -/
theorem restL_snoc (X Y : List Int) {k : Nat} (h : k < X.length) : restL (X.drop k) Y = restL (X.drop (k + 1)) Y ++ (if Y.contains X[k] = true then [X[k]] else []) := by
  have e : X.drop k = X[k] :: X.drop (k + 1) := List.drop_eq_getElem_cons h
  rw [restL, restL, e, List.filter_cons]
  split
  · rw [List.reverse_cons]
  · rw [List.append_nil]
set_option maxHeartbeats 8000000 in
set_option maxRecDepth 100000 in
theorem BaseAhead_walk {H : Type} {enc : TypeId × Value → H} (W : World) (hM : Mx W) (ao : Option Addr) (len cap : Nat) (hv : Readable enc Tryd.prog W 27 (Value.slice ao len cap).cells.toList) (a0 : Int) (_ : (Lit.int .i64 a0).wf = true) (b0 : Int) (_ : (Lit.int .i64 b0).wf = true) :
    Calls Tryd.prog 12 #[.slice ao len cap, .int .i64 a0, .int .i64 b0] W fun e W' => e = .returned (.bool true) ∧ Below W.heap.size W W' := by
  obtain ⟨v0, xs, hveq, hrd, hxm, hxw, hxb⟩ := hv.ints Tryd.underlying27 Tryd.underlying3 (by kernel_rfl)
  obtain rfl : v0 = .slice ao len cap := by have h := hveq; simp [Value.cells] at h; exact h.symm
  obtain ⟨a', c', e, -, -⟩ := hrd.shape
  cases e
  have HM := hide hM
  by_cases hlen : xs.length ≤ 30 ∧ 0 < xs.length
  rotate_left
  · by_cases h30 : xs.length ≤ 30
    · obtain rfl : xs = [] := by cases xs with | nil => rfl | cons x xs => exact absurd ⟨h30, by simp⟩ hlen
      clear hrd hxm hxw hxb hv hM hlen h30 hveq
      simp only [List.length_nil]
      go_enter Tryd.func12, Tryd.ntmps12
      go_wp2_with fail
      refine (awake12 _ HM.out).mono ?_
      rintro e w2 ⟨rfl, hb2⟩
      have HB2 := hide hb2
      clear hb2
      go_wp2_with fail
      go_ret
      exact ⟨rfl, HB2.out⟩
    · have d1 : decide ((xs.length : Int) > 30) = true := decide_eq_true (by omega)
      have hxmm : (xs.length : Int) ≤ 9223372036854775807 := by unfold maxLen at hxm; omega
      clear hrd hxm hxw hxb hv hM hlen h30 hveq
      go_enter Tryd.func12, Tryd.ntmps12
      go_wp2_with fail
      refine (awake12 _ HM.out).mono ?_
      rintro e w2 ⟨rfl, hb2⟩
      have HB2 := hide hb2
      clear hb2
      go_wp2_with fail
      go_ret
      exact ⟨rfl, HB2.out⟩
  obtain ⟨hl30, hl0⟩ := hlen
  have d1 : decide ((xs.length : Int) > 30) = false := decide_eq_false (by omega)
  have d2 : ((xs.length : Int) == 0) = false := by simp; intro e; simp [e] at hl0
  have HMD := hide (made12 W hM (.slice ao xs.length cap) xs hrd hxb hl30 (fun x hx => wf_range (hxw x hx)))
  have HD : Hid (DagOk (gcs xs)) := hide (gcs_ok xs hl30)
  have hgl := gcs_length xs
  clear hrd hxm hxw hxb hv hM hveq
  go_enter Tryd.func12, Tryd.ntmps12
  go_wp2_with fail
  refine HMD.out.mono ?_
  rintro e w2 ⟨p, q, rfl, ht, hb2⟩
  have HG : Hid (∀ Wx, Chg (fun _ => False) w2 Wx → Gets Wx (.pointer (some ⟨p, 0, none⟩)) (gcs xs)) := hide (fun Wx h => (ht.same h).is.gets)
  have HB2 := hide hb2
  have HT2 := hide ht
  clear ht hb2 HMD
  go_wp2_with fail
  refine (Low_ok _ a0 xs.length (by omega) (by omega)).mono ?_
  rintro e w3 ⟨rfl, hw3⟩
  rw [hw3]
  clear hw3
  have hal := low_lt a0 xs.length (by omega)
  generalize low a0 xs.length = la at *
  obtain ⟨A, hA⟩ : ∃ A : Int, A = 1 + (la : Int) := ⟨_, rfl⟩
  go_wp2_with fail
  refine (Low_ok _ b0 xs.length (by omega) (by omega)).mono ?_
  rintro e w3 ⟨rfl, hw3⟩
  rw [hw3]
  clear hw3
  have hbl := low_lt b0 xs.length (by omega)
  generalize low b0 xs.length = lb at *
  obtain ⟨B, hB⟩ : ∃ B : Int, B = 1 + (lb : Int) := ⟨_, rfl⟩
  have hAr : 1 ≤ A ∧ A ≤ xs.length := by omega
  have hBr : 1 ≤ B ∧ B ≤ xs.length := by omega
  have HAI : Hid (I64 A) := hide (by unfold I64; omega)
  have HBI : Hid (I64 B) := hide (by unfold I64; omega)
  have HEA := hide hA
  have HEB := hide hB
  clear hA hB
  go_wp2_with fail
  rw [← HEA.out, ← HEB.out]
  clear HEA HEB hal hbl
  refine (dag_Ahead w2 (HG.out w2 (Chg.refl _ _)) A HAI.out HD.out).mono ?_
  rintro e w3 ⟨gv, rfl, ht3, hb3⟩
  have hXl := aheadN_length (gcs xs) A
  have hYl := aheadN_length (gcs xs) B
  have hXf := ahead_falls (gcs xs) A
  have hYf := ahead_falls (gcs xs) B
  obtain ⟨X, hX⟩ : ∃ X, X = aheadN (gcs xs) A := ⟨_, rfl⟩
  obtain ⟨Y, hY⟩ : ∃ Y, Y = aheadN (gcs xs) B := ⟨_, rfl⟩
  have HCE : Hid (commonN (gcs xs) A B = restL X Y) := hide (by rw [hX, hY]; rfl)
  rw [← hX] at ht3 hXl hXf
  rw [← hY] at hYl hYf
  have HY := hide hY
  have HYF := hide hYf
  have HIN := hide (ints_told w3 _ gv ht3 (by omega) 99 (by omega))
  have HC3 := hide (chg_b (Chg.refl _ w2) hb3)
  clear ht3 hb3 hX hY hXf hYf
  go_wp2_with fail
  refine HIN.out.mono ?_
  rintro e w4 ⟨ao4, cap4, rfl, ho4, hb4⟩
  have HO4 := hide (Rd.of_owns ho4)
  have HC4 := hide (chg_b HC3.out hb4)
  clear ho4 hb4 HIN
  go_wp2_with fail
  refine (dag_Ahead w4 (HG.out w4 HC4.out) B HBI.out HD.out).mono ?_
  rintro e w5 ⟨gv, rfl, ht5, hb5⟩
  rw [← HY.out] at ht5
  have HIN := hide (ints_told w5 _ gv ht5 (by omega) 99 (by omega))
  have HO5 := hide (HO4.out.chg (Chg.of_below0 (S := fun _ => False) hb5) (fun _ _ _ h => h))
  have HC5 := hide (chg_b HC4.out hb5)
  clear ht5 hb5 HO4
  go_wp2_with fail
  refine HIN.out.mono ?_
  rintro e w6 ⟨ao6, cap6, rfl, ho6, hb6⟩
  have HYR := hide (Rd.of_owns ho6)
  have HXR := hide (HO5.out.chg (Chg.of_below0 (S := fun _ => False) hb6) (fun _ _ _ h => h))
  have HC6 := hide (chg_b HC5.out hb6)
  clear ho6 hb6 HIN HO5
  have hwx : IntKind.i64.wrap ((X.length : Int) - 1) = (X.length : Int) - 1 := IntWalk.i64_in _ (by omega)
  go_wp2_with fail
  go_loopw [11, 12] (fun v s wr => ∃ (k : Nat) (out : List Int), k ≤ X.length ∧ s = .int .i64 ((k : Int) - 1) ∧ out.length ≤ 60 ∧ (∃ a1 c1, v = .slice a1 out.length c1 ∧ Hid (wr.ownsRow w6.heap.size 3 1 (.slice a1 out.length c1) out.length (out.map (Value.int .i64)))) ∧ Hid (out = restL (X.drop k) Y) ∧ Hid (Chg (fun _ => False) w6 wr)) (fun _ s _ => (intOf s + 1).toNat)
  case atStart => exact ⟨X.length, [], Nat.le_refl _, rfl, by simp, ⟨none, 0, rfl, World.ownsRow_nil _ _ _ _⟩, by rw [List.drop_length]; rfl, Chg.refl _ _⟩
  case round =>
    obtain ⟨k, out, hk, rfl, hol, ⟨a1, c1, rfl, HR⟩, HE, HC⟩ := hrel
    obtain ⟨wo, rfl⟩ : ∃ wo : World, wo = wr := ⟨_, rfl⟩
    cases k with
    | zero =>
      have he := HE.out
      rw [List.drop_zero, ← HCE.out] at he
      have HE2 := hide he
      have HC7 := hide (chg_c HC6.out HC.out)
      have d3 : decide (((0 : Nat) : Int) - 1 ≥ 0) = false := decide_eq_false (by omega)
      clear he
      go_wp2_with fail
      refine (base_Common wo HD.out (HG.out wo HC7.out) A B HAI.out HBI.out).mono ?_
      rintro e w8 ⟨a8, c8, rfl, ho8, hb8⟩
      rw [← HE2.out] at ho8 ⊢
      have HC8 := hide (chg_b HC7.out hb8)
      have HSI := hide (same_intsT w8 (.slice a8 out.length c8) (.slice a1 out.length c1) out (Rd.of_owns ho8) ((Rd.of_owns HR.out).chg (Chg.of_below0 (S := fun _ => False) hb8) (fun _ _ _ h => h)) (by omega))
      clear ho8 hb8
      go_wp2_with fail
      refine HSI.out.mono ?_
      rintro e w9 ⟨rfl, hc9⟩
      have HC9 := hide (chg_c HC8.out hc9)
      have HB9 := hide (HB2.out.trans (HC9.out.below HB2.out.size (fun _ _ h => h)))
      clear hc9 HSI
      go_wp2_with fail
      refine (awake12 w9 (HM.out.below HB9.out HM.out.pos)).mono ?_
      rintro e w17 ⟨rfl, hb17⟩
      have HB17 := hide (HB9.out.trans (hb17.mono HB9.out.size))
      clear hb17
      go_wp2_with fail
      go_ret
      exact ⟨rfl, HB17.out⟩
    | succ k =>
      have hti : ((k + 1 : Nat) : Int) - 1 = (k : Int) := by omega
      rw [hti]
      have hkl : k < X.length := by omega
      have hsn := restL_snoc X Y hkl
      have HXC : Hid (∀ Wx, Chg (fun _ => False) w6 Wx → ∃ b off, ao4 = some ⟨b, off, none⟩ ∧ Wx.cell? ⟨b, off + k, none⟩ = some (.int .i64 X[k])) := hide (fun Wx hc => by
        obtain ⟨a', c', e, -, hcs0⟩ := (HXR.out.chg hc (fun _ _ _ h => h)).shape
        obtain ⟨b0, off0, rfl, hcs⟩ := hcs0 (by omega)
        cases e
        exact ⟨b0, off0, rfl, hcs k (.int .i64 X[k]) (by rw [List.getElem?_map, List.getElem?_eq_getElem hkl]; rfl)⟩)
      obtain ⟨x, hx⟩ : ∃ x, x = X[k] := ⟨_, rfl⟩
      rw [← hx] at HXC hsn
      obtain ⟨b0, off0, rfl, -⟩ := HXC.out wo HC.out
      have HXD : Hid (∀ Wx, Chg (fun _ => False) w6 Wx → Wx.cell? ⟨b0, off0 + k, none⟩ = some (.int .i64 x)) := hide (fun Wx hc => by
        obtain ⟨b, off, e, h⟩ := HXC.out Wx hc
        cases e; exact h)
      rw [← HE.out] at hsn
      have HSN := hide hsn
      have hd0 : decide ((k : Int) ≥ 0) = true := decide_eq_true (by omega)
      have hki : (k : Int) < (X.length : Int) := by omega
      have hwk : IntKind.i64.wrap ((k : Int) - 1) = (k : Int) - 1 := IntWalk.i64_in _ (by omega)
      have hol1 : out.length ≤ 59 ∨ out.length = 60 := by omega
      have HOL : Hid (out.length < X.length) := hide (by
        rw [HE.out, restL, List.length_reverse]
        have := List.length_filter_le (fun v => Y.contains v) (X.drop (k + 1))
        rw [List.length_drop] at this
        omega)
      have hol2 : out.length < 60 := by have := HOL.out; omega
      clear hsn hx hol1
      go_wp2_with fail
      go_loopw [11, 13] (fun v s wr => ∃ (j : Nat) (ou : List Int), j ≤ Y.length ∧ s = .int .i64 j ∧ ou.length ≤ 60 ∧ (∃ a1 c1, v = .slice a1 ou.length c1 ∧ Hid (wr.ownsRow w6.heap.size 3 1 (.slice a1 ou.length c1) ou.length (ou.map (Value.int .i64)))) ∧ Hid (ou = out ++ (if (Y.take j).contains x = true then [x] else [])) ∧ Hid (Chg (fun _ => False) w6 wr)) (fun _ s _ => Y.length - (intOf s).toNat)
      case atStart => exact ⟨0, out, Nat.zero_le _, rfl, hol, ⟨a1, c1, rfl, HR.out⟩, hide (by simp), HC.out⟩
      case round =>
        obtain ⟨j, ou, hj, rfl, holu, ⟨a2, c2, rfl, HRI⟩, HEI, HCI⟩ := hrel
        obtain ⟨wi, rfl⟩ : ∃ wi : World, wi = wr := ⟨_, rfl⟩
        by_cases hjl : j < Y.length
        · obtain ⟨a', c', e, -, hcs0⟩ := (HYR.out.chg HCI.out (fun _ _ _ h => h)).shape
          obtain ⟨b1, off1, rfl, hcs⟩ := hcs0 (by omega)
          cases e
          have hy0 : wi.cell? ⟨b1, off1 + j, none⟩ = some (.int .i64 Y[j]) := hcs j (.int .i64 Y[j]) (by rw [List.getElem?_map, List.getElem?_eq_getElem hjl]; rfl)
          have hx0 := HXD.out wi HCI.out
          obtain ⟨e1, h1⟩ := falls_take HYF.out hjl
          have hjy : (j : Int) < (Y.length : Int) := by omega
          have hwj : IntKind.i64.wrap (j : Int) = j := IntWalk.i64_in _ (by omega)
          have hct : (Y.take (j + 1)).contains x = ((Y.take j).contains x || (x == Y[j])) := by
            rw [e1, List.contains_append]
            simp only [List.contains_cons, List.contains_nil, Bool.or_false]
          by_cases hxy : x = Y[j]
          · have hno : (Y.take j).contains x = false := by
              rw [← Bool.not_eq_true, List.contains_iff_mem]
              intro hm
              have := h1 x hm
              omega
            have hei := HEI.out
            rw [hno, if_neg (by decide), List.append_nil] at hei
            have HE2 : Hid (ou ++ [x] = out ++ (if (Y.take (j + 1)).contains x = true then [x] else [])) := hide (by rw [hct, hno, hei, hxy]; simp)
            have hou : ou.length < 60 := by rw [hei]; exact hol2
            have d4 : (x == Y[j]) = true := by simp [hxy]
            generalize Y[j] = y at *
            clear hcs hcs0 e1 h1 hct hxy hno hei
            go_wp2_with fail
            refine reg_start (Chg (fun _ => False) wi) 9 9 (by rfl) (by kernel_rfl) (Chg.drew _ _) ?_
            intro hS0
            have hSc := hS0
            refine reg_take (i := 0) (v := ?g2v) rfl (by kernel_rfl) (by kernel_rfl) (by kernel_rfl) (by kernel_rfl) (fun _ _ _ h => h) (by rfl) ?g2y (by assumption) ?g2r
            case g2y => (intro W hS; first | (go_simp; done) | (go_simp; with_reducible rfl))
            simp only [Act.put, List.setIfInBounds_toArray, List.set_cons_zero, List.set_cons_succ]
            refine reg_take (i := 1) (v := ?g3v) rfl (by kernel_rfl) (by kernel_rfl) (by kernel_rfl) (by kernel_rfl) (fun _ _ _ h => h) (by rfl) ?g3y (by assumption) ?g3r
            case g3y => (intro W hS; first | (go_simp; done) | (go_simp; with_reducible rfl))
            simp only [Act.put, List.setIfInBounds_toArray, List.set_cons_zero, List.set_cons_succ]
            refine reg_take (i := 2) (v := ?g4v) rfl (by kernel_rfl) (by kernel_rfl) (by kernel_rfl) (by kernel_rfl) (fun _ _ _ h => h) (by rfl) ?g4y (by assumption) ?g4r
            case g4y => (intro W hS; first | (go_simp; done) | (go_simp; with_reducible rfl))
            simp only [Act.put, List.setIfInBounds_toArray, List.set_cons_zero, List.set_cons_succ]
            refine reg_take (i := 3) (v := ?g5v) rfl (by kernel_rfl) (by kernel_rfl) (by kernel_rfl) (by kernel_rfl) (fun _ _ _ h => h) (by rfl) ?g5y (by assumption) ?g5r
            case g5y => (intro W hS; have f0 := hS.cell hx0 (fun h => h); have f1 := hS.cell hy0 (fun h => h); first | (go_simp; done) | (go_simp; with_reducible rfl))
            simp only [Act.put, List.setIfInBounds_toArray, List.set_cons_zero, List.set_cons_succ]
            refine reg_take (i := 4) (v := ?g6v) rfl (by kernel_rfl) (by kernel_rfl) (by kernel_rfl) (by kernel_rfl) (fun _ _ _ h => h) (by rfl) ?g6y (by assumption) ?g6r
            case g6y => (intro W hS; first | (go_simp; done) | (go_simp; with_reducible rfl))
            simp only [Act.put, List.setIfInBounds_toArray, List.set_cons_zero, List.set_cons_succ]
            refine reg_take (i := 5) (v := ?g7v) rfl (by kernel_rfl) (by kernel_rfl) (by kernel_rfl) (by kernel_rfl) (fun _ _ _ h => h) (by rfl) ?g7y (by assumption) ?g7r
            case g7y => (intro W hS; first | (go_simp; done) | (go_simp; with_reducible rfl))
            simp only [Act.put, List.setIfInBounds_toArray, List.set_cons_zero, List.set_cons_succ]
            refine reg_take (i := 6) (v := ?g8v) rfl (by kernel_rfl) (by kernel_rfl) (by kernel_rfl) (by kernel_rfl) (fun _ _ _ h => h) (by rfl) ?g8y (by assumption) ?g8r
            case g8y => (intro W hS; first | (go_simp; done) | (go_simp; with_reducible rfl))
            simp only [Act.put, List.setIfInBounds_toArray, List.set_cons_zero, List.set_cons_succ]
            refine reg_take (i := 7) (v := ?g9v) rfl (by kernel_rfl) (by kernel_rfl) (by kernel_rfl) (by kernel_rfl) (fun _ _ _ h => h) (by rfl) ?g9y (by assumption) ?g9r
            case g9y => (intro W hS; have f0 := hS.cell hx0 (fun h => h); have f1 := hS.cell hy0 (fun h => h); first | (go_simp; done) | (go_simp; with_reducible rfl))
            simp only [Act.put, List.setIfInBounds_toArray, List.set_cons_zero, List.set_cons_succ]
            refine reg_take (i := 8) (v := ?g10v) rfl (by kernel_rfl) (by kernel_rfl) (by kernel_rfl) (by kernel_rfl) (fun _ _ _ h => h) (by rfl) ?g10y (by assumption) ?g10r
            case g10y => (intro W hS; first | (go_simp; done) | (go_simp; with_reducible rfl))
            simp only [Act.put, List.setIfInBounds_toArray, List.set_cons_zero, List.set_cons_succ]
            refine wpAnyG_done (by kernel_rfl) ?_ _
            clear hS0 hSc
            have hx1 : wi.drew.cell? ⟨b0, off0 + k, none⟩ = some (.int .i64 x) := hx0
            have hcd := Chg.drew (fun _ => False) wi
            generalize wi.drew = wp at hx1 hcd ⊢
            have HRP := hide (hcd.owns HRI.out (fun _ _ h => h))
            have HCP := hide (chg_c HCI.out hcd)
            clear hx0 hy0 hcd
            go_wp2_with (at_builtin; go_loud ((refine wpl_append rfl _ _ _ rfl int_slT w6.heap.size (HRP.out.alloc _) (Rd_lit wp #[.int .i64 x] 3 1) rfl rfl rfl (by simp [Value.oneCell']) (by unfold maxLen; omega) (by omega) (by have := HCP.out.size; simp; omega) ?_); intro ao1 cap1 w9 hown hg hat hnil; have hg9 := (Chg.alloc (fun _ => False) wp _).trans hg (S'' := fun j => (Value.slice a2 ou.length c2).ownBlock = some j) (fun _ _ h => h.elim) (fun _ _ h => h); have HO9 := hide hown; have HG9 := hide hg9; clear hown hg hat hnil hg9 hx1))
            go_roundw
            case rel =>
              refine ⟨j + 1, ou ++ [x], by omega, by go_num, by rw [List.length_append]; simp; omega, ⟨ao1, cap1, by rw [List.length_append]; rfl, ?_⟩, HE2.out, HCP.out.trans HG9.out (fun _ _ h => h) (fun j hj h => by have := (ownsRow_lt HRP.out j h).1; omega)⟩
              have := HO9.out
              refine hide ?_
              rw [List.length_append, List.length_singleton, List.map_append]
              exact this
            case measure => simp [intOf]; omega
          · have d4 : (x == Y[j]) = false := by simp [hxy]
            have HE2 : Hid (ou = out ++ (if (Y.take (j + 1)).contains x = true then [x] else [])) := hide (by rw [hct, d4, Bool.or_false]; exact HEI.out)
            generalize Y[j] = y at *
            clear hcs hcs0 e1 h1 hct hxy
            go_wp2_with fail
            refine reg_start (Chg (fun _ => False) wi) 9 9 (by rfl) (by kernel_rfl) (Chg.drew _ _) ?_
            intro hS0
            have hSc := hS0
            refine reg_take (i := 0) (v := ?g12v) rfl (by kernel_rfl) (by kernel_rfl) (by kernel_rfl) (by kernel_rfl) (fun _ _ _ h => h) (by rfl) ?g12y (by assumption) ?g12r
            case g12y => (intro W hS; first | (go_simp; done) | (go_simp; with_reducible rfl))
            simp only [Act.put, List.setIfInBounds_toArray, List.set_cons_zero, List.set_cons_succ]
            refine reg_take (i := 1) (v := ?g13v) rfl (by kernel_rfl) (by kernel_rfl) (by kernel_rfl) (by kernel_rfl) (fun _ _ _ h => h) (by rfl) ?g13y (by assumption) ?g13r
            case g13y => (intro W hS; first | (go_simp; done) | (go_simp; with_reducible rfl))
            simp only [Act.put, List.setIfInBounds_toArray, List.set_cons_zero, List.set_cons_succ]
            refine reg_take (i := 2) (v := ?g14v) rfl (by kernel_rfl) (by kernel_rfl) (by kernel_rfl) (by kernel_rfl) (fun _ _ _ h => h) (by rfl) ?g14y (by assumption) ?g14r
            case g14y => (intro W hS; first | (go_simp; done) | (go_simp; with_reducible rfl))
            simp only [Act.put, List.setIfInBounds_toArray, List.set_cons_zero, List.set_cons_succ]
            refine reg_take (i := 3) (v := ?g15v) rfl (by kernel_rfl) (by kernel_rfl) (by kernel_rfl) (by kernel_rfl) (fun _ _ _ h => h) (by rfl) ?g15y (by assumption) ?g15r
            case g15y => (intro W hS; have f0 := hS.cell hx0 (fun h => h); have f1 := hS.cell hy0 (fun h => h); first | (go_simp; done) | (go_simp; with_reducible rfl))
            simp only [Act.put, List.setIfInBounds_toArray, List.set_cons_zero, List.set_cons_succ]
            refine reg_take (i := 4) (v := ?g16v) rfl (by kernel_rfl) (by kernel_rfl) (by kernel_rfl) (by kernel_rfl) (fun _ _ _ h => h) (by rfl) ?g16y (by assumption) ?g16r
            case g16y => (intro W hS; first | (go_simp; done) | (go_simp; with_reducible rfl))
            simp only [Act.put, List.setIfInBounds_toArray, List.set_cons_zero, List.set_cons_succ]
            refine reg_take (i := 5) (v := ?g17v) rfl (by kernel_rfl) (by kernel_rfl) (by kernel_rfl) (by kernel_rfl) (fun _ _ _ h => h) (by rfl) ?g17y (by assumption) ?g17r
            case g17y => (intro W hS; first | (go_simp; done) | (go_simp; with_reducible rfl))
            simp only [Act.put, List.setIfInBounds_toArray, List.set_cons_zero, List.set_cons_succ]
            refine reg_take (i := 6) (v := ?g18v) rfl (by kernel_rfl) (by kernel_rfl) (by kernel_rfl) (by kernel_rfl) (fun _ _ _ h => h) (by rfl) ?g18y (by assumption) ?g18r
            case g18y => (intro W hS; first | (go_simp; done) | (go_simp; with_reducible rfl))
            simp only [Act.put, List.setIfInBounds_toArray, List.set_cons_zero, List.set_cons_succ]
            refine reg_take (i := 7) (v := ?g19v) rfl (by kernel_rfl) (by kernel_rfl) (by kernel_rfl) (by kernel_rfl) (fun _ _ _ h => h) (by rfl) ?g19y (by assumption) ?g19r
            case g19y => (intro W hS; have f0 := hS.cell hx0 (fun h => h); have f1 := hS.cell hy0 (fun h => h); first | (go_simp; done) | (go_simp; with_reducible rfl))
            simp only [Act.put, List.setIfInBounds_toArray, List.set_cons_zero, List.set_cons_succ]
            refine reg_take (i := 8) (v := ?g20v) rfl (by kernel_rfl) (by kernel_rfl) (by kernel_rfl) (by kernel_rfl) (fun _ _ _ h => h) (by rfl) ?g20y (by assumption) ?g20r
            case g20y => (intro W hS; first | (go_simp; done) | (go_simp; with_reducible rfl))
            simp only [Act.put, List.setIfInBounds_toArray, List.set_cons_zero, List.set_cons_succ]
            refine wpAnyG_done (by kernel_rfl) ?_ _
            have HC2 := hide (chg_c HCI.out hSc)
            have HR2 := hide (hSc.owns HRI.out (fun _ _ h => h))
            clear hS0 hSc hx0 hy0
            go_wp2_with fail
            go_roundw
            case rel => exact ⟨j + 1, ou, by omega, by go_num, holu, ⟨a2, c2, rfl, HR2.out⟩, HE2.out, HC2.out⟩
            case measure => simp [intOf]; omega
        · obtain rfl : j = Y.length := by omega
          have hei := HEI.out
          rw [List.take_length, ← HSN.out] at hei
          have HE2 := hide hei
          clear hei
          go_wp2_with fail
          go_roundw
          case rel => exact ⟨k, ou, by omega, by (show Value.int .i64 _ = Value.int .i64 _; congr 1), holu, ⟨a2, c2, rfl, HRI.out⟩, HE2.out, HCI.out⟩
          case measure => simp only [intOf]; omega
set_option maxRecDepth 100000 in
theorem BaseAhead_lifted (os : Os) (started : os.Started) (H : Type) (enc : TypeId × Value → H) :
    ReturnsInHanded {} Tryd.checked os 12 .any (fun w args => (Rows.baseAheadSpec.pre enc Tryd.prog Tryd.f12 Rows.baseAheadRow.domain false w args ∧ laidMetH Tryd.prog cardLaid w) ∧ sizedMet enc Tryd.prog Tryd.f12 (OpenSpec.ofChange Rows.baseAheadSpec) false w args) (Rows.baseAheadSpec.post enc Tryd.prog Tryd.f12 false true false false) := by
  refine card_wrap (C := Tryd.checked) (X := fun w => laidMetH Tryd.prog cardLaid w) law_own started (by kernel_rfl) Tryd.func12
    (ChangeSpec.witness_at (enc := enc) (C := Tryd.checked) (os := os) (X := fun w _ => laidMetH Tryd.prog cardLaid w) false (laidWorld os) #[.slice none 0 0, .int .i64 0, .int .i64 0] 8 rfl (by kernel_rfl) (by kernel_rfl) (by kernel_rfl) (by kernel_rfl) (by kernel_rfl) (laidWorld_met os _)) ?_
  intro W base args ds gs before hval0 hW hsh
  have hM := mx_of_shaped hsh
  have hval : ∀ (j : Nat) t v, Tryd.f12.params[j]? = some t → args[j]? = some v → Value.okWide Tryd.prog W .any base t v := hval0
  have hW' := hW
  obtain ⟨p, q, hA0, hV, rfl, hfz, hnd⟩ := hW
  have hA : DataW.TrodAll enc Tryd.prog W 0 (fun _ => true) true Tryd.f12.params.toList args.toList ds p := hA0
  rw [Tryd.params12] at hA hval
  obtain ⟨v0, vs0, d0, ds0, p0, q0, hargs, rfl, rfl, h0, r0⟩ := trodAll_cons hA
  obtain ⟨v1, vs1, d1, ds1, p1, q1, rfl, rfl, rfl, h1, r1⟩ := trodAll_cons r0
  obtain ⟨v2, vs2, d2, ds2, p2, q2, rfl, rfl, rfl, h2, r2⟩ := trodAll_cons r1
  obtain ⟨rfl, rfl, rfl⟩ := trodAll_nil r2
  obtain rfl : args = #[v0, v1, v2] := by cases args; simp_all
  obtain ⟨rfl, rfl⟩ := trodVars_none hV
  have k0 := h0
  have lt0 : ∀ x ∈ p0, x.block < W.heap.size := by obtain ⟨m, hm⟩ := k0; exact DataW.trod_lt m _ _ _ hm
  obtain ⟨a0, len0, cap0, rfl⟩ := okWide_slice Tryd.underlying27 (hval 0 27 v0 rfl rfl)
  have k1 := h1
  have lt1 : ∀ x ∈ p1, x.block < W.heap.size := by obtain ⟨m, hm⟩ := k1; exact DataW.trod_lt m _ _ _ hm
  obtain ⟨a1, rfl, rfl, rfl, w1⟩ := open_int Tryd.underlying3 (hval 1 3 v1 rfl rfl) h1
  have k2 := h2
  have lt2 : ∀ x ∈ p2, x.block < W.heap.size := by obtain ⟨m, hm⟩ := k2; exact DataW.trod_lt m _ _ _ hm
  obtain ⟨a2, rfl, rfl, rfl, w2⟩ := open_int Tryd.underlying3 (hval 2 3 v2 rfl rfl) h2
  clear hA0 hval0
  refine (BaseAhead_walk (enc := enc) W hM a0 len0 cap0 (Readable.of_trod h0) a1 w1 a2 w2).mono fun e W' ⟨he, bel⟩ => ?_
  subst he
  exact ⟨_, rfl, _, _, _, [], _, [], hW', trodAll_mk1 (shut_bool Tryd.underlying4 _), (trodAll_cons_mk (Below.trod law_laid (by kernel_rfl) (of_decide_eq_true (by kernel_rfl)) k0 bel lt0) (trodAll_cons_mk (Below.trod law_laid (by kernel_rfl) (of_decide_eq_true (by kernel_rfl)) k1 bel lt1) (trodAll_cons_mk (Below.trod law_laid (by kernel_rfl) (of_decide_eq_true (by kernel_rfl)) k2 bel lt2) trodAll_mk0))), rfl, bel.frame _, fun h => by cases h⟩

theorem BaseAhead_over : Rows.baseAheadRow.holds Tryd.pinned (OpenSpec.ofChange Rows.baseAheadSpec) :=
  OpenClaim.holds_of_wide 12 Tryd.f12 rfl rfl rfl rfl rfl rfl rfl ⟨rfl, rfl, rfl, rfl, rfl⟩ rfl rfl rfl rfl rfl (by kernel_rfl) Tryd.func12 (by kernel_rfl)
    (of_decide_eq_true (by kernel_rfl)) (by unfold Func.isWrapper; first | (rw [if_pos (by decide +kernel)]; kernel_rfl) | (rw [if_neg (by decide +kernel)]; exact ⟨rfl, rfl⟩))
    (fun os started H enc _ => BaseAhead_lifted os started H enc)

theorem BaseAhead_params : ∀ (j : Nat) t, Tryd.f12.params[j]? = some t → Tryd.prog.wantsStandIn t = false := by
  intro j t ht
  rw [Tryd.params12] at ht
  have hm : t ∈ ([27, 3, 3] : List TypeId) := List.mem_of_getElem? (i := j) (by simpa using ht)
  simp only [List.mem_cons, List.not_mem_nil, or_false] at hm
  rcases hm with h | h | h
  · subst h; exact (show Tryd.prog.wantsStandIn 27 = false by kernel_rfl)
  · subst h; exact (show Tryd.prog.wantsStandIn 3 = false by kernel_rfl)
  · subst h; exact (show Tryd.prog.wantsStandIn 3 = false by kernel_rfl)
theorem BaseAhead_holds : Rows.BaseAheadCardSaid :=
  Claim7.holds_tied_plain_at .later [] [.data, .pinned] true (true, "b8549941136c75f2c554eaf403c37bf8f3fce9d6a3edd6b504917a752e07b547") false
    BaseAhead_over (fun _ h => by cases h) (by kernel_rfl) (fun _ h => by cases h) baseAhead_row_tie rfl ⟨rfl, rfl⟩ (by kernel_rfl) rfl
    (fun f fn hf hfn => by
      obtain rfl : f = 12 := Option.some.inj ((show Tryd.prog.funcNamed "cortege/cortegelaw12.BaseAhead" = some 12 by kernel_rfl).symm.trans hf) |>.symm
      obtain rfl : fn = Tryd.f12 := (Option.some.inj (Tryd.func12.symm.trans hfn)).symm
      exact ⟨by kernel_rfl, BaseAhead_params⟩)
    (by kernel_rfl)
#print axioms BaseAhead_holds

end Go.Proofs.YtnnkbicaokckbaaDoor
