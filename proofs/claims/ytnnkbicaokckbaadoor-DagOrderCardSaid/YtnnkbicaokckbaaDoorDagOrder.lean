/- DagOrder: who came of whom goes along, and never both ways; who came of one is deeper, and has a greater number; each of what is ahead is. Conditions: none. -/
import Derived.Test.YtnnkbicaokckbaaDoorRows
import Derived.Test.YtnnkbicaokckbaaDoorTie
import Derived.Test.YtnnkbicaokckbaaDoorCards
import Derived.Test.YtnnkbicaokckbaaDoorCardB
import Derived.SevenTiedAt
import Derived.Test.YtnnkbicaokckbaaDoorDgW
import Derived.Test.YtnnkbicaokckbaaDoorDgR
import Derived.Test.YtnnkbicaokckbaaDoorLow
import Derived.Outline
import Derived.Deep.QuietTactic
import Derived.BigQuiet
import Derived.Deep.CutRange
namespace Go.Proofs.YtnnkbicaokckbaaDoor
open Go.ChangeShapes Go.WideShapes Go.ChangeAt Go.RowKit
open Go.ChangeMaps (open_string shut_string)
set_option linter.unusedVariables false
open Go.Shelf

theorem dag_IsN (w : World) {v : Value} {cs : List Cm} (hd : DagOk cs) (hg : Gets w v cs) (a b : Int) (hb : I64 b) :
    Calls Tryd.prog 42 #[v, .int .i64 a, .int .i64 b] w fun e w' => e = .returned (.bool (isN cs a b)) ∧ Below w.heap.size w w' := dag_Is w hd hg a b hb
set_option maxHeartbeats 8000000 in
set_option maxRecDepth 100000 in
theorem DagOrder_walk {H : Type} {enc : TypeId × Value → H} (W : World) (hM : Mx W) (ao : Option Addr) (len cap : Nat) (hv : Readable enc Tryd.prog W 27 (Value.slice ao len cap).cells.toList) (a0 : Int) (_ : (Lit.int .i64 a0).wf = true) (b0 : Int) (_ : (Lit.int .i64 b0).wf = true) (c0 : Int) (_ : (Lit.int .i64 c0).wf = true) :
    Calls Tryd.prog 8 #[.slice ao len cap, .int .i64 a0, .int .i64 b0, .int .i64 c0] W fun e W' => e = .returned (.bool true) ∧ Below W.heap.size W W' := by
  obtain ⟨v0, xs, hveq, hrd, hxm, hxw, hxb⟩ := hv.ints Tryd.underlying27 Tryd.underlying3 (by kernel_rfl)
  obtain rfl : v0 = .slice ao len cap := by have h := hveq; simp [Value.cells] at h; exact h.symm
  obtain ⟨a', c', e, -, -⟩ := hrd.shape
  cases e
  have HM := hide hM
  by_cases hlen : xs.length ≤ 30 ∧ 0 < xs.length
  rotate_left
  · by_cases h30 : xs.length ≤ 30
    · obtain rfl : xs = [] := by cases xs with | nil => rfl | cons x xs => exact absurd ⟨h30, by simp⟩ hlen
      clear hrd hxm hxw hxb hv hM hlen h30 hveq
      simp only [List.length_nil]
      go_enter Tryd.func8, Tryd.ntmps8
      go_wp2_with fail
      refine (awake11 _ HM.out).mono ?_
      rintro e w2 ⟨rfl, hb2⟩
      have HB2 := hide hb2
      clear hb2
      go_wp2_with fail
      go_ret
      exact ⟨rfl, HB2.out⟩
    · have d1 : decide ((xs.length : Int) > 30) = true := decide_eq_true (by omega)
      have hxmm : (xs.length : Int) ≤ 9223372036854775807 := by unfold maxLen at hxm; omega
      clear hrd hxm hxw hxb hv hM hlen h30 hveq
      go_enter Tryd.func8, Tryd.ntmps8
      go_wp2_with fail
      refine (awake11 _ HM.out).mono ?_
      rintro e w2 ⟨rfl, hb2⟩
      have HB2 := hide hb2
      clear hb2
      go_wp2_with fail
      go_ret
      exact ⟨rfl, HB2.out⟩
  obtain ⟨hl30, hl0⟩ := hlen
  have d1 : decide ((xs.length : Int) > 30) = false := decide_eq_false (by omega)
  have d2 : ((xs.length : Int) == 0) = false := by simp; intro e; simp [e] at hl0
  have HMD := hide (made11 W hM (.slice ao xs.length cap) xs hrd hxb hl30 (fun x hx => wf_range (hxw x hx)))
  have HD : Hid (DagOk (gcs xs)) := hide (gcs_ok xs hl30)
  have hgl := gcs_length xs
  clear hrd hxm hxw hxb hv hM hveq
  go_enter Tryd.func8, Tryd.ntmps8
  go_wp2_with fail
  refine HMD.out.mono ?_
  rintro e w2 ⟨p, q, rfl, ht, hb2⟩
  have HG : Hid (∀ Wx, Chg (fun _ => False) w2 Wx → Gets Wx (.pointer (some ⟨p, 0, none⟩)) (gcs xs)) := hide (fun Wx h => (ht.same h).is.gets)
  have HB2 := hide hb2
  have HT2 := hide ht
  clear ht hb2 HMD
  go_wp2_with fail
  refine (Low_ok _ a0 xs.length (by omega) (by omega)).mono ?_
  rintro e w3 ⟨rfl, hw3⟩
  rw [hw3]
  clear hw3
  have hal := low_lt a0 xs.length (by omega)
  generalize low a0 xs.length = la at *
  obtain ⟨A, hA⟩ : ∃ A : Int, A = 1 + (la : Int) := ⟨_, rfl⟩
  go_wp2_with fail
  refine (Low_ok _ b0 xs.length (by omega) (by omega)).mono ?_
  rintro e w3 ⟨rfl, hw3⟩
  rw [hw3]
  clear hw3
  have hbl := low_lt b0 xs.length (by omega)
  generalize low b0 xs.length = lb at *
  obtain ⟨B, hB⟩ : ∃ B : Int, B = 1 + (lb : Int) := ⟨_, rfl⟩
  go_wp2_with fail
  refine (Low_ok _ c0 xs.length (by omega) (by omega)).mono ?_
  rintro e w3 ⟨rfl, hw3⟩
  rw [hw3]
  clear hw3
  have hcl := low_lt c0 xs.length (by omega)
  generalize low c0 xs.length = lc at *
  obtain ⟨C, hC⟩ : ∃ C : Int, C = 1 + (lc : Int) := ⟨_, rfl⟩
  have hAr : 1 ≤ A ∧ A ≤ xs.length := by omega
  have hBr : 1 ≤ B ∧ B ≤ xs.length := by omega
  have hCr : 1 ≤ C ∧ C ≤ xs.length := by omega
  have HAI : Hid (I64 A) := hide (by unfold I64; omega)
  have HBI : Hid (I64 B) := hide (by unfold I64; omega)
  have HCI : Hid (I64 C) := hide (by unfold I64; omega)
  have HEA := hide hA
  have HEB := hide hB
  have HEC := hide hC
  clear hA hB hC
  go_wp2_with fail
  rw [← HEA.out, ← HEB.out, ← HEC.out]
  clear HEA HEB HEC hal hbl hcl
  refine (dag_IsN w2 HD.out (HG.out w2 (Chg.refl _ _)) A B HBI.out).mono ?_
  rintro e w3 ⟨rfl, hb3⟩
  have HC3 := hide (chg_b (Chg.refl _ w2) hb3)
  clear hb3
  go_wp2_with fail
  refine (dag_IsN w3 HD.out (HG.out w3 HC3.out) B C HCI.out).mono ?_
  rintro e w4 ⟨rfl, hb4⟩
  have HC4 := hide (chg_b HC3.out hb4)
  clear hb4
  go_wp2_with fail
  refine (dag_IsN w4 HD.out (HG.out w4 HC4.out) A C HCI.out).mono ?_
  rintro e w5 ⟨rfl, hb5⟩
  have HC5 := hide (chg_b HC4.out hb5)
  clear hb5
  have hin : ∀ n : Int, 1 ≤ n ∧ n ≤ xs.length → (1 ≤ n ∧ n ≤ ((gcs xs).length : Int)) := fun n h => by rw [hgl]; exact h
  have hAA : isN (gcs xs) A A = true := (isN_iff HD.out).2 ⟨hin A hAr, .refl _⟩
  obtain ⟨x, hx⟩ : ∃ x, x = isN (gcs xs) A B := ⟨_, rfl⟩
  obtain ⟨y, hy⟩ : ∃ y, y = isN (gcs xs) B C := ⟨_, rfl⟩
  obtain ⟨z, hz⟩ : ∃ z, z = isN (gcs xs) A C := ⟨_, rfl⟩
  rw [← hx, ← hy, ← hz]
  have HX : Hid (isN (gcs xs) A B = x) := hide hx.symm
  have hxy : x = true → y = true → z = true := fun h1 h2 => by
    rw [hz]
    exact (isN_iff HD.out).2 ⟨hin C hCr, ((isN_iff HD.out).1 (hx.symm.trans h1)).2.trans ((isN_iff HD.out).1 (hy.symm.trans h2)).2⟩
  have HXR : Hid (x = true → Reach (gcs xs) A B) := hide (fun h1 => ((isN_iff HD.out).1 (hx.symm.trans h1)).2)
  have hAA' := hAA
  clear hx hy hz hAA
  have HIN := hide hin
  clear hin
  have HAA := hide (dag_IsN w5 HD.out (HG.out w5 HC5.out) A A HAI.out)
  rw [hAA'] at HAA
  go_upto_region 8 with (fail)
  go_cut [102] from 60 (fun s102 wc => s102 = .bool false ∧ Hid (Chg (fun _ => False) w2 wc))
  case first =>
    cases x with
    | false =>
      clear hxy
      go_wp2_with fail
      refine HAA.out.mono ?_
      rintro e w6 ⟨rfl, hb6⟩
      have HC6 := hide (chg_b HC5.out hb6)
      clear hb6
      go_wp2_with fail
      go_meet
      exact ⟨rfl, HC6.out⟩
    | true =>
      have hr := HXR.out rfl
      have hab := hr.le HD.out
      cases y with
      | false =>
        clear hxy
        by_cases hne : A = B
        · have d3 : (A != B) = false := by simp [hne]
          clear hr hne
          go_wp2_with fail
          refine HAA.out.mono ?_
          rintro e w6 ⟨rfl, hb6⟩
          have HC6 := hide (chg_b HC5.out hb6)
          clear hb6
          go_wp2_with fail
          go_meet
          exact ⟨rfl, HC6.out⟩
        · have d3 : (A != B) = true := by simp [hne]
          have hBA : isN (gcs xs) B A = false := by
            rw [← Bool.not_eq_true, isN_iff HD.out]
            rintro ⟨-, h⟩
            have := h.le HD.out
            omega
          have hdep : depthN (gcs xs) A < depthN (gcs xs) B := (hr.depth HD.out).resolve_left hne
          have d5 : decide (depthN (gcs xs) A ≥ depthN (gcs xs) B) = false := decide_eq_false (by omega)
          clear hdep
          have d6 : decide (A ≥ B) = false := decide_eq_false (by omega)
          have HIS := hide (fun Wx (h : Chg (fun _ => False) w2 Wx) => dag_IsN Wx HD.out (HG.out Wx h) B A HAI.out)
          rw [hBA] at HIS
          clear hr hBA hne
          obtain ⟨dA, hdA⟩ : ∃ d, d = depthN (gcs xs) A := ⟨_, rfl⟩
          obtain ⟨dB, hdB⟩ : ∃ d, d = depthN (gcs xs) B := ⟨_, rfl⟩
          rw [← hdA, ← hdB] at d5
          have HDA := hide hdA.symm
          have HDB := hide hdB.symm
          clear hdA hdB
          go_wp2_with fail
          refine HAA.out.mono ?_
          rintro e w6 ⟨rfl, hb6⟩
          have HC6 := hide (chg_b HC5.out hb6)
          clear hb6
          go_wp2_with fail
          refine (HIS.out w6 HC6.out).mono ?_
          rintro e w7 ⟨rfl, hb7⟩
          have HC7 := hide (chg_b HC6.out hb7)
          clear hb7
          go_wp2_with fail
          refine (dag_Depth w7 HD.out (HG.out w7 HC7.out) A HAI.out).mono ?_
          rintro e w8 ⟨rfl, hb8⟩
          rw [HDA.out]
          have HC8 := hide (chg_b HC7.out hb8)
          clear hb8
          go_wp2_with fail
          refine (dag_Depth w8 HD.out (HG.out w8 HC8.out) B HBI.out).mono ?_
          rintro e w9 ⟨rfl, hb9⟩
          rw [HDB.out]
          have HC9 := hide (chg_b HC8.out hb9)
          clear hb9
          go_wp2_with fail
          go_meet
          exact ⟨rfl, HC9.out⟩
      | true =>
        obtain rfl : z = true := hxy rfl rfl
        clear hxy
        by_cases hne : A = B
        · have d3 : (A != B) = false := by simp [hne]
          clear hr hne
          go_wp2_with fail
          refine HAA.out.mono ?_
          rintro e w6 ⟨rfl, hb6⟩
          have HC6 := hide (chg_b HC5.out hb6)
          clear hb6
          go_wp2_with fail
          go_meet
          exact ⟨rfl, HC6.out⟩
        · have d3 : (A != B) = true := by simp [hne]
          have hBA : isN (gcs xs) B A = false := by
            rw [← Bool.not_eq_true, isN_iff HD.out]
            rintro ⟨-, h⟩
            have := h.le HD.out
            omega
          have hdep : depthN (gcs xs) A < depthN (gcs xs) B := (hr.depth HD.out).resolve_left hne
          have d5 : decide (depthN (gcs xs) A ≥ depthN (gcs xs) B) = false := decide_eq_false (by omega)
          clear hdep
          have d6 : decide (A ≥ B) = false := decide_eq_false (by omega)
          have HIS := hide (fun Wx (h : Chg (fun _ => False) w2 Wx) => dag_IsN Wx HD.out (HG.out Wx h) B A HAI.out)
          rw [hBA] at HIS
          clear hr hBA hne
          obtain ⟨dA, hdA⟩ : ∃ d, d = depthN (gcs xs) A := ⟨_, rfl⟩
          obtain ⟨dB, hdB⟩ : ∃ d, d = depthN (gcs xs) B := ⟨_, rfl⟩
          rw [← hdA, ← hdB] at d5
          have HDA := hide hdA.symm
          have HDB := hide hdB.symm
          clear hdA hdB
          go_wp2_with fail
          refine HAA.out.mono ?_
          rintro e w6 ⟨rfl, hb6⟩
          have HC6 := hide (chg_b HC5.out hb6)
          clear hb6
          go_wp2_with fail
          refine (HIS.out w6 HC6.out).mono ?_
          rintro e w7 ⟨rfl, hb7⟩
          have HC7 := hide (chg_b HC6.out hb7)
          clear hb7
          go_wp2_with fail
          refine (dag_Depth w7 HD.out (HG.out w7 HC7.out) A HAI.out).mono ?_
          rintro e w8 ⟨rfl, hb8⟩
          rw [HDA.out]
          have HC8 := hide (chg_b HC7.out hb8)
          clear hb8
          go_wp2_with fail
          refine (dag_Depth w8 HD.out (HG.out w8 HC8.out) B HBI.out).mono ?_
          rintro e w9 ⟨rfl, hb9⟩
          rw [HDB.out]
          have HC9 := hide (chg_b HC8.out hb9)
          clear hb9
          go_wp2_with fail
          go_meet
          exact ⟨rfl, HC9.out⟩
  case rest =>
    obtain ⟨rfl, HC9⟩ := hcut
    clear hxy HC3 HC4 HC5 HAA
    obtain ⟨w9, hw9⟩ : ∃ w9 : World, w9 = wc := ⟨_, rfl⟩
    rw [← hw9] at HC9 ⊢
    clear hw9
    have HALL := hide (dag_Ahead w9 (HG.out w9 HC9.out) B HBI.out HD.out)
    go_wp2_with fail
    refine HALL.out.mono ?_
    rintro e w10 ⟨gv, rfl, ht10, hb10⟩
    have HIN := hide (ints_told w10 _ gv ht10 (by have := aheadN_length (gcs xs) B; omega) 99 (by have := aheadN_length (gcs xs) B; omega))
    have HC10 := hide (chg_b HC9.out hb10)
    clear ht10 hb10 HALL
    obtain ⟨zs, hzs⟩ : ∃ zs, zs = aheadN (gcs xs) B := ⟨_, rfl⟩
    rw [← hzs] at HIN
    have HZ := hide hzs
    have hzl : zs.length ≤ 30 := by have := aheadN_length (gcs xs) B; rw [hzs]; omega
    clear hzs
    go_wp2_with fail
    refine HIN.out.mono ?_
    rintro e w11 ⟨ao11, cap11, rfl, ho11, hb11⟩
    have HO11 := hide (Rd.of_owns ho11)
    have HC11 := hide (chg_b HC10.out hb11)
    clear ho11 hb11 HIN
    go_wp2_with fail
    go_loopw [15, 16] (fun v i wr => ∃ k : Nat, k ≤ zs.length ∧ i = .int .i64 k ∧ v = .bool ((zs.take k).contains A) ∧ Hid (Chg (fun _ => False) w11 wr)) (fun _ i _ => zs.length - (intOf i).toNat)
    case atStart => exact ⟨0, Nat.zero_le _, rfl, rfl, Chg.refl _ _⟩
    case round =>
      obtain ⟨k, hk, rfl, rfl, HCL⟩ := hrel
      obtain ⟨wo, rfl⟩ : ∃ wo : World, wo = wr := ⟨_, rfl⟩
      by_cases hkl : k < zs.length
      · obtain ⟨a', c', e, -, hcs0⟩ := (HO11.out.chg HCL.out (fun _ _ _ h => h)).shape
        obtain ⟨b0, off, rfl, hcs⟩ := hcs0 (by omega)
        cases e
        have hz0 : wo.cell? ⟨b0, off + k, none⟩ = some (.int .i64 zs[k]) := hcs k (.int .i64 zs[k]) (by rw [List.getElem?_map, List.getElem?_eq_getElem hkl]; rfl)
        have hmem : zs[k] ∈ aheadN (gcs xs) B := by rw [← HZ.out]; exact List.getElem_mem hkl
        have HIS := hide (fun Wx (h : Chg (fun _ => False) wo Wx) => dag_IsN Wx HD.out (HG.out Wx (chg_c HC11.out (chg_c HCL.out h))) zs[k] B HBI.out)
        rw [show isN (gcs xs) zs[k] B = true from List.contains_iff_mem.2 hmem] at HIS
        have htk : (zs.take (k + 1)).contains A = ((zs.take k).contains A || (zs[k] == A)) := by
          rw [take_succ_get zs k hkl, List.contains_append]
          simp only [List.contains_cons, List.contains_nil, Bool.or_false]
          rw [Bool.beq_comm]
        have hwk : IntKind.i64.wrap (k : Int) = k := IntWalk.i64_in _ (by omega)
        have hki : (k : Int) < (zs.length : Int) := by omega
        have hprev : ∀ j, k = j + 1 → ∃ z, wo.cell? ⟨b0, off + j, none⟩ = some (.int .i64 z) ∧ zs[k] < z := by
          intro j hj
          have hjl : j < zs.length := by omega
          refine ⟨zs[j], hcs j (.int .i64 zs[j]) (by rw [List.getElem?_map, List.getElem?_eq_getElem hjl]; rfl), ?_⟩
          have hf : Falls zs := by rw [HZ.out]; exact ahead_falls _ _
          exact List.pairwise_iff_getElem.1 hf j k hjl hkl (by omega)
        generalize zs[k] = z at *
        have HTK := hide htk
        clear hcs hcs0 hmem htk
        generalize hb : (zs.take k).contains A = bb at *
        have HBN : Hid ((zs.take (k + 1)).contains A = (bb || (z == A))) := HTK
        clear HTK hb
        go_upto_region 15 with (fail)
        go_cut [15] from 107 to 145 (fun s15 wc => s15 = .bool (bb || (z == A)) ∧ wc = wo)
        case first =>
          cases bb <;> cases hzA : (z == A)
          all_goals
            go_wp2_with fail
            go_meet
            exact ⟨by rw [hzA]; rfl, rfl⟩
        case rest =>
          obtain ⟨rfl, hwc⟩ := hcut
          rw [hwc]
          clear hwc
          generalize (bb || (z == A)) = b2 at *
          rcases Nat.eq_zero_or_pos k with hk0 | hk0
          · subst hk0
            rw [Nat.add_zero] at hz0
            have d3 : decide (((0 : Nat) : Int) > 0) = false := rfl
            clear hprev
            go_wp2_with fail
            refine reg_start (Chg (fun _ => False) wo) 24 24 (by rfl) (by kernel_rfl) (Chg.drew _ _) ?_
            intro hS0
            have hSc := hS0
            refine reg_take (i := 0) (v := ?g2v) rfl (by kernel_rfl) (by kernel_rfl) (by kernel_rfl) (by kernel_rfl) (fun _ _ _ h => h) (by rfl) ?g2y (by assumption) ?g2r
            case g2y => (intro W hS; first | (go_simp; done) | (go_simp; with_reducible rfl))
            simp only [Act.put, List.setIfInBounds_toArray, List.set_cons_zero, List.set_cons_succ]
            refine reg_take (i := 1) (v := ?g3v) rfl (by kernel_rfl) (by kernel_rfl) (by kernel_rfl) (by kernel_rfl) (fun _ _ _ h => h) (by rfl) ?g3y (by assumption) ?g3r
            case g3y => (intro W hS; first | (go_simp; done) | (go_simp; with_reducible rfl))
            simp only [Act.put, List.setIfInBounds_toArray, List.set_cons_zero, List.set_cons_succ]
            refine reg_take (i := 2) (v := ?g4v) rfl (by kernel_rfl) (by kernel_rfl) (by kernel_rfl) (by kernel_rfl) (fun _ _ _ h => h) (by rfl) ?g4y (by assumption) ?g4r
            case g4y => (intro W hS; first | (go_simp; done) | (go_simp; with_reducible rfl))
            simp only [Act.put, List.setIfInBounds_toArray, List.set_cons_zero, List.set_cons_succ]
            refine reg_take (i := 3) (v := ?g5v) rfl (by kernel_rfl) (by kernel_rfl) (by kernel_rfl) (by kernel_rfl) (fun _ _ _ h => h) (by rfl) ?g5y (by assumption) ?g5r
            case g5y => (intro W hS; first | (go_simp; done) | (go_simp; with_reducible rfl))
            simp only [Act.put, List.setIfInBounds_toArray, List.set_cons_zero, List.set_cons_succ]
            refine reg_take (i := 4) (v := ?g6v) rfl (by kernel_rfl) (by kernel_rfl) (by kernel_rfl) (by kernel_rfl) (fun _ _ _ h => h) (by rfl) ?g6y (by assumption) ?g6r
            case g6y => (intro W hS; have f0 := hS.cell hz0 (fun h => h); first | (go_simp; done) | (go_simp; with_reducible rfl))
            simp only [Act.put, List.setIfInBounds_toArray, List.set_cons_zero, List.set_cons_succ]
            refine reg_take (i := 5) (v := ?g7v) rfl (by kernel_rfl) (by kernel_rfl) (by kernel_rfl) (by kernel_rfl) (fun _ _ _ h => h) (by rfl) ?g7y (by assumption) ?g7r
            case g7y => (intro W hS; first | (go_simp; done) | (go_simp; with_reducible rfl))
            simp only [Act.put, List.setIfInBounds_toArray, List.set_cons_zero, List.set_cons_succ]
            refine reg_one (i := 6) (by kernel_rfl) ?_
            refine op_call (i := 6) (#[.pointer (some ⟨p, 0, none⟩), .int .i64 z, .int .i64 B]) rfl (by rfl) (enters_of Tryd.func42 (by kernel_rfl) rfl) (by first | (simp [Act.eval]; done) | rfl | (simp only [List.map_toArray, List.map_cons, List.map_nil, Act.eval]; rfl) | (simp [Act.eval]; trace_state; done)) ?_
            refine (HIS.out _ hSc).mono ?_
            rintro e W3 ⟨rfl, hb3⟩
            have hSc := chg_b hSc hb3
            clear hb3
            refine ⟨_, rfl, hSc, ?_⟩
            simp only [Act.put, List.setIfInBounds_toArray, List.set_cons_zero, List.set_cons_succ]
            refine reg_take (i := 7) (v := ?g8v) rfl (by kernel_rfl) (by kernel_rfl) (by kernel_rfl) (by kernel_rfl) (fun _ _ _ h => h) (by rfl) ?g8y (by assumption) ?g8r
            case g8y => (intro W hS; first | (go_simp; done) | (go_simp; with_reducible rfl))
            simp only [Act.put, List.setIfInBounds_toArray, List.set_cons_zero, List.set_cons_succ]
            refine reg_take (i := 8) (v := ?g9v) rfl (by kernel_rfl) (by kernel_rfl) (by kernel_rfl) (by kernel_rfl) (fun _ _ _ h => h) (by rfl) ?g9y (by assumption) ?g9r
            case g9y => (intro W hS; first | (go_simp; done) | (go_simp; with_reducible rfl))
            simp only [Act.put, List.setIfInBounds_toArray, List.set_cons_zero, List.set_cons_succ]
            refine reg_take (i := 9) (v := ?g10v) rfl (by kernel_rfl) (by kernel_rfl) (by kernel_rfl) (by kernel_rfl) (fun _ _ _ h => h) (by rfl) ?g10y (by assumption) ?g10r
            case g10y => (intro W hS; first | (go_simp; done) | (go_simp; with_reducible rfl))
            simp only [Act.put, List.setIfInBounds_toArray, List.set_cons_zero, List.set_cons_succ]
            refine reg_take (i := 10) (v := ?g11v) rfl (by kernel_rfl) (by kernel_rfl) (by kernel_rfl) (by kernel_rfl) (fun _ _ _ h => h) (by rfl) ?g11y (by assumption) ?g11r
            case g11y => (intro W hS; first | (go_simp; done) | (go_simp; with_reducible rfl))
            simp only [Act.put, List.setIfInBounds_toArray, List.set_cons_zero, List.set_cons_succ]
            refine reg_take (i := 11) (v := ?g12v) rfl (by kernel_rfl) (by kernel_rfl) (by kernel_rfl) (by kernel_rfl) (fun _ _ _ h => h) (by rfl) ?g12y (by assumption) ?g12r
            case g12y => (intro W hS; first | (go_simp; done) | (go_simp; with_reducible rfl))
            simp only [Act.put, List.setIfInBounds_toArray, List.set_cons_zero, List.set_cons_succ]
            refine reg_skip (i := 12) rfl (by kernel_rfl) (by kernel_rfl) (by kernel_rfl) (by kernel_rfl) (fun _ _ _ h => h) (by rfl) (by assumption) ?_
            simp only [Act.put, List.setIfInBounds_toArray, List.set_cons_zero, List.set_cons_succ]
            refine reg_skip (i := 13) rfl (by kernel_rfl) (by kernel_rfl) (by kernel_rfl) (by kernel_rfl) (fun _ _ _ h => h) (by rfl) (by assumption) ?_
            simp only [Act.put, List.setIfInBounds_toArray, List.set_cons_zero, List.set_cons_succ]
            refine reg_skip (i := 14) rfl (by kernel_rfl) (by kernel_rfl) (by kernel_rfl) (by kernel_rfl) (fun _ _ _ h => h) (by rfl) (by assumption) ?_
            simp only [Act.put, List.setIfInBounds_toArray, List.set_cons_zero, List.set_cons_succ]
            refine reg_skip (i := 15) rfl (by kernel_rfl) (by kernel_rfl) (by kernel_rfl) (by kernel_rfl) (fun _ _ _ h => h) (by rfl) (by assumption) ?_
            simp only [Act.put, List.setIfInBounds_toArray, List.set_cons_zero, List.set_cons_succ]
            refine reg_skip (i := 16) rfl (by kernel_rfl) (by kernel_rfl) (by kernel_rfl) (by kernel_rfl) (fun _ _ _ h => h) (by rfl) (by assumption) ?_
            simp only [Act.put, List.setIfInBounds_toArray, List.set_cons_zero, List.set_cons_succ]
            refine reg_skip (i := 17) rfl (by kernel_rfl) (by kernel_rfl) (by kernel_rfl) (by kernel_rfl) (fun _ _ _ h => h) (by rfl) (by assumption) ?_
            simp only [Act.put, List.setIfInBounds_toArray, List.set_cons_zero, List.set_cons_succ]
            refine reg_skip (i := 18) rfl (by kernel_rfl) (by kernel_rfl) (by kernel_rfl) (by kernel_rfl) (fun _ _ _ h => h) (by rfl) (by assumption) ?_
            simp only [Act.put, List.setIfInBounds_toArray, List.set_cons_zero, List.set_cons_succ]
            refine reg_skip (i := 19) rfl (by kernel_rfl) (by kernel_rfl) (by kernel_rfl) (by kernel_rfl) (fun _ _ _ h => h) (by rfl) (by assumption) ?_
            simp only [Act.put, List.setIfInBounds_toArray, List.set_cons_zero, List.set_cons_succ]
            refine reg_skip (i := 20) rfl (by kernel_rfl) (by kernel_rfl) (by kernel_rfl) (by kernel_rfl) (fun _ _ _ h => h) (by rfl) (by assumption) ?_
            simp only [Act.put, List.setIfInBounds_toArray, List.set_cons_zero, List.set_cons_succ]
            refine reg_skip (i := 21) rfl (by kernel_rfl) (by kernel_rfl) (by kernel_rfl) (by kernel_rfl) (fun _ _ _ h => h) (by rfl) (by assumption) ?_
            simp only [Act.put, List.setIfInBounds_toArray, List.set_cons_zero, List.set_cons_succ]
            refine reg_take (i := 22) (v := ?g13v) rfl (by kernel_rfl) (by kernel_rfl) (by kernel_rfl) (by kernel_rfl) (fun _ _ _ h => h) (by rfl) ?g13y (by assumption) ?g13r
            case g13y => (intro W hS; first | (go_simp; done) | (go_simp; with_reducible rfl))
            simp only [Act.put, List.setIfInBounds_toArray, List.set_cons_zero, List.set_cons_succ]
            refine reg_take (i := 23) (v := ?g14v) rfl (by kernel_rfl) (by kernel_rfl) (by kernel_rfl) (by kernel_rfl) (fun _ _ _ h => h) (by rfl) ?g14y (by assumption) ?g14r
            case g14y => (intro W hS; first | (go_simp; done) | (go_simp; with_reducible rfl))
            simp only [Act.put, List.setIfInBounds_toArray, List.set_cons_zero, List.set_cons_succ]
            refine wpAnyG_done (by kernel_rfl) ?_ _
            have HS3 := hide hSc
            clear hS0 hSc hz0
            go_wp2_with fail
            go_roundw
            case rel => exact ⟨0 + 1, by omega, by go_num, by rw [HBN.out], chg_c HCL.out HS3.out⟩
            case measure => simp [intOf]; omega
          · obtain ⟨j, rfl⟩ : ∃ j, k = j + 1 := ⟨k - 1, by omega⟩
            obtain ⟨zp, hzp, hlt⟩ := hprev j rfl
            have d3 : decide (((j + 1 : Nat) : Int) > 0) = true := decide_eq_true (by omega)
            have d4 : decide (zp ≤ z) = false := decide_eq_false (by omega)
            have hj3 : ((j + 1 : Nat) : Int) - 1 = (j : Int) := by omega
            have hwj : IntKind.i64.wrap (j : Int) = j := IntWalk.i64_in _ (by omega)
            have hji : (j : Int) < (zs.length : Int) := by omega
            have hj0 : (0 : Int) ≤ (j : Int) + 1 := by omega
            have hj1 : (j : Int) + 1 < (zs.length : Int) := by omega
            clear hprev hlt
            go_wp2_with fail
            refine reg_start (Chg (fun _ => False) wo) 24 24 (by rfl) (by kernel_rfl) (Chg.drew _ _) ?_
            intro hS0
            have hSc := hS0
            refine reg_take (i := 0) (v := ?g16v) rfl (by kernel_rfl) (by kernel_rfl) (by kernel_rfl) (by kernel_rfl) (fun _ _ _ h => h) (by rfl) ?g16y (by assumption) ?g16r
            case g16y => (intro W hS; first | (go_simp; done) | (go_simp; with_reducible rfl))
            simp only [Act.put, List.setIfInBounds_toArray, List.set_cons_zero, List.set_cons_succ]
            refine reg_take (i := 1) (v := ?g17v) rfl (by kernel_rfl) (by kernel_rfl) (by kernel_rfl) (by kernel_rfl) (fun _ _ _ h => h) (by rfl) ?g17y (by assumption) ?g17r
            case g17y => (intro W hS; first | (go_simp; done) | (go_simp; with_reducible rfl))
            simp only [Act.put, List.setIfInBounds_toArray, List.set_cons_zero, List.set_cons_succ]
            refine reg_take (i := 2) (v := ?g18v) rfl (by kernel_rfl) (by kernel_rfl) (by kernel_rfl) (by kernel_rfl) (fun _ _ _ h => h) (by rfl) ?g18y (by assumption) ?g18r
            case g18y => (intro W hS; first | (go_simp; done) | (go_simp; with_reducible rfl))
            simp only [Act.put, List.setIfInBounds_toArray, List.set_cons_zero, List.set_cons_succ]
            refine reg_take (i := 3) (v := ?g19v) rfl (by kernel_rfl) (by kernel_rfl) (by kernel_rfl) (by kernel_rfl) (fun _ _ _ h => h) (by rfl) ?g19y (by assumption) ?g19r
            case g19y => (intro W hS; first | (go_simp; done) | (go_simp; with_reducible rfl))
            simp only [Act.put, List.setIfInBounds_toArray, List.set_cons_zero, List.set_cons_succ]
            refine reg_take (i := 4) (v := ?g20v) rfl (by kernel_rfl) (by kernel_rfl) (by kernel_rfl) (by kernel_rfl) (fun _ _ _ h => h) (by rfl) ?g20y (by assumption) ?g20r
            case g20y => (intro W hS; have f0 := hS.cell hz0 (fun h => h); have f1 := hS.cell hzp (fun h => h); first | (go_simp; done) | (go_simp; with_reducible rfl))
            simp only [Act.put, List.setIfInBounds_toArray, List.set_cons_zero, List.set_cons_succ]
            refine reg_take (i := 5) (v := ?g21v) rfl (by kernel_rfl) (by kernel_rfl) (by kernel_rfl) (by kernel_rfl) (fun _ _ _ h => h) (by rfl) ?g21y (by assumption) ?g21r
            case g21y => (intro W hS; first | (go_simp; done) | (go_simp; with_reducible rfl))
            simp only [Act.put, List.setIfInBounds_toArray, List.set_cons_zero, List.set_cons_succ]
            refine reg_one (i := 6) (by kernel_rfl) ?_
            refine op_call (i := 6) (#[.pointer (some ⟨p, 0, none⟩), .int .i64 z, .int .i64 B]) rfl (by rfl) (enters_of Tryd.func42 (by kernel_rfl) rfl) (by first | (simp [Act.eval]; done) | rfl | (simp only [List.map_toArray, List.map_cons, List.map_nil, Act.eval]; rfl) | (simp [Act.eval]; trace_state; done)) ?_
            refine (HIS.out _ hSc).mono ?_
            rintro e W3 ⟨rfl, hb3⟩
            have hSc := chg_b hSc hb3
            clear hb3
            refine ⟨_, rfl, hSc, ?_⟩
            simp only [Act.put, List.setIfInBounds_toArray, List.set_cons_zero, List.set_cons_succ]
            refine reg_take (i := 7) (v := ?g22v) rfl (by kernel_rfl) (by kernel_rfl) (by kernel_rfl) (by kernel_rfl) (fun _ _ _ h => h) (by rfl) ?g22y (by assumption) ?g22r
            case g22y => (intro W hS; first | (go_simp; done) | (go_simp; with_reducible rfl))
            simp only [Act.put, List.setIfInBounds_toArray, List.set_cons_zero, List.set_cons_succ]
            refine reg_take (i := 8) (v := ?g23v) rfl (by kernel_rfl) (by kernel_rfl) (by kernel_rfl) (by kernel_rfl) (fun _ _ _ h => h) (by rfl) ?g23y (by assumption) ?g23r
            case g23y => (intro W hS; first | (go_simp; done) | (go_simp; with_reducible rfl))
            simp only [Act.put, List.setIfInBounds_toArray, List.set_cons_zero, List.set_cons_succ]
            refine reg_take (i := 9) (v := ?g24v) rfl (by kernel_rfl) (by kernel_rfl) (by kernel_rfl) (by kernel_rfl) (fun _ _ _ h => h) (by rfl) ?g24y (by assumption) ?g24r
            case g24y => (intro W hS; first | (go_simp; done) | (go_simp; with_reducible rfl))
            simp only [Act.put, List.setIfInBounds_toArray, List.set_cons_zero, List.set_cons_succ]
            refine reg_take (i := 10) (v := ?g25v) rfl (by kernel_rfl) (by kernel_rfl) (by kernel_rfl) (by kernel_rfl) (fun _ _ _ h => h) (by rfl) ?g25y (by assumption) ?g25r
            case g25y => (intro W hS; first | (go_simp; done) | (go_simp; with_reducible rfl))
            simp only [Act.put, List.setIfInBounds_toArray, List.set_cons_zero, List.set_cons_succ]
            refine reg_take (i := 11) (v := ?g26v) rfl (by kernel_rfl) (by kernel_rfl) (by kernel_rfl) (by kernel_rfl) (fun _ _ _ h => h) (by rfl) ?g26y (by assumption) ?g26r
            case g26y => (intro W hS; first | (go_simp; done) | (go_simp; with_reducible rfl))
            simp only [Act.put, List.setIfInBounds_toArray, List.set_cons_zero, List.set_cons_succ]
            refine reg_take (i := 12) (v := ?g27v) rfl (by kernel_rfl) (by kernel_rfl) (by kernel_rfl) (by kernel_rfl) (fun _ _ _ h => h) (by rfl) ?g27y (by assumption) ?g27r
            case g27y => (intro W hS; first | (go_simp; done) | (go_simp; with_reducible rfl))
            simp only [Act.put, List.setIfInBounds_toArray, List.set_cons_zero, List.set_cons_succ]
            refine reg_take (i := 13) (v := ?g28v) rfl (by kernel_rfl) (by kernel_rfl) (by kernel_rfl) (by kernel_rfl) (fun _ _ _ h => h) (by rfl) ?g28y (by assumption) ?g28r
            case g28y => (intro W hS; first | (go_simp; done) | (go_simp; with_reducible rfl))
            simp only [Act.put, List.setIfInBounds_toArray, List.set_cons_zero, List.set_cons_succ]
            refine reg_take (i := 14) (v := ?g29v) rfl (by kernel_rfl) (by kernel_rfl) (by kernel_rfl) (by kernel_rfl) (fun _ _ _ h => h) (by rfl) ?g29y (by assumption) ?g29r
            case g29y => (intro W hS; first | (go_simp; done) | (go_simp; with_reducible rfl))
            simp only [Act.put, List.setIfInBounds_toArray, List.set_cons_zero, List.set_cons_succ]
            refine reg_take (i := 15) (v := ?g30v) rfl (by kernel_rfl) (by kernel_rfl) (by kernel_rfl) (by kernel_rfl) (fun _ _ _ h => h) (by rfl) ?g30y (by assumption) ?g30r
            case g30y => (intro W hS; first | (go_simp; done) | (go_simp; with_reducible rfl))
            simp only [Act.put, List.setIfInBounds_toArray, List.set_cons_zero, List.set_cons_succ]
            refine reg_take (i := 16) (v := ?g31v) rfl (by kernel_rfl) (by kernel_rfl) (by kernel_rfl) (by kernel_rfl) (fun _ _ _ h => h) (by rfl) ?g31y (by assumption) ?g31r
            case g31y => (intro W hS; have f0 := hS.cell hz0 (fun h => h); have f1 := hS.cell hzp (fun h => h); first | (go_simp; done) | (go_simp; with_reducible rfl))
            simp only [Act.put, List.setIfInBounds_toArray, List.set_cons_zero, List.set_cons_succ]
            refine reg_take (i := 17) (v := ?g32v) rfl (by kernel_rfl) (by kernel_rfl) (by kernel_rfl) (by kernel_rfl) (fun _ _ _ h => h) (by rfl) ?g32y (by assumption) ?g32r
            case g32y => (intro W hS; first | (go_simp; done) | (go_simp; with_reducible rfl))
            simp only [Act.put, List.setIfInBounds_toArray, List.set_cons_zero, List.set_cons_succ]
            refine reg_take (i := 18) (v := ?g33v) rfl (by kernel_rfl) (by kernel_rfl) (by kernel_rfl) (by kernel_rfl) (fun _ _ _ h => h) (by rfl) ?g33y (by assumption) ?g33r
            case g33y => (intro W hS; first | (go_simp; done) | (go_simp; with_reducible rfl))
            simp only [Act.put, List.setIfInBounds_toArray, List.set_cons_zero, List.set_cons_succ]
            refine reg_take (i := 19) (v := ?g34v) rfl (by kernel_rfl) (by kernel_rfl) (by kernel_rfl) (by kernel_rfl) (fun _ _ _ h => h) (by rfl) ?g34y (by assumption) ?g34r
            case g34y => (intro W hS; first | (go_simp; done) | (go_simp; with_reducible rfl))
            simp only [Act.put, List.setIfInBounds_toArray, List.set_cons_zero, List.set_cons_succ]
            refine reg_take (i := 20) (v := ?g35v) rfl (by kernel_rfl) (by kernel_rfl) (by kernel_rfl) (by kernel_rfl) (fun _ _ _ h => h) (by rfl) ?g35y (by assumption) ?g35r
            case g35y => (intro W hS; have f0 := hS.cell hz0 (fun h => h); have f1 := hS.cell hzp (fun h => h); first | (go_simp; done) | (go_simp; with_reducible rfl))
            simp only [Act.put, List.setIfInBounds_toArray, List.set_cons_zero, List.set_cons_succ]
            refine reg_take (i := 21) (v := ?g36v) rfl (by kernel_rfl) (by kernel_rfl) (by kernel_rfl) (by kernel_rfl) (fun _ _ _ h => h) (by rfl) ?g36y (by assumption) ?g36r
            case g36y => (intro W hS; first | (go_simp; done) | (go_simp; with_reducible rfl))
            simp only [Act.put, List.setIfInBounds_toArray, List.set_cons_zero, List.set_cons_succ]
            refine reg_take (i := 22) (v := ?g37v) rfl (by kernel_rfl) (by kernel_rfl) (by kernel_rfl) (by kernel_rfl) (fun _ _ _ h => h) (by rfl) ?g37y (by assumption) ?g37r
            case g37y => (intro W hS; first | (go_simp; done) | (go_simp; with_reducible rfl))
            simp only [Act.put, List.setIfInBounds_toArray, List.set_cons_zero, List.set_cons_succ]
            refine reg_take (i := 23) (v := ?g38v) rfl (by kernel_rfl) (by kernel_rfl) (by kernel_rfl) (by kernel_rfl) (fun _ _ _ h => h) (by rfl) ?g38y (by assumption) ?g38r
            case g38y => (intro W hS; first | (go_simp; done) | (go_simp; with_reducible rfl))
            simp only [Act.put, List.setIfInBounds_toArray, List.set_cons_zero, List.set_cons_succ]
            refine wpAnyG_done (by kernel_rfl) ?_ _
            have HS3 := hide hSc
            clear hS0 hSc hz0 hzp
            go_wp2_with fail
            go_roundw
            case rel => exact ⟨j + 1 + 1, by omega, by go_num, by rw [HBN.out], chg_c HCL.out HS3.out⟩
            case measure => simp [intOf]; omega
      · obtain rfl : k = zs.length := by omega
        have hct : (zs.take zs.length).contains A = isN (gcs xs) A B := by rw [List.take_length, HZ.out]; rfl
        rw [hct]
        rw [HX.out]
        have HB11 := hide (HB2.out.trans ((chg_c HC11.out HCL.out).below HB2.out.size (fun _ _ h => h)))
        clear hct
        go_wp2_with fail
        refine (awake11 wo (HM.out.below HB11.out HM.out.pos)).mono ?_
        rintro e w17 ⟨rfl, hb17⟩
        have HB17 := hide (HB11.out.trans (hb17.mono HB11.out.size))
        clear hb17
        go_wp2_with fail
        go_ret
        exact ⟨rfl, HB17.out⟩
set_option maxRecDepth 100000 in
theorem DagOrder_lifted (os : Os) (started : os.Started) (H : Type) (enc : TypeId × Value → H) :
    ReturnsInHanded {} Tryd.checked os 8 .any (fun w args => (Rows.dagOrderSpec.pre enc Tryd.prog Tryd.f8 Rows.dagOrderRow.domain false w args ∧ laidMetH Tryd.prog cardLaid w) ∧ sizedMet enc Tryd.prog Tryd.f8 (OpenSpec.ofChange Rows.dagOrderSpec) false w args) (Rows.dagOrderSpec.post enc Tryd.prog Tryd.f8 false true false false) := by
  refine card_wrap (C := Tryd.checked) (X := fun w => laidMetH Tryd.prog cardLaid w) law_own started (by kernel_rfl) Tryd.func8
    (ChangeSpec.witness_at (enc := enc) (C := Tryd.checked) (os := os) (X := fun w _ => laidMetH Tryd.prog cardLaid w) false (laidWorld os) #[.slice none 0 0, .int .i64 0, .int .i64 0, .int .i64 0] 8 rfl (by kernel_rfl) (by kernel_rfl) (by kernel_rfl) (by kernel_rfl) (by kernel_rfl) (laidWorld_met os _)) ?_
  intro W base args ds gs before hval0 hW hsh
  have hM := mx_of_shaped hsh
  have hval : ∀ (j : Nat) t v, Tryd.f8.params[j]? = some t → args[j]? = some v → Value.okWide Tryd.prog W .any base t v := hval0
  have hW' := hW
  obtain ⟨p, q, hA0, hV, rfl, hfz, hnd⟩ := hW
  have hA : DataW.TrodAll enc Tryd.prog W 0 (fun _ => true) true Tryd.f8.params.toList args.toList ds p := hA0
  rw [Tryd.params8] at hA hval
  obtain ⟨v0, vs0, d0, ds0, p0, q0, hargs, rfl, rfl, h0, r0⟩ := trodAll_cons hA
  obtain ⟨v1, vs1, d1, ds1, p1, q1, rfl, rfl, rfl, h1, r1⟩ := trodAll_cons r0
  obtain ⟨v2, vs2, d2, ds2, p2, q2, rfl, rfl, rfl, h2, r2⟩ := trodAll_cons r1
  obtain ⟨v3, vs3, d3, ds3, p3, q3, rfl, rfl, rfl, h3, r3⟩ := trodAll_cons r2
  obtain ⟨rfl, rfl, rfl⟩ := trodAll_nil r3
  obtain rfl : args = #[v0, v1, v2, v3] := by cases args; simp_all
  obtain ⟨rfl, rfl⟩ := trodVars_none hV
  have k0 := h0
  have lt0 : ∀ x ∈ p0, x.block < W.heap.size := by obtain ⟨m, hm⟩ := k0; exact DataW.trod_lt m _ _ _ hm
  obtain ⟨a0, len0, cap0, rfl⟩ := okWide_slice Tryd.underlying27 (hval 0 27 v0 rfl rfl)
  have k1 := h1
  have lt1 : ∀ x ∈ p1, x.block < W.heap.size := by obtain ⟨m, hm⟩ := k1; exact DataW.trod_lt m _ _ _ hm
  obtain ⟨a1, rfl, rfl, rfl, w1⟩ := open_int Tryd.underlying3 (hval 1 3 v1 rfl rfl) h1
  have k2 := h2
  have lt2 : ∀ x ∈ p2, x.block < W.heap.size := by obtain ⟨m, hm⟩ := k2; exact DataW.trod_lt m _ _ _ hm
  obtain ⟨a2, rfl, rfl, rfl, w2⟩ := open_int Tryd.underlying3 (hval 2 3 v2 rfl rfl) h2
  have k3 := h3
  have lt3 : ∀ x ∈ p3, x.block < W.heap.size := by obtain ⟨m, hm⟩ := k3; exact DataW.trod_lt m _ _ _ hm
  obtain ⟨a3, rfl, rfl, rfl, w3⟩ := open_int Tryd.underlying3 (hval 3 3 v3 rfl rfl) h3
  clear hA0 hval0
  refine (DagOrder_walk (enc := enc) W hM a0 len0 cap0 (Readable.of_trod h0) a1 w1 a2 w2 a3 w3).mono fun e W' ⟨he, bel⟩ => ?_
  subst he
  exact ⟨_, rfl, _, _, _, [], _, [], hW', trodAll_mk1 (shut_bool Tryd.underlying4 _), (trodAll_cons_mk (Below.trod law_laid (by kernel_rfl) (of_decide_eq_true (by kernel_rfl)) k0 bel lt0) (trodAll_cons_mk (Below.trod law_laid (by kernel_rfl) (of_decide_eq_true (by kernel_rfl)) k1 bel lt1) (trodAll_cons_mk (Below.trod law_laid (by kernel_rfl) (of_decide_eq_true (by kernel_rfl)) k2 bel lt2) (trodAll_cons_mk (Below.trod law_laid (by kernel_rfl) (of_decide_eq_true (by kernel_rfl)) k3 bel lt3) trodAll_mk0)))), rfl, bel.frame _, fun h => by cases h⟩

theorem DagOrder_over : Rows.dagOrderRow.holds Tryd.pinned (OpenSpec.ofChange Rows.dagOrderSpec) :=
  OpenClaim.holds_of_wide 8 Tryd.f8 rfl rfl rfl rfl rfl rfl rfl ⟨rfl, rfl, rfl, rfl, rfl⟩ rfl rfl rfl rfl rfl (by kernel_rfl) Tryd.func8 (by kernel_rfl)
    (of_decide_eq_true (by kernel_rfl)) (by unfold Func.isWrapper; first | (rw [if_pos (by decide +kernel)]; kernel_rfl) | (rw [if_neg (by decide +kernel)]; exact ⟨rfl, rfl⟩))
    (fun os started H enc _ => DagOrder_lifted os started H enc)

theorem DagOrder_params : ∀ (j : Nat) t, Tryd.f8.params[j]? = some t → Tryd.prog.wantsStandIn t = false := by
  intro j t ht
  rw [Tryd.params8] at ht
  have hm : t ∈ ([27, 3, 3, 3] : List TypeId) := List.mem_of_getElem? (i := j) (by simpa using ht)
  simp only [List.mem_cons, List.not_mem_nil, or_false] at hm
  rcases hm with h | h | h | h
  · subst h; exact (show Tryd.prog.wantsStandIn 27 = false by kernel_rfl)
  · subst h; exact (show Tryd.prog.wantsStandIn 3 = false by kernel_rfl)
  · subst h; exact (show Tryd.prog.wantsStandIn 3 = false by kernel_rfl)
  · subst h; exact (show Tryd.prog.wantsStandIn 3 = false by kernel_rfl)
theorem DagOrder_holds : Rows.DagOrderCardSaid :=
  Claim7.holds_tied_plain_at .later [] [.data, .pinned] true (true, "b8549941136c75f2c554eaf403c37bf8f3fce9d6a3edd6b504917a752e07b547") false
    DagOrder_over (fun _ h => by cases h) (by kernel_rfl) (fun _ h => by cases h) dagOrder_row_tie rfl ⟨rfl, rfl⟩ (by kernel_rfl) rfl
    (fun f fn hf hfn => by
      obtain rfl : f = 8 := Option.some.inj ((show Tryd.prog.funcNamed "cortege/cortegelaw11.DagOrder" = some 8 by kernel_rfl).symm.trans hf) |>.symm
      obtain rfl : fn = Tryd.f8 := (Option.some.inj (Tryd.func8.symm.trans hfn)).symm
      exact ⟨by kernel_rfl, DagOrder_params⟩)
    (by kernel_rfl)
#print axioms DagOrder_holds

end Go.Proofs.YtnnkbicaokckbaaDoor
