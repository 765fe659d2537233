/- BaseTells: what two commits have in common, and the best of it, is the document's, of any two, there or not. Conditions: none. -/
import Derived.Test.YtnnkbicaokckbaaDoorRows
import Derived.Test.YtnnkbicaokckbaaDoorTie
import Derived.Test.YtnnkbicaokckbaaDoorCards
import Derived.Test.YtnnkbicaokckbaaDoorCardB
import Derived.SevenTiedAt
import Derived.Test.YtnnkbicaokckbaaDoorBsW
import Derived.Test.YtnnkbicaokckbaaDoorRfI
import Derived.Test.YtnnkbicaokckbaaDoorLow
import Derived.Outline
import Derived.Deep.QuietTactic
import Derived.BigQuiet
import Derived.Deep.CutRange
namespace Go.Proofs.YtnnkbicaokckbaaDoor
open Go.ChangeShapes Go.WideShapes Go.ChangeAt Go.RowKit
open Go.ChangeMaps (open_string shut_string)
set_option linter.unusedVariables false
open Go.Shelf

set_option maxHeartbeats 8000000 in
set_option maxRecDepth 100000 in
theorem BaseTells_walk {H : Type} {enc : TypeId × Value → H} (W : World) (hM : Mx W) (ao : Option Addr) (len cap : Nat) (hv : Readable enc Tryd.prog W 27 (Value.slice ao len cap).cells.toList) (n0 : Int) (_ : (Lit.int .i64 n0).wf = true) (m0 : Int) (_ : (Lit.int .i64 m0).wf = true) :
    Calls Tryd.prog 11 #[.slice ao len cap, .int .i64 n0, .int .i64 m0] W fun e W' => e = .returned (.bool true) ∧ Below W.heap.size W W' := by
  obtain ⟨v0, xs, hveq, hrd, hxm, hxw, hxb⟩ := hv.ints Tryd.underlying27 Tryd.underlying3 (by kernel_rfl)
  obtain rfl : v0 = .slice ao len cap := by have h := hveq; simp [Value.cells] at h; exact h.symm
  obtain ⟨a', c', e, -, -⟩ := hrd.shape
  cases e
  have HM := hide hM
  by_cases hl30 : xs.length ≤ 30
  rotate_left
  · have d1 : decide ((xs.length : Int) > 30) = true := decide_eq_true (by omega)
    have hxmm : (xs.length : Int) ≤ 9223372036854775807 := by unfold maxLen at hxm; omega
    clear hrd hxm hxw hxb hv hM hl30 hveq
    go_enter Tryd.func11, Tryd.ntmps11
    go_wp2_with fail
    refine (awake12 _ HM.out).mono ?_
    rintro e w2 ⟨rfl, hb2⟩
    have HB2 := hide hb2
    clear hb2
    go_wp2_with fail
    go_ret
    exact ⟨rfl, HB2.out⟩
  have d1 : decide ((xs.length : Int) > 30) = false := decide_eq_false (by omega)
  have HMD := hide (made12 W hM (.slice ao xs.length cap) xs hrd hxb hl30 (fun x hx => wf_range (hxw x hx)))
  have HD : Hid (DagOk (gcs xs)) := hide (gcs_ok xs hl30)
  have hgl := gcs_length xs
  clear hrd hxm hxw hxb hv hM hveq
  go_enter Tryd.func11, Tryd.ntmps11
  go_wp2_with fail
  refine HMD.out.mono ?_
  rintro e w2 ⟨p, q, rfl, ht, hb2⟩
  have HG : Hid (∀ Wx, Chg (fun _ => False) w2 Wx → Gets Wx (.pointer (some ⟨p, 0, none⟩)) (gcs xs)) := hide (fun Wx h => (ht.same h).is.gets)
  have HB2 := hide hb2
  obtain ⟨aop, capp, lp, aq, cq, lq, -, hq2, -, hlq, -, -⟩ := ht
  have HQ := hide hq2
  have HLQ := hide hlq
  clear hb2 hq2 hlq HMD
  have hx3 : ((xs.length + 3 : Nat) : Int) = (xs.length : Int) + 3 := by omega
  have HL1 := hide (Low_ok w2 n0 (xs.length + 3) (by omega) (by omega))
  have HL2 := hide (Low_ok w2 m0 (xs.length + 3) (by omega) (by omega))
  rw [hx3] at HL1 HL2
  have hal := low_lt n0 (xs.length + 3) (by omega)
  have hbl := low_lt m0 (xs.length + 3) (by omega)
  generalize low n0 (xs.length + 3) = la at *
  generalize low m0 (xs.length + 3) = lb at *
  clear hx3
  go_wp2_with fail
  refine HL1.out.mono ?_
  rintro e w3 ⟨rfl, hw3⟩
  rw [hw3]
  clear hw3
  obtain ⟨n, hA⟩ : ∃ n : Int, n = (la : Int) - 1 := ⟨_, rfl⟩
  obtain ⟨m, hB⟩ : ∃ m : Int, m = (lb : Int) - 1 := ⟨_, rfl⟩
  have HNI : Hid (I64 n) := hide (by unfold I64; omega)
  have HMI : Hid (I64 m) := hide (by unfold I64; omega)
  have hwa : IntKind.i64.wrap ((la : Int) - 1) = n := by rw [hA]; exact IntWalk.i64_in _ (by omega)
  have hwb : IntKind.i64.wrap ((lb : Int) - 1) = m := by rw [hB]; exact IntWalk.i64_in _ (by omega)
  clear hA hB
  go_wp2_with fail
  refine HL2.out.mono ?_
  rintro e w3 ⟨rfl, hw3⟩
  rw [hw3]
  clear hw3
  have hcl := common_len (gcs xs) n m
  have hbn := best_len (gcs xs) n m
  obtain ⟨C, hC⟩ : ∃ C, C = commonN (gcs xs) n m := ⟨_, rfl⟩
  obtain ⟨Bn, hBn⟩ : ∃ Bn, Bn = bestN (gcs xs) n m := ⟨_, rfl⟩
  have HCO := hide (fun Wx (hc : Chg (fun _ => False) w2 Wx) => base_Common Wx HD.out (HG.out Wx hc) n m HNI.out HMI.out)
  have HBE := hide (fun Wx (hc : Chg (fun _ => False) w2 Wx) => base_Best Wx HD.out (HG.out Wx hc) n m HNI.out HMI.out)
  have HRC := hide (fun Wx (hc : Chg (fun _ => False) w2 Wx) => ref12_Common (HQ.out.same hc) (by rw [HLQ.out]; exact HD.out) n m)
  have HRB := hide (fun Wx (hc : Chg (fun _ => False) w2 Wx) => ref12_Best (HQ.out.same hc) (by rw [HLQ.out]; exact HD.out) n m)
  rw [HLQ.out] at HRC HRB
  rw [← hC] at HCO HRC hcl
  rw [← hBn] at HBE HRB hbn
  clear hC hBn
  go_wp2_with fail
  refine (HCO.out w2 (Chg.refl _ _)).mono ?_
  rintro e w3 ⟨a3, c3, rfl, ho3, hb3⟩
  have HO3 := hide ho3
  have HC3 := hide (chg_b (Chg.refl _ w2) hb3)
  clear ho3 hb3
  go_wp2_with fail
  refine (HBE.out w3 HC3.out).mono ?_
  rintro e w4 ⟨a4, c4, rfl, ho4, hb4⟩
  have HO4 := hide ho4
  have HC4 := hide (chg_b HC3.out hb4)
  have HS34 := hide hb4.size
  have HO34 := hide ((Chg.of_below0 (S := fun _ => False) hb4).owns HO3.out (fun _ _ h => h))
  have HD34 : Hid (∀ k, (Value.slice a3 C.length c3).ownBlock = some k → k < w3.heap.size) := hide (fun k hk => (ownsRow_lt HO3.out k hk).2)
  clear ho4 hb4
  go_wp2_with fail
  refine (HRC.out w4 HC4.out).mono ?_
  rintro e w5 ⟨a5, c5, rfl, ho5, hb5⟩
  have HC5 := hide (chg_b HC4.out hb5)
  have HS45 := hide hb5.size
  have hc45 := Chg.of_below0 (S := fun _ => False) hb5
  have HO35 := hide (hc45.owns HO34.out (fun _ _ h => h))
  have HO45 := hide (hc45.owns HO4.out (fun _ _ h => h))
  have HSI := hide (same_intsT w5 (.slice a3 C.length c3) (.slice a5 C.length c5) C (Rd.of_owns HO35.out) (Rd.of_owns ho5) (by omega))
  clear ho5 hb5 hc45
  go_wp2_with fail
  refine HSI.out.mono ?_
  rintro e w6 ⟨rfl, hc6⟩
  have HC6 := hide (chg_c HC5.out hc6)
  have HS46 := hide (Nat.le_trans HS45.out hc6.size)
  have HO36 := hide (hc6.owns HO35.out (fun _ _ h => h))
  have HO46 := hide (hc6.owns HO45.out (fun _ _ h => h))
  clear hc6 HSI
  go_wp2_with fail
  refine (HRB.out w6 HC6.out).mono ?_
  rintro e w7 ⟨a7, c7, rfl, ho7, hb7⟩
  have HC7 := hide (chg_b HC6.out hb7)
  have HS47 := hide (Nat.le_trans HS46.out hb7.size)
  have hc67 := Chg.of_below0 (S := fun _ => False) hb7
  have HO37 := hide (hc67.owns HO36.out (fun _ _ h => h))
  have HO47 := hide (hc67.owns HO46.out (fun _ _ h => h))
  have HSI := hide (same_intsT w7 (.slice a4 Bn.length c4) (.slice a7 Bn.length c7) Bn (Rd.of_owns HO47.out) (Rd.of_owns ho7) (by omega))
  clear ho7 hb7 hc67
  go_wp2_with fail
  refine HSI.out.mono ?_
  rintro e w8 ⟨rfl, hc8⟩
  have HC8 := hide (chg_c HC7.out hc8)
  have HS48 := hide (Nat.le_trans HS47.out hc8.size)
  have HO38 := hide (hc8.owns HO37.out (fun _ _ h => h))
  have HO48 := hide (hc8.owns HO47.out (fun _ _ h => h))
  have HS38 : Hid (w3.heap.size ≤ w8.heap.size) := hide (by have h1 := HS34.out; have h2 := HS48.out; omega)
  have HOV := hide (OverInts_ok w8 (.slice a3 C.length c3) C.length _ HO38.out HC8.out.size (by omega))
  clear hc8 HSI
  go_wp2_with fail
  refine HOV.out.mono ?_
  rintro e w9 ⟨rfl, hc9⟩
  have HC9 := hide (HC8.out.trans hc9 (S'' := fun _ => False) (fun _ _ h => h) (fun k hk h => by have := (ownsRow_lt HO38.out k h).1; omega))
  have HO49 := hide (hc9.owns HO48.out (fun k hk h => by have h1 := (ownsRow_lt HO48.out k hk).1; have h2 := HD34.out k h; omega))
  have HOV2 := hide (OverInts_ok w9 (.slice a4 Bn.length c4) Bn.length _ HO49.out (Nat.le_trans HS38.out hc9.size) (by omega))
  clear hc9 HOV
  go_wp2_with fail
  refine HOV2.out.mono ?_
  rintro e w10 ⟨rfl, hc10⟩
  have HC10 := hide (HC9.out.trans hc10 (S'' := fun _ => False) (fun _ _ h => h) (fun k hk h => by have h1 := (ownsRow_lt HO49.out k h).1; have h2 := HC3.out.size; omega))
  clear hc10 HOV2
  go_wp2_with fail
  refine (HBE.out w10 HC10.out).mono ?_
  rintro e w11 ⟨a11, c11, rfl, ho11, hb11⟩
  have HR11 := hide (Rd.of_owns ho11)
  have HC11 := hide (chg_b HC10.out hb11)
  clear ho11 hb11
  go_wp2_with fail
  refine (HRB.out w11 HC11.out).mono ?_
  rintro e w12 ⟨a12, c12, rfl, ho12, hb12⟩
  have HC12 := hide (chg_b HC11.out hb12)
  have HSI := hide (same_intsT w12 (.slice a11 Bn.length c11) (.slice a12 Bn.length c12) Bn (HR11.out.chg (Chg.of_below0 (S := fun _ => False) hb12) (fun _ _ _ h => h)) (Rd.of_owns ho12) (by omega))
  clear ho12 hb12
  go_wp2_with fail
  refine HSI.out.mono ?_
  rintro e w13 ⟨rfl, hc13⟩
  have HC13 := hide (chg_c HC12.out hc13)
  have HB13 := hide (HB2.out.trans (HC13.out.below HB2.out.size (fun _ _ h => h)))
  clear hc13 HSI
  go_wp2_with fail
  refine (awake12 w13 (HM.out.below HB13.out HM.out.pos)).mono ?_
  rintro e w18 ⟨rfl, hb18⟩
  have HB18 := hide (HB13.out.trans (hb18.mono HB13.out.size))
  clear hb18
  go_wp2_with fail
  go_ret
  exact ⟨rfl, HB18.out⟩
set_option maxRecDepth 100000 in
theorem BaseTells_lifted (os : Os) (started : os.Started) (H : Type) (enc : TypeId × Value → H) :
    ReturnsInHanded {} Tryd.checked os 11 .any (fun w args => (Rows.baseTellsSpec.pre enc Tryd.prog Tryd.f11 Rows.baseTellsRow.domain false w args ∧ laidMetH Tryd.prog cardLaid w) ∧ sizedMet enc Tryd.prog Tryd.f11 (OpenSpec.ofChange Rows.baseTellsSpec) false w args) (Rows.baseTellsSpec.post enc Tryd.prog Tryd.f11 false true false false) := by
  refine card_wrap (C := Tryd.checked) (X := fun w => laidMetH Tryd.prog cardLaid w) law_own started (by kernel_rfl) Tryd.func11
    (ChangeSpec.witness_at (enc := enc) (C := Tryd.checked) (os := os) (X := fun w _ => laidMetH Tryd.prog cardLaid w) false (laidWorld os) #[.slice none 0 0, .int .i64 0, .int .i64 0] 8 rfl (by kernel_rfl) (by kernel_rfl) (by kernel_rfl) (by kernel_rfl) (by kernel_rfl) (laidWorld_met os _)) ?_
  intro W base args ds gs before hval0 hW hsh
  have hM := mx_of_shaped hsh
  have hval : ∀ (j : Nat) t v, Tryd.f11.params[j]? = some t → args[j]? = some v → Value.okWide Tryd.prog W .any base t v := hval0
  have hW' := hW
  obtain ⟨p, q, hA0, hV, rfl, hfz, hnd⟩ := hW
  have hA : DataW.TrodAll enc Tryd.prog W 0 (fun _ => true) true Tryd.f11.params.toList args.toList ds p := hA0
  rw [Tryd.params11] at hA hval
  obtain ⟨v0, vs0, d0, ds0, p0, q0, hargs, rfl, rfl, h0, r0⟩ := trodAll_cons hA
  obtain ⟨v1, vs1, d1, ds1, p1, q1, rfl, rfl, rfl, h1, r1⟩ := trodAll_cons r0
  obtain ⟨v2, vs2, d2, ds2, p2, q2, rfl, rfl, rfl, h2, r2⟩ := trodAll_cons r1
  obtain ⟨rfl, rfl, rfl⟩ := trodAll_nil r2
  obtain rfl : args = #[v0, v1, v2] := by cases args; simp_all
  obtain ⟨rfl, rfl⟩ := trodVars_none hV
  have k0 := h0
  have lt0 : ∀ x ∈ p0, x.block < W.heap.size := by obtain ⟨m, hm⟩ := k0; exact DataW.trod_lt m _ _ _ hm
  obtain ⟨a0, len0, cap0, rfl⟩ := okWide_slice Tryd.underlying27 (hval 0 27 v0 rfl rfl)
  have k1 := h1
  have lt1 : ∀ x ∈ p1, x.block < W.heap.size := by obtain ⟨m, hm⟩ := k1; exact DataW.trod_lt m _ _ _ hm
  obtain ⟨a1, rfl, rfl, rfl, w1⟩ := open_int Tryd.underlying3 (hval 1 3 v1 rfl rfl) h1
  have k2 := h2
  have lt2 : ∀ x ∈ p2, x.block < W.heap.size := by obtain ⟨m, hm⟩ := k2; exact DataW.trod_lt m _ _ _ hm
  obtain ⟨a2, rfl, rfl, rfl, w2⟩ := open_int Tryd.underlying3 (hval 2 3 v2 rfl rfl) h2
  clear hA0 hval0
  refine (BaseTells_walk (enc := enc) W hM a0 len0 cap0 (Readable.of_trod h0) a1 w1 a2 w2).mono fun e W' ⟨he, bel⟩ => ?_
  subst he
  exact ⟨_, rfl, _, _, _, [], _, [], hW', trodAll_mk1 (shut_bool Tryd.underlying4 _), (trodAll_cons_mk (Below.trod law_laid (by kernel_rfl) (of_decide_eq_true (by kernel_rfl)) k0 bel lt0) (trodAll_cons_mk (Below.trod law_laid (by kernel_rfl) (of_decide_eq_true (by kernel_rfl)) k1 bel lt1) (trodAll_cons_mk (Below.trod law_laid (by kernel_rfl) (of_decide_eq_true (by kernel_rfl)) k2 bel lt2) trodAll_mk0))), rfl, bel.frame _, fun h => by cases h⟩

theorem BaseTells_over : Rows.baseTellsRow.holds Tryd.pinned (OpenSpec.ofChange Rows.baseTellsSpec) :=
  OpenClaim.holds_of_wide 11 Tryd.f11 rfl rfl rfl rfl rfl rfl rfl ⟨rfl, rfl, rfl, rfl, rfl⟩ rfl rfl rfl rfl rfl (by kernel_rfl) Tryd.func11 (by kernel_rfl)
    (of_decide_eq_true (by kernel_rfl)) (by unfold Func.isWrapper; first | (rw [if_pos (by decide +kernel)]; kernel_rfl) | (rw [if_neg (by decide +kernel)]; exact ⟨rfl, rfl⟩))
    (fun os started H enc _ => BaseTells_lifted os started H enc)

theorem BaseTells_params : ∀ (j : Nat) t, Tryd.f11.params[j]? = some t → Tryd.prog.wantsStandIn t = false := by
  intro j t ht
  rw [Tryd.params11] at ht
  have hm : t ∈ ([27, 3, 3] : List TypeId) := List.mem_of_getElem? (i := j) (by simpa using ht)
  simp only [List.mem_cons, List.not_mem_nil, or_false] at hm
  rcases hm with h | h | h
  · subst h; exact (show Tryd.prog.wantsStandIn 27 = false by kernel_rfl)
  · subst h; exact (show Tryd.prog.wantsStandIn 3 = false by kernel_rfl)
  · subst h; exact (show Tryd.prog.wantsStandIn 3 = false by kernel_rfl)
theorem BaseTells_holds : Rows.BaseTellsCardSaid :=
  Claim7.holds_tied_plain_at .later [] [.data, .pinned] true (true, "b8549941136c75f2c554eaf403c37bf8f3fce9d6a3edd6b504917a752e07b547") false
    BaseTells_over (fun _ h => by cases h) (by kernel_rfl) (fun _ h => by cases h) baseTells_row_tie rfl ⟨rfl, rfl⟩ (by kernel_rfl) rfl
    (fun f fn hf hfn => by
      obtain rfl : f = 11 := Option.some.inj ((show Tryd.prog.funcNamed "cortege/cortegelaw12.BaseTells" = some 11 by kernel_rfl).symm.trans hf) |>.symm
      obtain rfl : fn = Tryd.f11 := (Option.some.inj (Tryd.func11.symm.trans hfn)).symm
      exact ⟨by kernel_rfl, BaseTells_params⟩)
    (by kernel_rfl)
#print axioms BaseTells_holds

end Go.Proofs.YtnnkbicaokckbaaDoor
