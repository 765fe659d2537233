/- DagTells: parents, all that is ahead, who came of whom, how deep it is, and the line of first parents, is the document's. Conditions: none. -/
import Derived.Test.YtnnkbicaokckbaaDoorRows
import Derived.Test.YtnnkbicaokckbaaDoorTie
import Derived.Test.YtnnkbicaokckbaaDoorCards
import Derived.Test.YtnnkbicaokckbaaDoorCardB
import Derived.SevenTiedAt
import Derived.Test.YtnnkbicaokckbaaDoorDgW
import Derived.Test.YtnnkbicaokckbaaDoorDgR
import Derived.Test.YtnnkbicaokckbaaDoorRfH
import Derived.Test.YtnnkbicaokckbaaDoorLow
import Derived.Outline
import Derived.Deep.QuietTactic
import Derived.BigQuiet
import Derived.Deep.CutRange
namespace Go.Proofs.YtnnkbicaokckbaaDoor
open Go.ChangeShapes Go.WideShapes Go.ChangeAt Go.RowKit
open Go.ChangeMaps (open_string shut_string)
set_option linter.unusedVariables false
open Go.Shelf

theorem dag_IsN (w : World) {v : Value} {cs : List Cm} (hd : DagOk cs) (hg : Gets w v cs) (a b : Int) (hb : I64 b) :
    Calls Tryd.prog 42 #[v, .int .i64 a, .int .i64 b] w fun e w' => e = .returned (.bool (isN cs a b)) ∧ Below w.heap.size w w' := dag_Is w hd hg a b hb
set_option maxHeartbeats 8000000 in
set_option maxRecDepth 100000 in
theorem DagTells_walk {H : Type} {enc : TypeId × Value → H} (W : World) (hM : Mx W) (ao : Option Addr) (len cap : Nat) (hv : Readable enc Tryd.prog W 27 (Value.slice ao len cap).cells.toList) (n0 : Int) (_ : (Lit.int .i64 n0).wf = true) (m0 : Int) (_ : (Lit.int .i64 m0).wf = true) :
    Calls Tryd.prog 7 #[.slice ao len cap, .int .i64 n0, .int .i64 m0] W fun e W' => e = .returned (.bool true) ∧ Below W.heap.size W W' := by
  obtain ⟨v0, xs, hveq, hrd, hxm, hxw, hxb⟩ := hv.ints Tryd.underlying27 Tryd.underlying3 (by kernel_rfl)
  obtain rfl : v0 = .slice ao len cap := by have h := hveq; simp [Value.cells] at h; exact h.symm
  obtain ⟨a', c', e, -, -⟩ := hrd.shape
  cases e
  have HM := hide hM
  by_cases hl30 : xs.length ≤ 30
  rotate_left
  · have d1 : decide ((xs.length : Int) > 30) = true := decide_eq_true (by omega)
    have hxmm : (xs.length : Int) ≤ 9223372036854775807 := by unfold maxLen at hxm; omega
    clear hrd hxm hxw hxb hv hM hl30 hveq
    go_enter Tryd.func7, Tryd.ntmps7
    go_wp2_with fail
    refine (awake11 _ HM.out).mono ?_
    rintro e w2 ⟨rfl, hb2⟩
    have HB2 := hide hb2
    clear hb2
    go_wp2_with fail
    go_ret
    exact ⟨rfl, HB2.out⟩
  have d1 : decide ((xs.length : Int) > 30) = false := decide_eq_false (by omega)
  have HMD := hide (made11 W hM (.slice ao xs.length cap) xs hrd hxb hl30 (fun x hx => wf_range (hxw x hx)))
  have HD : Hid (DagOk (gcs xs)) := hide (gcs_ok xs hl30)
  have hgl := gcs_length xs
  clear hrd hxm hxw hxb hv hM hveq
  go_enter Tryd.func7, Tryd.ntmps7
  go_wp2_with fail
  refine HMD.out.mono ?_
  rintro e w2 ⟨p, q, rfl, ht, hb2⟩
  have HG : Hid (∀ Wx, Chg (fun _ => False) w2 Wx → Gets Wx (.pointer (some ⟨p, 0, none⟩)) (gcs xs)) := hide (fun Wx h => (ht.same h).is.gets)
  have HB2 := hide hb2
  obtain ⟨aop, capp, lp, aq, cq, lq, -, hq2, -, hlq, -, -⟩ := ht
  have HQ := hide hq2
  have HLQ := hide hlq
  clear hb2 hq2 hlq HMD
  have hx3 : ((xs.length + 3 : Nat) : Int) = (xs.length : Int) + 3 := by omega
  have HL1 := hide (Low_ok w2 n0 (xs.length + 3) (by omega) (by omega))
  have HL2 := hide (Low_ok w2 m0 (xs.length + 3) (by omega) (by omega))
  rw [hx3] at HL1 HL2
  have hal := low_lt n0 (xs.length + 3) (by omega)
  have hbl := low_lt m0 (xs.length + 3) (by omega)
  generalize low n0 (xs.length + 3) = la at *
  generalize low m0 (xs.length + 3) = lb at *
  clear hx3
  go_wp2_with fail
  refine HL1.out.mono ?_
  rintro e w3 ⟨rfl, hw3⟩
  rw [hw3]
  clear hw3
  obtain ⟨n, hA⟩ : ∃ n : Int, n = (la : Int) - 1 := ⟨_, rfl⟩
  obtain ⟨m, hB⟩ : ∃ m : Int, m = (lb : Int) - 1 := ⟨_, rfl⟩
  have HN := hide hA
  have HNI : Hid (I64 n) := hide (by unfold I64; omega)
  have HMI : Hid (I64 m) := hide (by unfold I64; omega)
  have hwa : IntKind.i64.wrap ((la : Int) - 1) = n := by rw [hA]; exact IntWalk.i64_in _ (by omega)
  have hwb : IntKind.i64.wrap ((lb : Int) - 1) = m := by rw [hB]; exact IntWalk.i64_in _ (by omega)
  clear hA hB
  go_wp2_with fail
  refine HL2.out.mono ?_
  rintro e w3 ⟨rfl, hw3⟩
  rw [hw3]
  clear hw3
  have HHAS := hide (ref10_Has (HQ.out) n)
  have hqc0 := HQ.out.c0
  obtain ⟨ps, hps⟩ : ∃ ps, ps = parN (gcs xs) n := ⟨_, rfl⟩
  have HPS := hide hps
  have hfew : ps.length ≤ 2 := by rw [hps]; exact HD.out.few n
  have hll : lq.length = xs.length := by rw [← hgl, ← HLQ.out, cms_length]
  have HLL := hide hll
  clear hps hll
  go_upto_if 35 with (first
    | (refine HHAS.out.mono ?_; rintro e w3 ⟨rfl, hw3⟩; rw [hw3]; clear hw3))
  go_cut [9] from 35 (fun s9 wc => (∃ av cv, s9 = .slice av ps.length cv ∧ Hid (Rd w2 (.slice av ps.length cv) ps.length (ps.map (Value.int .i64)))) ∧ wc = w2)
  case first =>
    by_cases hr : 1 ≤ n ∧ n ≤ (lq.length : Int)
    · have hb := hasN_in hr
      rw [hb]
      obtain ⟨k, rfl⟩ : ∃ k : Nat, n = (k : Int) + 1 := ⟨(n - 1).toNat, by omega⟩
      obtain ⟨b, off, av, cv, rfl, hcells⟩ := ref_par HQ.out (k := k) (by omega) (ps := ps) (by rw [HPS.out, HLQ.out])
      obtain ⟨q0, q1, q2⟩ := hcells w2 (Chg.refl _ _)
      rw [flat_int] at q2
      have HQ2 := hide q2
      have hn1 : (k : Int) + 1 - 1 = (k : Int) := by omega
      have hwk : IntKind.i64.wrap (k : Int) = k := IntWalk.i64_in _ (by have := HLL.out; omega)
      have hki : (k : Int) < (lq.length : Int) := by omega
      clear hcells q2 hr hqc0 hb hwa
      go_wp2_with fail
      go_meet
      exact ⟨⟨av, cv, rfl, HQ2.out⟩, rfl⟩
    · have hb := hasN_out hr
      rw [hb]
      have HE := hide (show ps = [] by rw [HPS.out]; exact parN_out (by rw [hgl, ← HLL.out]; omega))
      clear hr hb
      go_wp2_with fail
      go_meet
      exact ⟨⟨none, 0, by rw [HE.out]; rfl, by rw [HE.out]; exact Rd.nil _⟩, rfl⟩
  case rest =>
    obtain ⟨⟨av, cv, rfl, HPR⟩, hwc⟩ := hcut
    rw [hwc]
    clear hwc hqc0
    go_wp2_with fail
    refine (dag_Parents w2 (HG.out w2 (Chg.refl _ _)) n HNI.out (by rw [← HPS.out]; omega)).mono ?_
    rintro e w3 ⟨gv, rfl, ht3, hb3⟩
    rw [← HPS.out] at ht3
    have HIN := hide (ints_told w3 _ gv ht3 (by omega) 99 (by omega))
    have HC3 := hide (chg_b (Chg.refl _ w2) hb3)
    clear ht3 hb3
    go_wp2_with fail
    refine HIN.out.mono ?_
    rintro e w4 ⟨ao4, cap4, rfl, ho4, hb4⟩
    have HC4 := hide (chg_b HC3.out hb4)
    have HSI := hide (same_intsT w4 (.slice ao4 ps.length cap4) (.slice av ps.length cv) ps (Rd.of_owns ho4) (HPR.out.chg HC4.out (fun _ _ _ h => h)) (by omega))
    clear ho4 hb4 HIN
    go_wp2_with fail
    refine HSI.out.mono ?_
    rintro e w5 ⟨rfl, hc5⟩
    have HC5 := hide (chg_c HC4.out hc5)
    clear hc5 HSI
    have hal := aheadN_length (gcs xs) n
    go_wp2_with fail
    refine (dag_Ahead w5 (HG.out w5 HC5.out) n HNI.out HD.out).mono ?_
    rintro e w6 ⟨gv, rfl, ht6, hb6⟩
    have HIN := hide (ints_told w6 _ gv ht6 (by omega) 99 (by omega))
    have HC6 := hide (chg_b HC5.out hb6)
    clear ht6 hb6
    obtain ⟨zs, hzs⟩ : ∃ zs, zs = aheadN (gcs xs) n := ⟨_, rfl⟩
    rw [← hzs] at HIN hal
    have HZS := hide hzs
    clear hzs
    go_wp2_with fail
    refine HIN.out.mono ?_
    rintro e w7 ⟨ao7, cap7, rfl, ho7, hb7⟩
    have HC7 := hide (chg_b HC6.out hb7)
    have HR7 := hide (Rd.of_owns ho7)
    have HRA := hide (ref11_Ahead (HQ.out.same HC7.out) (by rw [HLQ.out]; exact HD.out) n)
    rw [HLQ.out, ← HZS.out] at HRA
    clear ho7 hb7 HIN
    go_wp2_with fail
    refine HRA.out.mono ?_
    rintro e w8 ⟨ao8, cap8, rfl, ho8, hb8⟩
    have HC8 := hide (chg_b HC7.out hb8)
    have HSI := hide (same_intsT w8 (.slice ao7 zs.length cap7) (.slice ao8 zs.length cap8) zs (HR7.out.chg (Chg.of_below0 (S := fun _ => False) hb8) (fun _ _ _ h => h)) (Rd.of_owns ho8) (by omega))
    clear ho8 hb8 HRA HR7
    go_wp2_with fail
    refine HSI.out.mono ?_
    rintro e w9 ⟨rfl, hc9⟩
    have HC9 := hide (chg_c HC8.out hc9)
    have HRI := hide (fun Wx (hc : Chg (fun _ => False) w2 Wx) => ref11_Is (HQ.out.same hc) (by rw [HLQ.out]; exact HD.out) m n)
    rw [HLQ.out] at HRI
    obtain ⟨bi, hbi⟩ : ∃ bi, bi = isN (gcs xs) m n := ⟨_, rfl⟩
    have HDI := hide (dag_IsN w9 HD.out (HG.out w9 HC9.out) m n HNI.out)
    rw [← hbi] at HRI HDI
    clear hc9 HSI hbi
    go_wp2_with fail
    refine HDI.out.mono ?_
    rintro e w10 ⟨rfl, hb10⟩
    have HC10 := hide (chg_b HC9.out hb10)
    clear hb10
    go_wp2_with fail
    refine (HRI.out w10 HC10.out).mono ?_
    rintro e w11 ⟨rfl, hb11⟩
    have HC11 := hide (chg_b HC10.out hb11)
    have hbb : (bi == bi) = true := by simp
    clear hb11
    obtain ⟨dn, hdn⟩ : ∃ dn, dn = depthN (gcs xs) n := ⟨_, rfl⟩
    have HDD := hide (dag_Depth w11 HD.out (HG.out w11 HC11.out) n HNI.out)
    have HRD := hide (fun Wx (hc : Chg (fun _ => False) w2 Wx) => ref11_Depth (HQ.out.same hc) (by rw [HLQ.out]; exact HD.out) n)
    rw [HLQ.out] at HRD
    rw [← hdn] at HRD HDD
    clear hdn
    go_wp2_with fail
    refine HDD.out.mono ?_
    rintro e w12 ⟨rfl, hb12⟩
    have HC12 := hide (chg_b HC11.out hb12)
    clear hb12
    go_wp2_with fail
    refine (HRD.out w12 HC12.out).mono ?_
    rintro e w13 ⟨rfl, hb13⟩
    have HC13 := hide (chg_b HC12.out hb13)
    clear hb13
    have hfl := firstN_length (gcs xs) n
    have hde : (dn == dn) = true := by simp
    go_wp2_with fail
    refine (dag_First w13 (HG.out w13 HC13.out) n HNI.out HD.out).mono ?_
    rintro e w14 ⟨gv, rfl, ht14, hb14⟩
    have HIN := hide (ints_told w14 _ gv ht14 (by omega) 99 (by omega))
    have HC14 := hide (chg_b HC13.out hb14)
    clear ht14 hb14
    obtain ⟨ys, hys⟩ : ∃ ys, ys = firstN (gcs xs) n := ⟨_, rfl⟩
    rw [← hys] at HIN hfl
    have HYS := hide hys
    clear hys
    go_wp2_with fail
    refine HIN.out.mono ?_
    rintro e w15 ⟨ao15, cap15, rfl, ho15, hb15⟩
    have HC15 := hide (chg_b HC14.out hb15)
    have HR15 := hide (Rd.of_owns ho15)
    have HRA := hide (ref11_First (HQ.out.same HC15.out) (by rw [HLQ.out]; exact HD.out) n HNI.out)
    rw [HLQ.out, ← HYS.out] at HRA
    clear ho15 hb15 HIN
    go_wp2_with fail
    refine HRA.out.mono ?_
    rintro e w16 ⟨ao16, cap16, rfl, ho16, hb16⟩
    have HC16 := hide (chg_b HC15.out hb16)
    have HSI := hide (same_intsT w16 (.slice ao15 ys.length cap15) (.slice ao16 ys.length cap16) ys (HR15.out.chg (Chg.of_below0 (S := fun _ => False) hb16) (fun _ _ _ h => h)) (Rd.of_owns ho16) (by omega))
    clear ho16 hb16 HRA HR15
    go_wp2_with fail
    refine HSI.out.mono ?_
    rintro e w17 ⟨rfl, hc17⟩
    have HC17 := hide (chg_c HC16.out hc17)
    have HB17 := hide (HB2.out.trans (HC17.out.below HB2.out.size (fun _ _ h => h)))
    clear hc17 HSI
    go_wp2_with fail
    refine (awake11 w17 (HM.out.below HB17.out HM.out.pos)).mono ?_
    rintro e w18 ⟨rfl, hb18⟩
    have HB18 := hide (HB17.out.trans (hb18.mono HB17.out.size))
    clear hb18
    go_wp2_with fail
    go_ret
    exact ⟨rfl, HB18.out⟩
set_option maxRecDepth 100000 in
theorem DagTells_lifted (os : Os) (started : os.Started) (H : Type) (enc : TypeId × Value → H) :
    ReturnsInHanded {} Tryd.checked os 7 .any (fun w args => (Rows.dagTellsSpec.pre enc Tryd.prog Tryd.f7 Rows.dagTellsRow.domain false w args ∧ laidMetH Tryd.prog cardLaid w) ∧ sizedMet enc Tryd.prog Tryd.f7 (OpenSpec.ofChange Rows.dagTellsSpec) false w args) (Rows.dagTellsSpec.post enc Tryd.prog Tryd.f7 false true false false) := by
  refine card_wrap (C := Tryd.checked) (X := fun w => laidMetH Tryd.prog cardLaid w) law_own started (by kernel_rfl) Tryd.func7
    (ChangeSpec.witness_at (enc := enc) (C := Tryd.checked) (os := os) (X := fun w _ => laidMetH Tryd.prog cardLaid w) false (laidWorld os) #[.slice none 0 0, .int .i64 0, .int .i64 0] 8 rfl (by kernel_rfl) (by kernel_rfl) (by kernel_rfl) (by kernel_rfl) (by kernel_rfl) (laidWorld_met os _)) ?_
  intro W base args ds gs before hval0 hW hsh
  have hM := mx_of_shaped hsh
  have hval : ∀ (j : Nat) t v, Tryd.f7.params[j]? = some t → args[j]? = some v → Value.okWide Tryd.prog W .any base t v := hval0
  have hW' := hW
  obtain ⟨p, q, hA0, hV, rfl, hfz, hnd⟩ := hW
  have hA : DataW.TrodAll enc Tryd.prog W 0 (fun _ => true) true Tryd.f7.params.toList args.toList ds p := hA0
  rw [Tryd.params7] at hA hval
  obtain ⟨v0, vs0, d0, ds0, p0, q0, hargs, rfl, rfl, h0, r0⟩ := trodAll_cons hA
  obtain ⟨v1, vs1, d1, ds1, p1, q1, rfl, rfl, rfl, h1, r1⟩ := trodAll_cons r0
  obtain ⟨v2, vs2, d2, ds2, p2, q2, rfl, rfl, rfl, h2, r2⟩ := trodAll_cons r1
  obtain ⟨rfl, rfl, rfl⟩ := trodAll_nil r2
  obtain rfl : args = #[v0, v1, v2] := by cases args; simp_all
  obtain ⟨rfl, rfl⟩ := trodVars_none hV
  have k0 := h0
  have lt0 : ∀ x ∈ p0, x.block < W.heap.size := by obtain ⟨m, hm⟩ := k0; exact DataW.trod_lt m _ _ _ hm
  obtain ⟨a0, len0, cap0, rfl⟩ := okWide_slice Tryd.underlying27 (hval 0 27 v0 rfl rfl)
  have k1 := h1
  have lt1 : ∀ x ∈ p1, x.block < W.heap.size := by obtain ⟨m, hm⟩ := k1; exact DataW.trod_lt m _ _ _ hm
  obtain ⟨a1, rfl, rfl, rfl, w1⟩ := open_int Tryd.underlying3 (hval 1 3 v1 rfl rfl) h1
  have k2 := h2
  have lt2 : ∀ x ∈ p2, x.block < W.heap.size := by obtain ⟨m, hm⟩ := k2; exact DataW.trod_lt m _ _ _ hm
  obtain ⟨a2, rfl, rfl, rfl, w2⟩ := open_int Tryd.underlying3 (hval 2 3 v2 rfl rfl) h2
  clear hA0 hval0
  refine (DagTells_walk (enc := enc) W hM a0 len0 cap0 (Readable.of_trod h0) a1 w1 a2 w2).mono fun e W' ⟨he, bel⟩ => ?_
  subst he
  exact ⟨_, rfl, _, _, _, [], _, [], hW', trodAll_mk1 (shut_bool Tryd.underlying4 _), (trodAll_cons_mk (Below.trod law_laid (by kernel_rfl) (of_decide_eq_true (by kernel_rfl)) k0 bel lt0) (trodAll_cons_mk (Below.trod law_laid (by kernel_rfl) (of_decide_eq_true (by kernel_rfl)) k1 bel lt1) (trodAll_cons_mk (Below.trod law_laid (by kernel_rfl) (of_decide_eq_true (by kernel_rfl)) k2 bel lt2) trodAll_mk0))), rfl, bel.frame _, fun h => by cases h⟩

theorem DagTells_over : Rows.dagTellsRow.holds Tryd.pinned (OpenSpec.ofChange Rows.dagTellsSpec) :=
  OpenClaim.holds_of_wide 7 Tryd.f7 rfl rfl rfl rfl rfl rfl rfl ⟨rfl, rfl, rfl, rfl, rfl⟩ rfl rfl rfl rfl rfl (by kernel_rfl) Tryd.func7 (by kernel_rfl)
    (of_decide_eq_true (by kernel_rfl)) (by unfold Func.isWrapper; first | (rw [if_pos (by decide +kernel)]; kernel_rfl) | (rw [if_neg (by decide +kernel)]; exact ⟨rfl, rfl⟩))
    (fun os started H enc _ => DagTells_lifted os started H enc)

theorem DagTells_params : ∀ (j : Nat) t, Tryd.f7.params[j]? = some t → Tryd.prog.wantsStandIn t = false := by
  intro j t ht
  rw [Tryd.params7] at ht
  have hm : t ∈ ([27, 3, 3] : List TypeId) := List.mem_of_getElem? (i := j) (by simpa using ht)
  simp only [List.mem_cons, List.not_mem_nil, or_false] at hm
  rcases hm with h | h | h
  · subst h; exact (show Tryd.prog.wantsStandIn 27 = false by kernel_rfl)
  · subst h; exact (show Tryd.prog.wantsStandIn 3 = false by kernel_rfl)
  · subst h; exact (show Tryd.prog.wantsStandIn 3 = false by kernel_rfl)
theorem DagTells_holds : Rows.DagTellsCardSaid :=
  Claim7.holds_tied_plain_at .later [] [.data, .pinned] true (true, "b8549941136c75f2c554eaf403c37bf8f3fce9d6a3edd6b504917a752e07b547") false
    DagTells_over (fun _ h => by cases h) (by kernel_rfl) (fun _ h => by cases h) dagTells_row_tie rfl ⟨rfl, rfl⟩ (by kernel_rfl) rfl
    (fun f fn hf hfn => by
      obtain rfl : f = 7 := Option.some.inj ((show Tryd.prog.funcNamed "cortege/cortegelaw11.DagTells" = some 7 by kernel_rfl).symm.trans hf) |>.symm
      obtain rfl : fn = Tryd.f7 := (Option.some.inj (Tryd.func7.symm.trans hfn)).symm
      exact ⟨by kernel_rfl, DagTells_params⟩)
    (by kernel_rfl)
#print axioms DagTells_holds

end Go.Proofs.YtnnkbicaokckbaaDoor
