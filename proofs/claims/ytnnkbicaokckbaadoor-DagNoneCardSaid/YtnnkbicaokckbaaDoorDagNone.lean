/- DagNone: of no repo, and of commits that are not there, there is none. Conditions: none. -/
import Derived.Test.YtnnkbicaokckbaaDoorRows
import Derived.Test.YtnnkbicaokckbaaDoorTie
import Derived.Test.YtnnkbicaokckbaaDoorCards
import Derived.Test.YtnnkbicaokckbaaDoorCardB
import Derived.SevenTiedAt
import Derived.Test.YtnnkbicaokckbaaDoorDgW
import Derived.Test.YtnnkbicaokckbaaDoorLow
namespace Go.Proofs.YtnnkbicaokckbaaDoor
open Go.ChangeShapes Go.WideShapes Go.ChangeAt Go.RowKit
open Go.ChangeMaps (open_string shut_string)
set_option linter.unusedVariables false
open Go.Shelf

theorem par_nil (n : Int) : parN [] n = [] := parN_out (by simp; omega)
theorem ok_nil : DagOk [] := ⟨fun n x hx => by { rw [par_nil] at hx; cases hx }, fun n => by { rw [par_nil]; simp }, by simp⟩
theorem ahead_out {cs : List Cm} {n : Int} (h : ¬ (1 ≤ n ∧ n ≤ (cs.length : Int))) : aheadN cs n = [] := by rw [aheadN, if_neg h]
theorem depth_out {cs : List Cm} {n : Int} (h : ¬ (1 ≤ n ∧ n ≤ (cs.length : Int))) : depthN cs n = 0 := by rw [depthN, if_neg h]
def dn : List Int := [0, 1]
theorem dn_ok : DagOk (gcs dn) := gcs_ok _ (by decide)
theorem dn_len : (gcs dn).length = 2 := by rw [gcs_length]; rfl
theorem dn_1 : aheadN (gcs dn) 1 = [1] := by decide +kernel
theorem ints_none (w : World) (v : Value) (h : TellsI [] v w) : Calls Tryd.prog 38 #[v, .int .i64 9] w fun e w' => ∃ ao cap, e = .returned (.slice ao 0 cap) ∧ Below w.heap.size w w' := by
  refine (ints_told w [] v h (by decide) 9 (by decide)).mono ?_
  rintro e w' ⟨ao, cap, rfl, -, hb⟩
  exact ⟨ao, cap, rfl, hb⟩
set_option maxHeartbeats 4000000 in
set_option maxRecDepth 100000 in
theorem DagNone_walk {H : Type} {enc : TypeId × Value → H} (W : World) (hM : Mx W) (n : Int) (hwn : (Lit.int .i64 n).wf = true) : Calls Tryd.prog 9 #[.int .i64 n] W fun e W' => e = .returned (.bool true) ∧ Below W.heap.size W W' := by
  have HM := hide hM
  have HN : Hid (I64 n) := hide (wf_range hwn)
  have hrl := Rd_lit W #[.int .i64 0, .int .i64 1] 3 2
  have hb1 := (Below.refl W.heap.size W).alloc (Nat.le_refl _) (.cells #[.int .i64 0, .int .i64 1] 3)
  have hs1 : W.heap.size < (W.alloc (.cells #[.int .i64 0, .int .i64 1] 3)).heap.size := by simp
  have HMD := hide (made11 _ (hM.below hb1 hM.pos) _ dn hrl (fun b hb _ => by cases hb; exact hs1) (by decide) (by decide))
  have HB1 := hide hb1
  clear hM hrl hb1 hs1 hwn
  go_enter Tryd.func9, Tryd.ntmps9
  go_wp2_with fail
  refine HMD.out.mono ?_
  rintro e w2 ⟨p, q, rfl, ht, hb2⟩
  have HG := hide (fun Wx (h : Chg (fun _ => False) w2 Wx) => (ht.same h).is.gets)
  have HB2 := hide (HB1.out.trans (hb2.mono HB1.out.size))
  clear ht hb2 HMD
  go_wp2_with fail
  refine (Low_ok _ n 1000 (by decide) (by decide)).mono ?_
  rintro e w3 ⟨rfl, hw3⟩
  rw [hw3]
  clear hw3
  have hml := low_lt n 1000 (by decide)
  generalize low n 1000 = m at *
  obtain ⟨mm, hmm⟩ : ∃ mm : Int, mm = 3 + (m : Int) := ⟨_, rfl⟩
  have HMI : Hid (I64 mm ∧ I64 (-mm)) := hide (by unfold I64; omega)
  have HOU : Hid (¬ (1 ≤ mm ∧ mm ≤ ((gcs dn).length : Int)) ∧ ¬ (1 ≤ -mm ∧ -mm ≤ ((gcs dn).length : Int))) := hide (by rw [dn_len]; omega)
  have hmb : 3 ≤ mm ∧ mm ≤ 1003 := by omega
  have H1M : Hid (([1] : List Int).contains mm = false) := hide (by simp; omega)
  have HMM := hide hmm
  clear hmm
  go_wp2_with fail
  rw [← HMM.out]
  clear HMM hml
  refine (dag_Ahead w2 (Gets.none w2) n HN.out ok_nil).mono ?_
  rintro e w3 ⟨gv, rfl, ht3, hb3⟩
  rw [ahead_out (by simp; omega)] at ht3
  have HIN := hide (ints_none w3 gv ht3)
  have HC3 := hide (chg_b (Chg.refl _ w2) hb3)
  clear ht3 hb3
  go_wp2_with fail
  refine HIN.out.mono ?_
  rintro e w4 ⟨ao4, cap4, rfl, hb4⟩
  have HC4 := hide (chg_b HC3.out hb4)
  clear hb4 HIN
  go_wp2_with fail
  refine (dag_Is w4 ok_nil (Gets.none w4) n n HN.out).mono ?_
  rintro e w5 ⟨rfl, hb5⟩
  rw [ahead_out (by simp; omega), show ([] : List Int).contains n = false from rfl]
  have HC5 := hide (chg_b HC4.out hb5)
  clear hb5
  go_wp2_with fail
  refine (dag_Depth w5 ok_nil (Gets.none w5) n HN.out).mono ?_
  rintro e w6 ⟨rfl, hb6⟩
  rw [depth_out (by simp; omega)]
  have HC6 := hide (chg_b HC5.out hb6)
  clear hb6
  go_wp2_with fail
  refine (dag_Ahead w6 (HG.out w6 HC6.out) mm HMI.out.1 dn_ok).mono ?_
  rintro e w7 ⟨gv, rfl, ht7, hb7⟩
  rw [ahead_out HOU.out.1] at ht7
  have HIN := hide (ints_none w7 gv ht7)
  have HC7 := hide (chg_b HC6.out hb7)
  clear ht7 hb7
  go_wp2_with fail
  refine HIN.out.mono ?_
  rintro e w8 ⟨ao8, cap8, rfl, hb8⟩
  have HC8 := hide (chg_b HC7.out hb8)
  clear hb8 HIN
  go_wp2_with fail
  refine (dag_Is w8 dn_ok (HG.out w8 HC8.out) mm mm HMI.out.1).mono ?_
  rintro e w9 ⟨rfl, hb9⟩
  rw [ahead_out HOU.out.1, show ([] : List Int).contains mm = false from rfl]
  have HC9 := hide (chg_b HC8.out hb9)
  clear hb9
  go_wp2_with fail
  refine (dag_Is w9 dn_ok (HG.out w9 HC9.out) 1 mm HMI.out.1).mono ?_
  rintro e w10 ⟨rfl, hb10⟩
  rw [ahead_out HOU.out.1, show ([] : List Int).contains 1 = false from rfl]
  have HC10 := hide (chg_b HC9.out hb10)
  clear hb10
  go_wp2_with fail
  refine (dag_Is w10 dn_ok (HG.out w10 HC10.out) mm 1 (by unfold I64; omega)).mono ?_
  rintro e w11 ⟨rfl, hb11⟩
  rw [dn_1, H1M.out]
  have HC11 := hide (chg_b HC10.out hb11)
  clear hb11
  go_wp2_with fail
  refine (dag_Depth w11 dn_ok (HG.out w11 HC11.out) mm HMI.out.1).mono ?_
  rintro e w12 ⟨rfl, hb12⟩
  rw [depth_out HOU.out.1]
  have HC12 := hide (chg_b HC11.out hb12)
  clear hb12
  go_wp2_with fail
  refine (dag_First w12 (HG.out w12 HC12.out) (-mm) HMI.out.2 dn_ok).mono ?_
  rintro e w13 ⟨gv, rfl, ht13, hb13⟩
  rw [firstN_out HOU.out.2] at ht13
  have HIN := hide (ints_none w13 gv ht13)
  have HC13 := hide (chg_b HC12.out hb13)
  clear ht13 hb13
  go_wp2_with fail
  refine HIN.out.mono ?_
  rintro e w14 ⟨ao14, cap14, rfl, hb14⟩
  have HC14 := hide (chg_b HC13.out hb14)
  clear hb14 HIN
  go_wp2_with fail
  have hpo : parN (gcs dn) mm = [] := by unfold parN; rw [if_neg HOU.out.1]
  refine (dag_Parents w14 (HG.out w14 HC14.out) mm HMI.out.1 (by rw [hpo]; simp)).mono ?_
  rintro e w15 ⟨gv, rfl, ht15, hb15⟩
  rw [hpo] at ht15
  have HIN := hide (ints_none w15 gv ht15)
  have HC15 := hide (chg_b HC14.out hb15)
  clear ht15 hb15 hpo
  go_wp2_with fail
  refine HIN.out.mono ?_
  rintro e w16 ⟨ao16, cap16, rfl, hb16⟩
  have HC16 := hide (chg_b HC15.out hb16)
  clear hb16 HIN
  have HB16 := hide (HB2.out.trans (HC16.out.below HB2.out.size (fun _ _ h => h)))
  go_wp2_with fail
  refine (awake11 w16 (HM.out.below HB16.out HM.out.pos)).mono ?_
  rintro e w17 ⟨rfl, hb17⟩
  have HB17 := hide (HB16.out.trans (hb17.mono HB16.out.size))
  clear hb17
  go_wp2_with fail
  go_ret
  exact ⟨rfl, HB17.out⟩
set_option maxRecDepth 100000 in
theorem DagNone_lifted (os : Os) (started : os.Started) (H : Type) (enc : TypeId × Value → H) :
    ReturnsInHanded {} Tryd.checked os 9 .any (fun w args => (Rows.dagNoneSpec.pre enc Tryd.prog Tryd.f9 Rows.dagNoneRow.domain false w args ∧ laidMetH Tryd.prog cardLaid w) ∧ sizedMet enc Tryd.prog Tryd.f9 (OpenSpec.ofChange Rows.dagNoneSpec) false w args) (Rows.dagNoneSpec.post enc Tryd.prog Tryd.f9 false true false false) := by
  refine card_wrap (C := Tryd.checked) (X := fun w => laidMetH Tryd.prog cardLaid w) law_own started (by kernel_rfl) Tryd.func9
    (ChangeSpec.witness_at (enc := enc) (C := Tryd.checked) (os := os) (X := fun w _ => laidMetH Tryd.prog cardLaid w) false (laidWorld os) #[.int .i64 0] 8 rfl (by kernel_rfl) (by kernel_rfl) (by kernel_rfl) (by kernel_rfl) (by kernel_rfl) (laidWorld_met os _)) ?_
  intro W base args ds gs before hval0 hW hsh
  have hM := mx_of_shaped hsh
  have hval : ∀ (j : Nat) t v, Tryd.f9.params[j]? = some t → args[j]? = some v → Value.okWide Tryd.prog W .any base t v := hval0
  have hW' := hW
  obtain ⟨p, q, hA0, hV, rfl, hfz, hnd⟩ := hW
  have hA : DataW.TrodAll enc Tryd.prog W 0 (fun _ => true) true Tryd.f9.params.toList args.toList ds p := hA0
  rw [Tryd.params9] at hA hval
  obtain ⟨v0, vs0, d0, ds0, p0, q0, hargs, rfl, rfl, h0, r0⟩ := trodAll_cons hA
  obtain ⟨rfl, rfl, rfl⟩ := trodAll_nil r0
  obtain rfl : args = #[v0] := by cases args; simp_all
  obtain ⟨rfl, rfl⟩ := trodVars_none hV
  have k0 := h0
  have lt0 : ∀ x ∈ p0, x.block < W.heap.size := by obtain ⟨m, hm⟩ := k0; exact DataW.trod_lt m _ _ _ hm
  obtain ⟨a0, rfl, rfl, rfl, w0⟩ := open_int Tryd.underlying3 (hval 0 3 v0 rfl rfl) h0
  clear hA0 hval0
  refine (DagNone_walk (enc := enc) W hM a0 w0).mono fun e W' ⟨he, bel⟩ => ?_
  subst he
  exact ⟨_, rfl, _, _, _, [], _, [], hW', trodAll_mk1 (shut_bool Tryd.underlying4 _), (trodAll_cons_mk (Below.trod law_laid (by kernel_rfl) (of_decide_eq_true (by kernel_rfl)) k0 bel lt0) trodAll_mk0), rfl, bel.frame _, fun h => by cases h⟩

theorem DagNone_over : Rows.dagNoneRow.holds Tryd.pinned (OpenSpec.ofChange Rows.dagNoneSpec) :=
  OpenClaim.holds_of_wide 9 Tryd.f9 rfl rfl rfl rfl rfl rfl rfl ⟨rfl, rfl, rfl, rfl, rfl⟩ rfl rfl rfl rfl rfl (by kernel_rfl) Tryd.func9 (by kernel_rfl)
    (of_decide_eq_true (by kernel_rfl)) (by unfold Func.isWrapper; first | (rw [if_pos (by decide +kernel)]; kernel_rfl) | (rw [if_neg (by decide +kernel)]; exact ⟨rfl, rfl⟩))
    (fun os started H enc _ => DagNone_lifted os started H enc)

theorem DagNone_params : ∀ (j : Nat) t, Tryd.f9.params[j]? = some t → Tryd.prog.wantsStandIn t = false := by
  intro j t ht
  rw [Tryd.params9] at ht
  have hm : t ∈ ([3] : List TypeId) := List.mem_of_getElem? (i := j) (by simpa using ht)
  simp only [List.mem_cons, List.not_mem_nil, or_false] at hm
  subst hm
  exact (show Tryd.prog.wantsStandIn 3 = false by kernel_rfl)
theorem DagNone_holds : Rows.DagNoneCardSaid :=
  Claim7.holds_tied_plain_at .later [] [.data, .pinned] true (true, "b8549941136c75f2c554eaf403c37bf8f3fce9d6a3edd6b504917a752e07b547") false
    DagNone_over (fun _ h => by cases h) (by kernel_rfl) (fun _ h => by cases h) dagNone_row_tie rfl ⟨rfl, rfl⟩ (by kernel_rfl) rfl
    (fun f fn hf hfn => by
      obtain rfl : f = 9 := Option.some.inj ((show Tryd.prog.funcNamed "cortege/cortegelaw11.DagNone" = some 9 by kernel_rfl).symm.trans hf) |>.symm
      obtain rfl : fn = Tryd.f9 := (Option.some.inj (Tryd.func9.symm.trans hfn)).symm
      exact ⟨by kernel_rfl, DagNone_params⟩)
    (by kernel_rfl)
#print axioms DagNone_holds

end Go.Proofs.YtnnkbicaokckbaaDoor
