/- LaneRoom: as many wait as may, one more does not; one closed makes room, till there are as many as there may be. Conditions: none. -/
import Derived.Test.YtjgcicpclojfgaaRows
import Derived.WalkKit
import Derived.ProofKit
import Derived.OpenShut
import Derived.ShutString
import Derived.ChangeOld
import Derived.Below
import Derived.Test.YtjgcicpclojfgaaLaneP
namespace Go.Proofs.Ytjgcicpclojfgaa
open Go.ChangeShapes Go.WideShapes Go.ChangeAt Go.RowKit
open Go.ChangeMaps (open_string shut_string)
set_option linter.unusedVariables false

theorem law_own : ownKnob Try.prog.godebug = none := by kernel_rfl
theorem law_laid : laidOutB Try.prog = true := by kernel_rfl
open Go.Shelf

def RoomAt (W : World) (lp P j : Nat) (wr : World) : Prop :=
  ∃ aa acap all p ao cap, LaneAt W.heap.size wr lp P 1 aa acap all p ao cap (run (j - min j P) (min j P)) ∧ all.length = j ∧ Below W.heap.size W wr

set_option maxRecDepth 100000 in
set_option maxHeartbeats 4000000 in
theorem LaneRoom_walk {H : Type} {enc : TypeId × Value → H} (W : World) (x : Int) (hx : (Lit.int .i64 x).wf = true) :
    Calls Try.prog 9 #[.int .i64 x] W fun e W' => e = .returned (.bool true) ∧ Below W.heap.size W W' := by
  clear hx
  go_enter Try.func9, Try.ntmps9
  go_wp2_with fail
  refine (Low_ok _ x 8 (by omega) (by omega)).mono ?_
  rintro e w5 ⟨rfl, hw⟩
  subst w5
  have hlow := low_lt x 8 (by omega)
  obtain ⟨q, hq⟩ : ∃ q, q = low x 8 := ⟨_, rfl⟩
  rw [← hq] at hlow ⊢
  clear hq
  obtain ⟨P, hP⟩ : ∃ P : Nat, P = 1 + q := ⟨_, rfl⟩
  have a0 : IntKind.i64.wrap (1 + (q : Int)) = (P : Int) := by rw [IntWalk.i64_in _ (by omega)]; omega
  have HP : Hid (1 ≤ P ∧ P ≤ 8) := (show 1 ≤ P ∧ P ≤ 8 by omega)
  clear hP hlow
  go_wp2_with fail
  refine (lane_New _ P 1 (by have := HP.out; omega) (by have := HP.out; omega) (by omega) (by omega)).mono ?_
  rintro e w1 ⟨lp, p, rfl, h1, hb1⟩
  have H0 : Hid (RoomAt W lp P 0 w1) := ⟨_, _, [], _, _, _, h1, rfl, hb1⟩
  clear h1 hb1 a0
  go_wp2_with fail
  go_loopw [4] (fun i wr => ∃ k : Nat, 1 ≤ k ∧ k ≤ 61 ∧ i = .int .i64 k ∧ Hid (RoomAt W lp P (k - 1) wr)) (fun i _ => 61 - (intOf i).toNat)
  case atStart => exact ⟨1, by omega, by omega, rfl, H0.out⟩
  case round =>
    obtain ⟨k, hk1, hk2, rfl, HR⟩ := hrel
    obtain ⟨j, rfl⟩ : ∃ j, k = j + 1 := ⟨k - 1, by omega⟩
    rw [Nat.add_sub_cancel] at HR
    obtain ⟨k, hk⟩ : ∃ k, k = j + 1 := ⟨_, rfl⟩
    rw [← hk] at hk1 hk2 ⊢
    have HK := hide hk
    obtain ⟨aa, acap, all, p, ao, cap, h, hal, hb⟩ := HR.out
    have H := hide h
    have HAL := hide hal
    have HB := hide hb
    have hki : (k : Int) = (j : Int) + 1 := by omega
    have HKI := hide hki
    clear h hal hb hki hk HR
    by_cases hlt : k ≤ 60
    · by_cases hp : P < k
      · obtain ⟨a, ha⟩ : ∃ a, j = a + P := ⟨j - P, by have := HK.out; omega⟩
        obtain ⟨P', hP'⟩ : ∃ P', P = P' + 1 := ⟨P - 1, by have := HP.out; omega⟩
        have HA0 := hide ha
        have HP' := hide hP'
        have d1 : decide ((k : Int) > P) = true := decide_eq_true (by omega)
        have e1 : (all.length : Int) + 1 = k := by rw [HAL.out, HKI.out]
        have hmin : min (k : Int) P = P := by omega
        have hjm : run (j - min j P) (min j P) = run a P := by rw [show min j P = P by omega, show j - P = a by omega]
        have a3 : IntKind.i64.wrap ((k : Int) - P) = (a : Int) + 1 := by rw [IntWalk.i64_in _ (by omega)]; have := HKI.out; omega
        have hF := lane_Add_full wr k 0 H.out (by omega) (.inl (by rw [hjm, run_length]; omega))
        have HF := hide hF
        have hC := fun n => lane_Close (wr.drewN n) a 10 (H.out.drewN n) (by omega) (by rw [HAL.out]; have := HP.out; omega) (by rw [hjm, run_any]; have := HP.out; simp; omega)
        have HC := hide hC
        have HJM := hide hjm
        clear hF hC hjm ha hP' e1
        go_wp2_with fail
        refine HF.out.mono ?_
        rintro e w2 ⟨rfl, n2, rfl⟩
        go_wp2_with fail
        refine (HC.out n2).mono ?_
        rintro e w2 ⟨rfl, hg⟩
        obtain ⟨aa1, acap1, p1, ao1, cap1, h1, hb1⟩ := hg.at HB.out.size (fun k hk => (H.out.lt k hk).1)
        rw [HJM.out, HP'.out, run_first, ← HP'.out] at h1
        have H1 := hide h1
        have HB1 := hide (HB.out.trans (below_of_drewN hb1))
        have HA1 : Hid ((setCode all a 10).length = j) := (setCode_length _ _ _).trans HAL.out
        clear h1 hb1 hg HF HC
        have e1 : ((setCode all a 10).length : Int) + 1 = k := by rw [HA1.out, HKI.out]
        have hA := lane_Add w2 k 0 H1.out (by omega) (by rw [run_length]; have := HP'.out; omega) (by have := HP.out; omega) (by rw [HA1.out]; have := HK.out; omega)
        rw [e1] at hA
        have HA := hide hA
        clear hA e1
        go_wp2_with fail
        refine HA.out.mono ?_
        rintro e w3 ⟨rfl, hg⟩
        obtain ⟨aa2, acap2, p2, ao2, cap2, h2, hb2⟩ := hg.at HB1.out.size (fun k hk => (H1.out.lt k hk).1)
        rw [HKI.out, show (⟨(j : Int) + 1, (j : Int) + 1, 0, 7⟩ : En) = eR (a + 1 + P') by have e1 := HA0.out; have e2 := HP'.out; simp [eR]; omega, run_ins, ← HP'.out] at h2
        have H2 := hide h2
        have HB2 := hide (HB1.out.trans hb2)
        clear h2 hb2 hg HA
        go_wp2_with fail
        have hL := lane_Len w3 H2.out
        rw [run_length] at hL
        have HL := hide hL
        clear hL
        refine HL.out.mono ?_
        rintro e w4 ⟨rfl, rfl⟩
        go_wp2_with fail
        go_roundw
        case rel =>
          refine ⟨k + 1, by omega, by omega, by go_num, ?_⟩
          refine ⟨aa2, acap2, setCode all a 10 ++ [eR (a + 1 + P')], p2, ao2, cap2, ?_, ?_, HB2.out⟩
          rotate_left
          · have h1 := HAL.out; have h2 := HK.out; have h4 := HA1.out; simp; omega
          · have e1 : k + 1 - 1 - min (k + 1 - 1) P = a + 1 := by have h2 := HK.out; have h3 := HA0.out; omega
            have e2 : min (k + 1 - 1) P = P := by have h2 := HK.out; have h3 := HA0.out; omega
            rw [e1, e2]
            exact H2.out
        case measure => simp [intOf]; omega
      · have d1 : decide ((k : Int) > P) = false := decide_eq_false (by omega)
        have e1 : (all.length : Int) + 1 = k := by rw [HAL.out, HKI.out]
        have hmin : min (k : Int) P = k := by omega
        have hjm : min j P = j := by have := HK.out; omega
        have hA := lane_Add wr k 0 H.out (by omega) (by rw [run_length]; have := HK.out; omega) (by have := HP.out; omega) (by rw [HAL.out]; have := HK.out; omega)
        rw [e1] at hA
        have HA := hide hA
        clear hA e1 hp
        go_wp2_with fail
        refine HA.out.mono ?_
        rintro e w2 ⟨rfl, hg⟩
        obtain ⟨aa2, acap2, p2, ao2, cap2, h2, hb2⟩ := hg.at HB.out.size (fun k hk => (H.out.lt k hk).1)
        rw [hjm, Nat.sub_self, HKI.out] at h2
        rw [show (⟨(j : Int) + 1, (j : Int) + 1, 0, 7⟩ : En) = eR (0 + j) by simp [eR], run_ins] at h2
        have H2 := hide h2
        have HB2 := hide (HB.out.trans hb2)
        clear h2 hb2 hg HA
        go_wp2_with fail
        have hL := lane_Len w2 H2.out
        rw [run_length, ← HK.out] at hL
        have HL := hide hL
        clear hL
        refine HL.out.mono ?_
        rintro e w3 ⟨rfl, rfl⟩
        go_wp2_with fail
        go_roundw
        case rel =>
          refine ⟨k + 1, by omega, by omega, by go_num, ?_⟩
          refine ⟨aa2, acap2, all ++ [eR (0 + j)], p2, ao2, cap2, ?_, ?_, HB2.out⟩
          rotate_left
          · have h1 := HAL.out; have h2 := HK.out; simp ; omega
          · have e1 : k + 1 - 1 - min (k + 1 - 1) P = 0 := by have h2 := HK.out; have h3 := HP.out; omega
            have e2 : min (k + 1 - 1) P = j + 1 := by have h2 := HK.out; have h3 := HP.out; omega
            rw [e1, e2]
            exact H2.out
        case measure => simp [intOf]; omega
    · obtain rfl : k = 61 := by omega
      obtain rfl : j = 60 := by have := HK.out; omega
      have d0 : decide (((61 : Nat) : Int) ≤ 60) = false := rfl
      have hC := lane_Close wr 59 11 H.out (by omega) (by rw [HAL.out]; omega) (by rw [run_any]; have := HP.out; simp; omega)
      have HC : Hid (Calls Try.prog 41 #[.pointer (some ⟨lp, 0, none⟩), .int .i64 60, .int .i64 11] wr fun e w' => ∃ wt, e = .returned (.bool true) ∧ LGrew W.heap.size wr lp P 1 aa p ao (setCode all 59 11) wt w') := hC.mono (fun e w' h => ⟨_, h.1, h.2⟩)
      clear hC
      go_wp2_with fail
      refine HC.out.mono ?_
      rintro e w2 ⟨wt, rfl, hg⟩
      obtain ⟨aa1, acap1, p1, ao1, cap1, h1, hb1⟩ := hg.at HB.out.size (fun k hk => (H.out.lt k hk).1)
      have H1 := hide h1
      have HB1 := hide (HB.out.trans hb1)
      clear h1 hb1 hg HC
      go_wp2_with fail
      refine (lane_Add_full w2 1 0 H1.out (by omega) (.inr (by rw [setCode_length, HAL.out]; omega))).mono ?_
      rintro e w3 ⟨rfl, n3, rfl⟩
      go_wp2_with fail
      refine (lane_Add_arg (w2.drewN n3) 0 0 (H1.out.drewN n3) (by omega)).mono ?_
      rintro e w4 ⟨rfl, rfl⟩
      go_wp2_with fail
      refine (lane_Add_arg (w2.drewN n3) 1 1 (H1.out.drewN n3) (by omega)).mono ?_
      rintro e w4 ⟨rfl, rfl⟩
      go_wp2_with fail
      refine (awake20 _).mono ?_
      rintro e w10 ⟨rfl, hb10⟩
      have HB10 := hide (HB1.out.trans ((below_of_drewN hb10).mono HB1.out.size))
      clear hb10
      go_wp2_with fail
      go_ret
      exact ⟨rfl, HB10.out⟩

set_option maxRecDepth 100000 in
theorem LaneRoom_lifted (os : Os) (started : os.Started) (H : Type) (enc : TypeId × Value → H) :
    ReturnsInHanded {} Try.checked os 9 .any (Rows.laneRoomSpec.pre6 enc Try.prog Try.f9 Rows.laneRoomRow.domain false) (Rows.laneRoomSpec.post enc Try.prog Try.f9 false true false false) := by
  refine returnsInHanded_of_change (C := Try.checked) law_own started (by kernel_rfl) Try.func9
    (ChangeSpec.witness6 (enc := enc) (C := Try.checked) false ⟨#[], #[.int .i64 0], []⟩ 8 (by kernel_rfl) (by kernel_rfl) (by kernel_rfl) (by kernel_rfl)) ?_
  intro W base args ds gs before hval0 hW hcnd _
  have hval : ∀ (j : Nat) t v, Try.f9.params[j]? = some t → args[j]? = some v → Value.okWide Try.prog W .any base t v := hval0
  have hW' := hW
  obtain ⟨p, q, hA0, hV, rfl, hfz, hnd⟩ := hW
  have hA : DataW.TrodAll enc Try.prog W 0 (fun _ => true) true Try.f9.params.toList args.toList ds p := hA0
  rw [Try.params9] at hA hval
  obtain ⟨v0, vs0, d0, ds0, p0, q0, hargs, rfl, rfl, h0, r0⟩ := trodAll_cons hA
  obtain ⟨rfl, rfl, rfl⟩ := trodAll_nil r0
  obtain rfl : args = #[v0] := by cases args; simp_all
  obtain ⟨rfl, rfl⟩ := trodVars_none hV
  have k0 := h0
  have lt0 : ∀ x ∈ p0, x.block < W.heap.size := by obtain ⟨m, hm⟩ := k0; exact DataW.trod_lt m _ _ _ hm
  obtain ⟨a0, rfl, rfl, rfl, w0⟩ := open_int Try.underlying3 (hval 0 3 v0 rfl rfl) h0
  clear hA0 hval0
  refine (LaneRoom_walk (enc := enc) W a0 w0).mono fun e W' ⟨he, bel⟩ => ?_
  subst he
  exact ⟨_, rfl, _, _, _, [], _, [], hW', trodAll_mk1 (shut_bool Try.underlying4 _), (trodAll_cons_mk (Below.trod law_laid (by kernel_rfl) (of_decide_eq_true (by kernel_rfl)) k0 bel lt0) trodAll_mk0), rfl, bel.frame _, fun h => by cases h⟩

theorem LaneRoom_over : Rows.laneRoomRow.holds Try.pinned (OpenSpec.ofChange Rows.laneRoomSpec) :=
  OpenClaim.holds_of_wide 9 Try.f9 rfl rfl rfl rfl rfl rfl rfl ⟨rfl, rfl, rfl, rfl, rfl⟩ rfl rfl rfl rfl rfl (by kernel_rfl) Try.func9 (by kernel_rfl)
    (of_decide_eq_true (by kernel_rfl)) (by unfold Func.isWrapper; first | (rw [if_pos (by decide +kernel)]; kernel_rfl) | (rw [if_neg (by decide +kernel)]; exact ⟨rfl, rfl⟩))
    (fun os started H enc _ => LaneRoom_lifted os started H enc)

theorem LaneRoom_holds : Rows.LaneRoomSaid := LaneRoom_over
#print axioms LaneRoom_holds

end Go.Proofs.Ytjgcicpclojfgaa
