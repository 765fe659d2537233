/- RepoRoom: as many as there is room for are put in, one more is not; a copy with more room takes it. Conditions: none. -/
import Derived.Test.YtnnkbicaokckbaaDoorRows
import Derived.Test.YtnnkbicaokckbaaDoorTie
import Derived.Test.YtnnkbicaokckbaaDoorCards
import Derived.Test.YtnnkbicaokckbaaDoorCardB
import Derived.SevenTiedAt
import Derived.Test.YtnnkbicaokckbaaDoorRpN
import Derived.Test.YtnnkbicaokckbaaDoorRpZ
import Derived.Test.YtnnkbicaokckbaaDoorLow
namespace Go.Proofs.YtnnkbicaokckbaaDoor
open Go.ChangeShapes Go.WideShapes Go.ChangeAt Go.RowKit
open Go.ChangeMaps (open_string shut_string)
set_option linter.unusedVariables false
open Go.Shelf

theorem val_new (b : ByteArray) : CmV.val ⟨⟨[], [], b⟩, .slice none 0 0, .slice none 0 0⟩ = .agg #[.slice none 0 0, .slice none 0 0, .string b] := rfl
set_option maxHeartbeats 4000000 in
set_option maxRecDepth 100000 in
theorem RepoRoom_walk {H : Type} {enc : TypeId × Value → H} (W : World) (hM : Mx W) (room : Int) (_ : (Lit.int .i64 room).wf = true) (more : Int) (_ : (Lit.int .i64 more).wf = true) : Calls Tryd.prog 4 #[.int .i64 room, .int .i64 more] W fun e W' => e = .returned (.bool true) ∧ Below W.heap.size W W' := by
  have HM := hide hM
  clear hM
  go_enter Tryd.func4, Tryd.ntmps4
  go_wp2_with fail
  refine (Low_ok W room 125 (by decide) (by decide)).mono ?_
  rintro e w1 ⟨rfl, hw1⟩
  rw [hw1]
  clear hw1
  have hrl := low_lt room 125 (by decide)
  generalize low room 125 = r at *
  go_wp2_with fail
  refine (Low_ok _ more 10 (by decide) (by decide)).mono ?_
  rintro e w2 ⟨rfl, hw2⟩
  rw [hw2]
  clear hw2
  have hml := low_lt more 10 (by decide)
  generalize low more 10 = m at *
  go_wp2_with fail
  refine (RepoIs.new _ (r : Int) (by omega)).mono ?_
  rintro e w2 ⟨rfl, h2, hb2⟩
  obtain ⟨most, hmost⟩ : ∃ most : Nat, most = min r 120 := ⟨_, rfl⟩
  have hm1 : min (max (r : Int) 0) 120 = (most : Int) := by omega
  have hm2 : min (r : Int) 120 = (most : Int) := by omega
  rw [hm1] at h2
  have H2 := hide h2
  have HB2 := hide hb2
  have HMO := hide hmost
  have hmb : most ≤ 120 := by omega
  clear h2 hb2 hm1 hmost
  go_wp2_with fail
  go_loopw [7] (fun i wr => ∃ k : Nat, k ≤ most ∧ i = .int .i64 ((k : Int) + 1) ∧ Hid (RepoIs W.heap.size wr W.heap.size (ncs k) most) ∧ Hid (Below W.heap.size W wr)) (fun i _ => most + 1 - (intOf i).toNat)
  case atStart => exact ⟨0, Nat.zero_le _, rfl, H2.out, HB2.out⟩
  case round =>
    obtain ⟨k, hk, rfl, HR, HB⟩ := hrel
    obtain ⟨wo, rfl⟩ : ∃ wo : World, wo = wr := ⟨_, rfl⟩
    by_cases hkm : k < most
    · have hle : decide ((k : Int) + 1 ≤ (most : Int)) = true := decide_eq_true (by omega)
      have HNT := hide (note_ok wo (k + 1) (by omega))
      have e1 : ((k + 1 : Nat) : Int) = (k : Int) + 1 := by omega
      rw [e1] at HNT
      clear e1
      go_wp2_with fail
      refine HNT.out.mono ?_
      rintro e w3 ⟨rfl, n3, hw3⟩
      have hc3 : Chg (fun _ => False) wo w3 := by rw [hw3]; exact Chg.drewN _ _ _
      have hb3 : Below W.heap.size W w3 := by rw [hw3]; exact bdrewN HB.out n3
      have hadd := (HR.out.same hc3).add (HM.out.below hb3 HM.out.pos) ⟨nc (k + 1), .slice none 0 0, .slice none 0 0⟩ (note_cv _ _) (note_few _) (by rw [ncs_len]; omega)
      have hnc := add_nc (k := k) (room := (most : Int)) (by omega) (by omega)
      simp only [hnc.1, hnc.2] at hadd
      have HADD : Hid (Calls Tryd.prog 18 #[.pointer (some ⟨W.heap.size, 0, none⟩), .agg #[.slice none 0 0, .slice none 0 0, .string (noteB (k + 1))]] w3 _) := hide hadd
      have HB3 := hide hb3
      clear hadd hnc hc3 hb3 hw3
      go_wp2_with fail
      refine HADD.out.mono ?_
      rintro e w4 ⟨rfl, hr4, hb4⟩
      have HR4 := hide hr4
      have HB4 := hide (HB3.out.trans hb4)
      clear hr4 hb4
      go_wp2_with fail
      go_roundw
      case rel => exact ⟨k + 1, by omega, by go_num, HR4, HB4⟩
      case measure => simp [intOf]; omega
    · obtain rfl : k = most := by omega
      have hle : decide ((k : Int) + 1 ≤ (k : Int)) = false := decide_eq_false (by omega)
      have hadd := HR.out.add (HM.out.below HB.out HM.out.pos) ⟨newC, .slice none 0 0, .slice none 0 0⟩ (note_cv _ _) (note_few _) (by rw [ncs_len]; omega)
      have hnc := add_new (k := k) (room := (k : Int)) (by omega)
      simp only [hnc.1, hnc.2, Int.le_refl, if_true] at hadd
      have HADD : Hid (Calls Tryd.prog 18 #[.pointer (some ⟨W.heap.size, 0, none⟩), .agg #[.slice none 0 0, .slice none 0 0, .string ⟨#[110, 101, 119]⟩]] wo _) := hide hadd
      clear hadd hnc
      go_wp2_with fail
      refine HADD.out.mono ?_
      rintro e w4 ⟨rfl, hr4, hb4⟩
      have HR4 := hide hr4
      have HB4 := hide (HB.out.trans hb4)
      have HLE4 := hide hr4.lenC
      rw [ncs_len] at HLE4
      have HCP := hide (hr4.copy (m : Int) (by omega))
      obtain ⟨r2, hr2⟩ : ∃ r2 : Int, r2 = min ((k : Int) + min (max (m : Int) 0) 120) 120 := ⟨_, rfl⟩
      rw [← hr2] at HCP
      have HR2 := hide hr2
      clear hr4 hb4 hr2
      go_wp2_with fail
      refine HLE4.out.mono ?_
      rintro e w5 ⟨rfl, hw5⟩
      rw [hw5]
      clear hw5
      go_wp2_with fail
      refine HCP.out.mono ?_
      rintro e w6 ⟨rfl, hr6, hb6⟩
      have HB6 := hide (HB4.out.trans (hb6.mono HB4.out.size))
      have hadd := hr6.add (HM.out.below HB6.out HM.out.pos) ⟨newC, .slice none 0 0, .slice none 0 0⟩ (note_cv _ _) (note_few _) (by rw [ncs_len]; omega)
      have hnc := add_new (k := k) (room := r2) (by omega)
      rw [HR2.out] at hnc
      rw [HR2.out] at hadd
      clear hr6 HADD HLE4 HCP
      by_cases hboth : 0 < m ∧ k < 120
      · have hnot : ¬ (min ((k : Int) + min (max (m : Int) 0) 120) 120 ≤ (k : Int)) := by omega
        simp only [hnc.1, hnc.2, if_neg hnot] at hadd
        have HADD : Hid (Calls Tryd.prog 18 #[.pointer (some ⟨w4.heap.size, 0, none⟩), .agg #[.slice none 0 0, .slice none 0 0, .string ⟨#[110, 101, 119]⟩]] w6 _) := hide hadd
        have d1 : decide (0 < m) = true := decide_eq_true hboth.1
        have d2 : decide (k < 120) = true := decide_eq_true hboth.2
        have hm0 := hboth.1
        have hk0 := hboth.2
        have HB64 := hide hb6
        clear hadd hnc hnot hboth hb6
        go_wp2_with fail
        refine HADD.out.mono ?_
        rintro e w7 ⟨rfl, hr7, hb7⟩
        have HB7 := hide (HB6.out.trans (hb7.mono HB4.out.size))
        have hlen7 := (HR4.out.same (Chg.of_below0 (HB64.out.trans hb7))).lenC
        rw [ncs_len] at hlen7
        have HLE7 := hide hlen7
        clear hr7 hb7 hlen7
        go_wp2_with fail
        refine HLE7.out.mono ?_
        rintro e w8 ⟨rfl, hw8⟩
        rw [hw8]
        clear hw8
        go_wp2_with fail
        refine (awake10 _ (HM.out.below HB7.out HM.out.pos)).mono ?_
        rintro e w9 ⟨rfl, hb9⟩
        have HB9 := hide (HB7.out.trans (hb9.mono HB7.out.size))
        clear hb9
        go_wp2_with fail
        go_ret
        exact ⟨rfl, HB9.out⟩
      · have hyes : min ((k : Int) + min (max (m : Int) 0) 120) 120 ≤ (k : Int) := by omega
        simp only [hnc.1, hnc.2, if_pos hyes] at hadd
        have HADD : Hid (Calls Tryd.prog 18 #[.pointer (some ⟨w4.heap.size, 0, none⟩), .agg #[.slice none 0 0, .slice none 0 0, .string ⟨#[110, 101, 119]⟩]] w6 _) := hide hadd
        have HBO := hide hboth
        clear hadd hnc hyes hboth
        by_cases hm0 : 0 < m
        · have d1 : decide ((m : Int) > 0) = true := decide_eq_true (by omega)
          have d2 : decide ((k : Int) < 120) = false := decide_eq_false (by have := HBO.out; omega)
          go_wp2_with fail
          refine HADD.out.mono ?_
          rintro e w7 ⟨rfl, hr7, hb7⟩
          have HB7 := hide (HB6.out.trans (hb7.mono HB4.out.size))
          clear hr7 hb7
          go_wp2_with fail
          refine (awake10 _ (HM.out.below HB7.out HM.out.pos)).mono ?_
          rintro e w9 ⟨rfl, hb9⟩
          have HB9 := hide (HB7.out.trans (hb9.mono HB7.out.size))
          clear hb9
          go_wp2_with fail
          go_ret
          exact ⟨rfl, HB9.out⟩
        · have d1 : decide ((m : Int) > 0) = false := decide_eq_false (by omega)
          go_wp2_with fail
          refine HADD.out.mono ?_
          rintro e w7 ⟨rfl, hr7, hb7⟩
          have HB7 := hide (HB6.out.trans (hb7.mono HB4.out.size))
          clear hr7 hb7
          go_wp2_with fail
          refine (awake10 _ (HM.out.below HB7.out HM.out.pos)).mono ?_
          rintro e w9 ⟨rfl, hb9⟩
          have HB9 := hide (HB7.out.trans (hb9.mono HB7.out.size))
          clear hb9
          go_wp2_with fail
          go_ret
          exact ⟨rfl, HB9.out⟩
set_option maxRecDepth 100000 in
theorem RepoRoom_lifted (os : Os) (started : os.Started) (H : Type) (enc : TypeId × Value → H) :
    ReturnsInHanded {} Tryd.checked os 4 .any (fun w args => (Rows.repoRoomSpec.pre enc Tryd.prog Tryd.f4 Rows.repoRoomRow.domain false w args ∧ laidMetH Tryd.prog cardLaid w) ∧ sizedMet enc Tryd.prog Tryd.f4 (OpenSpec.ofChange Rows.repoRoomSpec) false w args) (Rows.repoRoomSpec.post enc Tryd.prog Tryd.f4 false true false false) := by
  refine card_wrap (C := Tryd.checked) (X := fun w => laidMetH Tryd.prog cardLaid w) law_own started (by kernel_rfl) Tryd.func4
    (ChangeSpec.witness_at (enc := enc) (C := Tryd.checked) (os := os) (X := fun w _ => laidMetH Tryd.prog cardLaid w) false (laidWorld os) #[.int .i64 0, .int .i64 0] 8 rfl (by kernel_rfl) (by kernel_rfl) (by kernel_rfl) (by kernel_rfl) (by kernel_rfl) (laidWorld_met os _)) ?_
  intro W base args ds gs before hval0 hW hsh
  have hM := mx_of_shaped hsh
  have hval : ∀ (j : Nat) t v, Tryd.f4.params[j]? = some t → args[j]? = some v → Value.okWide Tryd.prog W .any base t v := hval0
  have hW' := hW
  obtain ⟨p, q, hA0, hV, rfl, hfz, hnd⟩ := hW
  have hA : DataW.TrodAll enc Tryd.prog W 0 (fun _ => true) true Tryd.f4.params.toList args.toList ds p := hA0
  rw [Tryd.params4] at hA hval
  obtain ⟨v0, vs0, d0, ds0, p0, q0, hargs, rfl, rfl, h0, r0⟩ := trodAll_cons hA
  obtain ⟨v1, vs1, d1, ds1, p1, q1, rfl, rfl, rfl, h1, r1⟩ := trodAll_cons r0
  obtain ⟨rfl, rfl, rfl⟩ := trodAll_nil r1
  obtain rfl : args = #[v0, v1] := by cases args; simp_all
  obtain ⟨rfl, rfl⟩ := trodVars_none hV
  have k0 := h0
  have lt0 : ∀ x ∈ p0, x.block < W.heap.size := by obtain ⟨m, hm⟩ := k0; exact DataW.trod_lt m _ _ _ hm
  obtain ⟨a0, rfl, rfl, rfl, w0⟩ := open_int Tryd.underlying3 (hval 0 3 v0 rfl rfl) h0
  have k1 := h1
  have lt1 : ∀ x ∈ p1, x.block < W.heap.size := by obtain ⟨m, hm⟩ := k1; exact DataW.trod_lt m _ _ _ hm
  obtain ⟨a1, rfl, rfl, rfl, w1⟩ := open_int Tryd.underlying3 (hval 1 3 v1 rfl rfl) h1
  clear hA0 hval0
  refine (RepoRoom_walk (enc := enc) W hM a0 w0 a1 w1).mono fun e W' ⟨he, bel⟩ => ?_
  subst he
  exact ⟨_, rfl, _, _, _, [], _, [], hW', trodAll_mk1 (shut_bool Tryd.underlying4 _), (trodAll_cons_mk (Below.trod law_laid (by kernel_rfl) (of_decide_eq_true (by kernel_rfl)) k0 bel lt0) (trodAll_cons_mk (Below.trod law_laid (by kernel_rfl) (of_decide_eq_true (by kernel_rfl)) k1 bel lt1) trodAll_mk0)), rfl, bel.frame _, fun h => by cases h⟩

theorem RepoRoom_over : Rows.repoRoomRow.holds Tryd.pinned (OpenSpec.ofChange Rows.repoRoomSpec) :=
  OpenClaim.holds_of_wide 4 Tryd.f4 rfl rfl rfl rfl rfl rfl rfl ⟨rfl, rfl, rfl, rfl, rfl⟩ rfl rfl rfl rfl rfl (by kernel_rfl) Tryd.func4 (by kernel_rfl)
    (of_decide_eq_true (by kernel_rfl)) (by unfold Func.isWrapper; first | (rw [if_pos (by decide +kernel)]; kernel_rfl) | (rw [if_neg (by decide +kernel)]; exact ⟨rfl, rfl⟩))
    (fun os started H enc _ => RepoRoom_lifted os started H enc)

theorem RepoRoom_params : ∀ (j : Nat) t, Tryd.f4.params[j]? = some t → Tryd.prog.wantsStandIn t = false := by
  intro j t ht
  rw [Tryd.params4] at ht
  have hm : t ∈ ([3, 3] : List TypeId) := List.mem_of_getElem? (i := j) (by simpa using ht)
  simp only [List.mem_cons, List.not_mem_nil, or_false] at hm
  rcases hm with h | h
  · subst h; exact (show Tryd.prog.wantsStandIn 3 = false by kernel_rfl)
  · subst h; exact (show Tryd.prog.wantsStandIn 3 = false by kernel_rfl)
theorem RepoRoom_holds : Rows.RepoRoomCardSaid :=
  Claim7.holds_tied_plain_at .later [] [.data, .pinned] true (true, "b8549941136c75f2c554eaf403c37bf8f3fce9d6a3edd6b504917a752e07b547") false
    RepoRoom_over (fun _ h => by cases h) (by kernel_rfl) (fun _ h => by cases h) repoRoom_row_tie rfl ⟨rfl, rfl⟩ (by kernel_rfl) rfl
    (fun f fn hf hfn => by
      obtain rfl : f = 4 := Option.some.inj ((show Tryd.prog.funcNamed "cortege/cortegelaw10.RepoRoom" = some 4 by kernel_rfl).symm.trans hf) |>.symm
      obtain rfl : fn = Tryd.f4 := (Option.some.inj (Tryd.func4.symm.trans hfn)).symm
      exact ⟨by kernel_rfl, RepoRoom_params⟩)
    (by kernel_rfl)
#print axioms RepoRoom_holds

end Go.Proofs.YtnnkbicaokckbaaDoor
