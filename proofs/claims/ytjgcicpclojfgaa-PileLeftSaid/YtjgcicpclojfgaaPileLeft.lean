/- PileLeft: a pile that is gone through, and left early, is as it was. Conditions: none. -/
import Derived.Test.YtjgcicpclojfgaaRows
import Derived.WalkKit
import Derived.ProofKit
import Derived.OpenShut
import Derived.ShutString
import Derived.ChangeOld
import Derived.Below
import Derived.Test.YtjgcicpclojfgaaPileB
namespace Go.Proofs.Ytjgcicpclojfgaa
open Go.ChangeShapes Go.WideShapes Go.ChangeAt Go.RowKit
open Go.ChangeMaps (open_string shut_string)
set_option linter.unusedVariables false

theorem law_own : ownKnob Try.prog.godebug = none := by kernel_rfl
theorem law_laid : laidOutB Try.prog = true := by kernel_rfl
open Go.Shelf

theorem foldl_ins_length {α : Type} (lt : α → α → Bool) (ys l0 : List α) : (ys.foldl (ins lt) l0).length = l0.length + ys.length := by
  induction ys generalizing l0 with
  | nil => simp
  | cons y ys ih => rw [List.foldl_cons, ih, ins_length, List.length_cons]; omega

set_option maxRecDepth 100000 in
set_option maxHeartbeats 2000000 in
theorem PileLeft_walk {H : Type} {enc : TypeId × Value → H} (W : World) (a0 : Option Addr) (n0 c0 : Nat) (hv : Readable enc Try.prog W 22 [.slice a0 n0 c0]) (early : Int) (hwe : (Lit.int .i64 early).wf = true) :
    Calls Try.prog 4 #[.slice a0 n0 c0, .int .i64 early] W fun e W' => e = .returned (.bool true) ∧ Below W.heap.size W W' := by
  obtain ⟨v', xs, hv', hr, hl, hwf, hbl⟩ := hv.ints Try.underlying22 Try.underlying3 (by kernel_rfl)
  obtain rfl : .slice a0 n0 c0 = v' := by simpa using hv'
  obtain ⟨ao', cap', e, -, -⟩ := hr.shape
  cases e
  have HR := hide hr
  have HBL := hide hbl
  have hmx : xs.length ≤ 9223372036854775807 := hl
  clear hr hbl hv hv' hwf hwe hl
  by_cases hlen : xs.length ≤ 60
  · go_enter Try.func4, Try.ntmps4
    go_wp2_with fail
    refine (pi_New W _).mono ?_
    rintro e w1 ⟨rfl, h1, hb1⟩
    have H1 := hide h1
    have HB1 := hide hb1
    clear h1 hb1
    go_wp2_with fail
    refine (pi_Put (base := W.heap.size) w1 _ _ _ _ [] ltI lower_less H1.out _ xs (HR.out.chg (Chg.of_below0 (S := fun _ => False) HB1.out) (fun _ _ _ h => h)) (fun b hb hne => ?_) (by simp; omega)).mono ?_
    · have h5 := HBL.out b hb hne
      refine ⟨fun h => ?_, Nat.lt_of_lt_of_le h5 HB1.out.size⟩
      have := H1.out.lt _ h
      omega
    obtain ⟨l, hl⟩ : ∃ l, l = xs.foldl (ins ltI) [] := ⟨_, rfl⟩
    have hll : l.length = xs.length := by rw [hl, foldl_ins_length]; simp
    rw [← hl]
    have HLL := hide hll
    clear hl hll
    rintro e w2 ⟨rfl, ao2, cap2, h2, hc2, hs2⟩
    have H2 := hide h2
    have HB2 := hide (HB1.out.trans (hc2.below HB1.out.size (fun k hk e => by have := H1.out.lt k e; omega)))
    clear h2 hc2 hs2
    go_wp2_with fail
    refine (pi_All w2 _).mono ?_
    rintro e w3 ⟨rfl, rfl⟩
    go_wp2_with fail
    refine (pi_told w2 _ _ _ _ _ H2.out 100 (by omega)).mono ?_
    rintro e w4 ⟨ao4, cap4, rfl, ho4, hb4⟩
    rw [List.take_of_length_le (by rw [HLL.out]; simp; omega)] at ho4 ⊢
    have HO4 := hide ho4
    have HB4 := hide hb4
    clear ho4 hb4
    go_wp2_with fail
    refine (Low_ok _ early 70 (by omega) (by omega)).mono ?_
    rintro e w5 ⟨rfl, rfl⟩
    have hlow := low_lt early 70 (by omega)
    obtain ⟨k, hk⟩ : ∃ k, k = low early 70 := ⟨_, rfl⟩
    rw [← hk] at hlow ⊢
    clear hk
    have HB5 := hide (HB2.out.trans (HB4.out.mono HB2.out.size))
    have H5 := hide (H2.out.chg (Chg.of_below0 (S := fun _ => False) HB4.out) (fun _ _ h => h))
    go_wp2_with fail
    refine (pi_All w5 _).mono ?_
    rintro e w6 ⟨rfl, rfl⟩
    go_wp2_with fail
    refine (pi_told w5 _ _ _ _ _ H5.out k (by omega)).mono ?_
    rintro e w7 ⟨ao7, cap7, rfl, ho7, hb7⟩
    rw [Int.toNat_natCast] at ho7 ⊢
    have hm : (l.take k).length = min k l.length := List.length_take
    obtain ⟨m, hm2⟩ : ∃ m, m = (l.take k).length := ⟨_, rfl⟩
    have hle : l.length ≤ 60 := by rw [HLL.out]; exact hlen
    have hml : m ≤ l.length := by omega
    have hd : ((m : Int) == min (k : Int) (l.length : Int)) = true := by
      rw [beq_iff_eq]; omega
    have HM := hide hm2
    rw [← hm2] at ho7 ⊢
    have HO7 := hide ho7
    have HB7 := hide (HB5.out.trans (hb7.mono HB5.out.size))
    have H7 := hide (H5.out.chg (Chg.of_below0 (S := fun _ => False) hb7) (fun _ _ h => h))
    have HO47 := hide ((Chg.of_below0 (S := fun _ => False) hb7).owns HO4.out (fun _ _ h => h))
    have hc4 := ownsRow_cap HO4.out
    clear ho7 hb7 hm hm2
    go_wp2_with fail
    have hcut := ownsRow_take HO47.out m hml
    rw [Nat.mul_one, ← List.map_take] at hcut
    have HCUT := hide hcut
    have etk : l.take m = l.take k := by
      have := HM.out
      rw [List.length_take] at this
      rcases Nat.le_total k l.length with h | h
      · rw [this, Nat.min_eq_left h]
      · rw [this, Nat.min_eq_right h, List.take_length, List.take_of_length_le h]
    clear hcut
    refine (SameInts_ok w7 _ _ (l.take k) (l.take k) (by rw [← HM.out]; exact Rd.of_owns HO7.out) (by rw [← HM.out]; rw [etk] at HCUT; exact Rd.of_owns HCUT.out) (by rw [← HM.out]; omega) (by rw [← HM.out]; omega)).mono ?_
    clear etk
    rintro e w8 ⟨rfl, n8, rfl⟩
    go_wp2_with fail
    refine (pi_All _ _).mono ?_
    rintro e w9 ⟨rfl, rfl⟩
    go_wp2_with fail
    refine (pi_told (w7.drewN n8) _ _ _ _ _ (by exact H7.out) 100 (by omega)).mono ?_
    rintro e w10 ⟨ao10, cap10, rfl, ho10, hb10⟩
    rw [List.take_of_length_le (by rw [HLL.out]; simp; omega)] at ho10 ⊢
    have HO10 := hide ho10
    have HB10 := hide (HB7.out.trans (below_of_drewN hb10 |>.mono HB7.out.size))
    have H10 := hide (H7.out.chg (Chg.of_below0 (S := fun _ => False) (below_of_drewN hb10)) (fun _ _ h => h))
    have HO410 := hide ((Chg.of_below0 (S := fun _ => False) (below_of_drewN hb10)).owns HO47.out (fun _ _ h => h))
    clear ho10 hb10
    go_wp2_with fail
    refine (SameInts_ok w10 _ _ l l (Rd.of_owns HO10.out) (Rd.of_owns HO410.out) (by omega) (by omega)).mono ?_
    rintro e w11 ⟨rfl, n11, rfl⟩
    go_wp2_with fail
    refine (pi_Len _ _ _ _ _ l (by exact H10.out)).mono ?_
    rintro e w12 ⟨rfl, rfl⟩
    have hd2 : ((l.length : Int) == (xs.length : Int)) = true := by rw [HLL.out]; simp
    go_wp2_with fail
    refine (awake2 _).mono ?_
    rintro e w13 ⟨rfl, hb13⟩
    have HB13 := hide hb13
    clear hb13
    go_wp2_with fail
    go_ret
    exact ⟨rfl, HB10.out.trans ((below_of_drewN HB13.out).mono HB10.out.size)⟩
  · go_enter Try.func4, Try.ntmps4
    go_wp2_with fail
    refine (awake2 _).mono ?_
    rintro e w3 ⟨rfl, hb3⟩
    have HB3 := hide hb3
    clear hb3
    go_wp2_with fail
    go_ret
    exact ⟨rfl, HB3.out⟩

set_option maxRecDepth 100000 in
theorem PileLeft_lifted (os : Os) (started : os.Started) (H : Type) (enc : TypeId × Value → H) :
    ReturnsInHanded {} Try.checked os 4 .any (Rows.pileLeftSpec.pre6 enc Try.prog Try.f4 Rows.pileLeftRow.domain false) (Rows.pileLeftSpec.post enc Try.prog Try.f4 false true false false) := by
  refine returnsInHanded_of_change (C := Try.checked) law_own started (by kernel_rfl) Try.func4
    (ChangeSpec.witness6 (enc := enc) (C := Try.checked) false ⟨#[], #[.slice none 0 0, .int .i64 0], []⟩ 8 (by kernel_rfl) (by kernel_rfl) (by kernel_rfl) (by kernel_rfl)) ?_
  intro W base args ds gs before hval0 hW hcnd _
  have hval : ∀ (j : Nat) t v, Try.f4.params[j]? = some t → args[j]? = some v → Value.okWide Try.prog W .any base t v := hval0
  have hW' := hW
  obtain ⟨p, q, hA0, hV, rfl, hfz, hnd⟩ := hW
  have hA : DataW.TrodAll enc Try.prog W 0 (fun _ => true) true Try.f4.params.toList args.toList ds p := hA0
  rw [Try.params4] at hA hval
  obtain ⟨v0, vs0, d0, ds0, p0, q0, hargs, rfl, rfl, h0, r0⟩ := trodAll_cons hA
  obtain ⟨v1, vs1, d1, ds1, p1, q1, rfl, rfl, rfl, h1, r1⟩ := trodAll_cons r0
  obtain ⟨rfl, rfl, rfl⟩ := trodAll_nil r1
  obtain rfl : args = #[v0, v1] := by cases args; simp_all
  obtain ⟨rfl, rfl⟩ := trodVars_none hV
  have k0 := h0
  have lt0 : ∀ x ∈ p0, x.block < W.heap.size := by obtain ⟨m, hm⟩ := k0; exact DataW.trod_lt m _ _ _ hm
  obtain ⟨a0, len0, cap0, rfl⟩ := okWide_slice Try.underlying22 (hval 0 22 v0 rfl rfl)
  have k1 := h1
  have lt1 : ∀ x ∈ p1, x.block < W.heap.size := by obtain ⟨m, hm⟩ := k1; exact DataW.trod_lt m _ _ _ hm
  obtain ⟨a1, rfl, rfl, rfl, w1⟩ := open_int Try.underlying3 (hval 1 3 v1 rfl rfl) h1
  clear hA0 hval0
  refine (PileLeft_walk (enc := enc) W a0 len0 cap0 (Readable.of_trod h0) a1 w1).mono fun e W' ⟨he, bel⟩ => ?_
  subst he
  exact ⟨_, rfl, _, _, _, [], _, [], hW', trodAll_mk1 (shut_bool Try.underlying4 _), (trodAll_cons_mk (Below.trod law_laid (by kernel_rfl) (of_decide_eq_true (by kernel_rfl)) k0 bel lt0) (trodAll_cons_mk (Below.trod law_laid (by kernel_rfl) (of_decide_eq_true (by kernel_rfl)) k1 bel lt1) trodAll_mk0)), rfl, bel.frame _, fun h => by cases h⟩

theorem PileLeft_over : Rows.pileLeftRow.holds Try.pinned (OpenSpec.ofChange Rows.pileLeftSpec) :=
  OpenClaim.holds_of_wide 4 Try.f4 rfl rfl rfl rfl rfl rfl rfl ⟨rfl, rfl, rfl, rfl, rfl⟩ rfl rfl rfl rfl rfl (by kernel_rfl) Try.func4 (by kernel_rfl)
    (of_decide_eq_true (by kernel_rfl)) (by unfold Func.isWrapper; first | (rw [if_pos (by decide +kernel)]; kernel_rfl) | (rw [if_neg (by decide +kernel)]; exact ⟨rfl, rfl⟩))
    (fun os started H enc _ => PileLeft_lifted os started H enc)

theorem PileLeft_holds : Rows.PileLeftSaid := PileLeft_over
#print axioms PileLeft_holds

end Go.Proofs.Ytjgcicpclojfgaa
