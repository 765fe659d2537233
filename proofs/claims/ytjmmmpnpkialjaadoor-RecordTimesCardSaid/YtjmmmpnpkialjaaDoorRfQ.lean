/- The document's request: May. Conditions: none. -/
import Derived.Test.YtjmmmpnpkialjaaDoorReqB
import Derived.Test.YtjmmmpnpkialjaaDoorRfC
namespace Go.Proofs.YtjmmmpnpkialjaaDoor
open Go.RowKit Go.Shelf
attribute [local go_sem] Oper.semAt_some

theorem ref17_id (w : World) (n : Int) : Calls Tryd.prog 48 #[.int .i64 n] w fun e w' => e = .returned (.bool (okId n)) ∧ w' = w := by
  by_cases h1 : 1 ≤ n
  · have d1 : decide (n ≥ 1) = true := decide_eq_true h1
    have hr : okId n = decide (n ≤ 2147483647) := by simp [okId, h1]
    go_enter Tryd.func48, Tryd.ntmps48
    go_wp2_with fail
    go_ret
    exact ⟨ret_bool hr.symm, rfl⟩
  · have d1 : decide (n ≥ 1) = false := decide_eq_false h1
    have hr : okId n = false := by simp [okId, h1]
    have HR := hide hr
    clear hr
    go_enter Tryd.func48, Tryd.ntmps48
    go_wp2_with fail
    go_ret
    exact ⟨ret_bool HR.out.symm, rfl⟩
theorem note_eq (n : ByteArray) : (n.toList == ByteArray.toList { data := #[] }) = decide (n.size = 0) := by
  have h : (n.toList == ByteArray.toList { data := #[] }) = baEq n ⟨#[]⟩ := rfl
  rw [h]
  cases hb : baEq n ⟨#[]⟩ with
  | true => rw [(baEq_iff _ _).1 hb]; rfl
  | false =>
    symm
    rw [decide_eq_false_iff_not]
    intro hz
    have : n = ⟨#[]⟩ := by
      obtain ⟨d⟩ := n
      have : d = #[] := Array.eq_empty_of_size_eq_zero hz
      rw [this]
    rw [(baEq_iff _ _).2 this] at hb
    cases hb
theorem ref17_Zero (w : World) (x : CmV) (hx : CmAt w x) : Calls Tryd.prog 49 #[x.val] w fun e w' => e = .returned (.bool (zeroC x.c)) ∧ Below w.heap.size w w' := by
  obtain ⟨⟨xps, xts, xn⟩, xp, xt⟩ := x
  unfold CmV.val
  have hxp : Rd w xp xps.length (flat int_enc xps) := hx.ps
  have hxt : Rd w xt xts.length (flat fl_enc xts) := hx.ts
  clear hx
  obtain ⟨po, pc, rfl, -, -⟩ := hxp.shape
  obtain ⟨to, tc, rfl, -, -⟩ := hxt.shape
  have hr : zeroC ⟨xps, xts, xn⟩ = (((xps.length : Int) == 0) && ((xts.length : Int) == 0) && (xn.toList == ByteArray.toList { data := #[] })) := by
    rw [note_eq, zeroC]
    congr 1
    congr 1
    · rw [Bool.eq_iff_iff]; simp
    · rw [Bool.eq_iff_iff]; simp
  have hb : Below w.heap.size w (w.alloc (.cells #[.slice po xps.length pc, .slice to xts.length tc, .string xn] 25)) := (Below.refl _ w).alloc (Nat.le_refl _) _
  show Calls _ _ _ _ fun e w' => e = .returned (.bool (zeroC ⟨xps, xts, xn⟩)) ∧ _
  have HB := hide hb
  have HR := hide hr
  clear hxp hxt hb hr
  cases h0 : ((xps.length : Int) == 0) with
  | false =>
    go_enter Tryd.func49, Tryd.ntmps49
    go_wp2_with fail
    go_ret
    exact ⟨ret_bool (by rw [HR.out, h0]; rfl), HB.out⟩
  | true =>
  cases h1 : ((xts.length : Int) == 0) with
  | false =>
    go_enter Tryd.func49, Tryd.ntmps49
    go_wp2_with fail
    go_ret
    exact ⟨ret_bool (by rw [HR.out, h0, h1]; rfl), HB.out⟩
  | true =>
  have HR : Hid (zeroC ⟨xps, xts, xn⟩ = _) := hide (by rw [HR.out, h0, h1, Bool.true_and, Bool.true_and])
  go_enter Tryd.func49, Tryd.ntmps49
  go_wp2_with fail
  go_ret
  exact ⟨ret_bool (by rw [HR.out]; simp), HB.out⟩

set_option maxHeartbeats 4000000 in
set_option maxRecDepth 100000 in
theorem ref17_May (w : World) (q : RqV) (hx : CmAt w q.x) (fx : Few q.x.c) (hsz : ∀ f ∈ q.x.c.tree, f.path.size ≤ 100000) :
    Calls Tryd.prog 17 #[q.val] w fun e w' => e = .returned (.bool (mayRq q.r)) ∧ Below w.heap.size w w' := by
  obtain ⟨k, i, n, l, ps, x⟩ := q
  unfold RqV.val
  show Calls _ _ _ _ fun e w' => e = .returned (.bool (mayRq ⟨k, i, n, l, ps, x.c⟩)) ∧ _
  obtain ⟨r, hr⟩ : ∃ r, r = mayRq ⟨k, i, n, l, ps, x.c⟩ := ⟨_, rfl⟩
  rw [← hr]
  simp only [mayRq] at hr
  have HR := hide hr
  clear hr
  simp only at hx fx hsz
  obtain ⟨⟨xps, xts, xn⟩, xp, xt⟩ := x
  simp only at fx hsz HR ⊢
  have HZ := fun W (c : Below w.heap.size w W) => hide (ref17_Zero W ⟨⟨xps, xts, xn⟩, xp, xt⟩ (hx.same (Chg.of_below0 c)))
  have HM := fun W (c : Below w.heap.size w W) => hide (ref10_May W ⟨⟨xps, xts, xn⟩, xp, xt⟩ (hx.same (Chg.of_below0 c)) fx hsz)
  have hxp : ∀ W, Below w.heap.size w W → Rd W xp xps.length (flat int_enc xps) := fun W c => (hx.same (Chg.of_below0 c)).ps
  unfold CmV.val at HZ HM
  simp only at HZ HM
  obtain ⟨po, pc, rfl, -, -⟩ := (hxp w (Below.refl _ _)).shape
  have HXP := hide hxp
  have hlp : xps.length ≤ 1000000 := fx.1
  have HB := hide ((Below.refl w.heap.size w).alloc (Nat.le_refl _) (Obj.cells #[.int .i64 k, .int .i64 i, .int .i64 n, .int .i64 l, .bool ps, .slice po xps.length pc, xt, .string xn] 27))
  have h1 := heap_alloc_new w (.cells #[.int .i64 k, .int .i64 i, .int .i64 n, .int .i64 l, .bool ps, .slice po xps.length pc, xt, .string xn] 27)
  clear hx fx hsz hxp
  go_enter Tryd.func17, Tryd.ntmps17
  go_wp2_with fail
  generalize w.alloc (.cells #[.int .i64 k, .int .i64 i, .int .i64 n, .int .i64 l, .bool ps, .slice po xps.length pc, xt, .string xn] 27) = w1 at HB h1 ⊢
  have c0 := cell_of_heap h1 0
  have c1 := cell_of_heap h1 1
  have c2 := cell_of_heap h1 2
  have c3 := cell_of_heap h1 3
  have c4 := cell_of_heap h1 4
  have c5 := cell_of_heap h1 5
  have c6 := cell_of_heap h1 6
  have c7 := cell_of_heap h1 7
  clear h1
  refine (ref17_id _ i).mono ?_
  rintro e w2 ⟨rfl, rfl⟩
  cases h3 : okId i with
  | false =>
    go_wp2_with fail
    go_ret
    exact ⟨ret_bool (by rw [HR.out, h3]; rfl), HB.out⟩
  | true =>
  by_cases k1 : k = 1
  · subst k1
    cases ps with
    | true =>
      go_wp2_with fail
      go_ret
      exact ⟨ret_bool (by rw [HR.out, h3]; simp), HB.out⟩
    | false =>
    by_cases l0 : l = 0
    · have z0 : (l != 0) = false := by simp [l0]
      replace HR : Hid (r = (xps.all okId && decide (n = 0) && mayC ⟨xps, xts, xn⟩)) := hide (by rw [HR.out, h3, l0]; simp [mayK])
      go_wp2_with fail
      go_loop [3] (fun i => ∃ k : Nat, k ≤ xps.length ∧ i = .int .i64 k ∧ Hid (∀ p ∈ xps.take k, okId p = true)) (fun i => xps.length - (intOf i).toNat)
      case atStart => exact ⟨0, Nat.zero_le _, rfl, fun p h => by simp at h⟩
      case round =>
        obtain ⟨k, hk, rfl, HK⟩ := hrel
        by_cases hlt : k < xps.length
        · obtain ⟨a, cap', e, -, hcs0⟩ := (HXP.out _ HB.out).shape
          obtain ⟨b, off, rfl, hcs⟩ := hcs0 (by omega)
          cases e
          have hcx := hcs k (.int .i64 xps[k]) (by rw [flat_int]; simp [hlt])
          clear hcs hcs0
          go_wp2_with fail
          refine (ref17_id _ xps[k]).mono ?_
          rintro e w5 ⟨rfl, rfl⟩
          cases h5 : okId xps[k] with
          | false =>
            have ha : xps.all okId = false := List.all_eq_false.2 ⟨xps[k], List.getElem_mem hlt, by rw [h5]; simp⟩
            go_wp2_with fail
            go_ret
            exact ⟨ret_bool (by rw [HR.out, ha]; rfl), HB.out⟩
          | true =>
            go_wp2_with fail
            go_round
            case rel =>
              refine ⟨k + 1, by omega, by go_num, fun p hp => ?_⟩
              rw [take_succ_get xps k hlt] at hp
              rcases List.mem_append.1 hp with hp | hp
              · exact HK.out p hp
              · rw [List.mem_singleton.1 hp]; exact h5
            case measure => simp [intOf]; omega
        · obtain rfl : k = xps.length := by omega
          have ha : xps.all okId = true := List.all_eq_true.2 (fun p hp => HK.out p (by rw [List.take_length]; exact hp))
          replace HR : Hid (r = (decide (n = 0) && mayC ⟨xps, xts, xn⟩)) := hide (by rw [HR.out, ha]; rfl)
          clear ha
          by_cases n0 : n = 0
          · have y0 : (n == 0) = true := by simp [n0]
            replace HR : Hid (r = mayC ⟨xps, xts, xn⟩) := hide (by rw [HR.out, n0]; rfl)
            go_wp2_with fail
            refine (HM _ HB.out).out.mono ?_
            rintro e w6 ⟨rfl, hb⟩
            replace HB := hide (HB.out.trans (hb.mono HB.out.size))
            clear hb
            go_wp2_with fail
            go_ret
            exact ⟨ret_bool HR.out.symm, HB.out⟩
          · have y0 : (n == 0) = false := by simp [n0]
            go_wp2_with fail
            go_ret
            exact ⟨ret_bool (by rw [HR.out]; simp [n0]), HB.out⟩
    · have z0 : (l != 0) = true := by simp [l0]
      go_wp2_with fail
      go_ret
      exact ⟨ret_bool (by rw [HR.out, h3]; simp [l0]), HB.out⟩
  · have y1 : (k != 1) = true := by simp [k1]
    have z1 : (k == 1) = false := by simp [k1]
    go_wp2_with fail
    refine (HZ _ HB.out).out.mono ?_
    rintro e w3 ⟨rfl, hb⟩
    have c0 := (Chg.of_below0 (S := fun _ => False) hb).cell c0 (fun h => h)
    have c1 := (Chg.of_below0 (S := fun _ => False) hb).cell c1 (fun h => h)
    have c2 := (Chg.of_below0 (S := fun _ => False) hb).cell c2 (fun h => h)
    have c3 := (Chg.of_below0 (S := fun _ => False) hb).cell c3 (fun h => h)
    have c4 := (Chg.of_below0 (S := fun _ => False) hb).cell c4 (fun h => h)
    have c5 := (Chg.of_below0 (S := fun _ => False) hb).cell c5 (fun h => h)
    have c6 := (Chg.of_below0 (S := fun _ => False) hb).cell c6 (fun h => h)
    have c7 := (Chg.of_below0 (S := fun _ => False) hb).cell c7 (fun h => h)
    replace HB := hide (HB.out.trans (hb.mono HB.out.size))
    clear hb
    generalize zeroC ⟨xps, xts, xn⟩ = z at HR ⊢
    cases z with
    | false =>
      go_wp2_with fail
      go_ret
      exact ⟨ret_bool (by rw [HR.out]; simp [k1]), HB.out⟩
    | true =>
    by_cases k5 : k = 5
    · subst k5
      by_cases l0 : l = 0
      · have z0 : (l != 0) = false := by simp [l0]
        replace HR : Hid (r = okId n) := hide (by rw [HR.out, h3, l0]; simp [mayK])
        go_wp2_with fail
        refine (ref17_id _ n).mono ?_
        rintro e w5 ⟨rfl, rfl⟩
        go_wp2_with fail
        go_ret
        exact ⟨ret_bool HR.out.symm, HB.out⟩
      · have z0 : (l != 0) = true := by simp [l0]
        go_wp2_with fail
        go_ret
        exact ⟨ret_bool (by rw [HR.out]; simp [l0]), HB.out⟩
    have y5 : (k != 5) = true := by simp [k5]
    have z5 : (k == 5) = false := by simp [k5]
    cases ps with
    | true =>
      go_wp2_with fail
      go_ret
      exact ⟨ret_bool (by rw [HR.out]; simp [k5]), HB.out⟩
    | false =>
    by_cases k2 : k = 2
    · subst k2
      replace HR : Hid (r = (okId n && decide (0 ≤ l) && decide (l < 4))) := hide (by rw [HR.out, h3]; simp [mayK])
      go_wp2_with fail
      refine (ref17_id _ n).mono ?_
      rintro e w5 ⟨rfl, rfl⟩
      cases h5 : okId n with
      | false =>
        go_wp2_with fail
        go_ret
        exact ⟨ret_bool (by rw [HR.out, h5]; rfl), HB.out⟩
      | true =>
      by_cases l1 : 0 ≤ l
      · have d1 : decide (l ≥ 0) = true := decide_eq_true l1
        go_wp2_with fail
        go_ret
        exact ⟨ret_bool (by rw [HR.out, h5, decide_eq_true l1]; rfl), HB.out⟩
      · have d1 : decide (l ≥ 0) = false := decide_eq_false l1
        have D1 := hide (show decide (0 ≤ l) = false from d1)
        go_wp2_with fail
        go_ret
        exact ⟨ret_bool (by rw [HR.out, h5, D1.out]; rfl), HB.out⟩
    have y2 : (k != 2) = true := by simp [k2]
    have z2 : (k == 2) = false := by simp [k2]
    by_cases l0 : l = 0
    · have z0 : (l != 0) = false := by simp [l0]
      replace HR : Hid (r = mayK ⟨k, i, n, l, false, ⟨xps, xts, xn⟩⟩) := hide (by rw [HR.out, h3]; simp [l0])
      by_cases k3 : k = 3
      · subst k3
        replace HR : Hid (r = okId n) := hide (by rw [HR.out]; simp [mayK])
        go_wp2_with fail
        refine (ref17_id _ n).mono ?_
        rintro e w5 ⟨rfl, rfl⟩
        go_wp2_with fail
        go_ret
        exact ⟨ret_bool HR.out.symm, HB.out⟩
      by_cases k4 : k = 4
      · subst k4
        replace HR : Hid (r = okId n) := hide (by rw [HR.out]; simp [mayK])
        go_wp2_with fail
        refine (ref17_id _ n).mono ?_
        rintro e w5 ⟨rfl, rfl⟩
        go_wp2_with fail
        go_ret
        exact ⟨ret_bool HR.out.symm, HB.out⟩
      by_cases k6 : k = 6
      · subst k6
        replace HR : Hid (r = okId n) := hide (by rw [HR.out]; simp [mayK])
        go_wp2_with fail
        refine (ref17_id _ n).mono ?_
        rintro e w5 ⟨rfl, rfl⟩
        go_wp2_with fail
        go_ret
        exact ⟨ret_bool HR.out.symm, HB.out⟩
      have z3 : (k == 3) = false := by simp [k3]
      have z4 : (k == 4) = false := by simp [k4]
      have z6 : (k == 6) = false := by simp [k6]
      have hk : ¬ (3 ≤ k ∧ k ≤ 6) := by omega
      replace HR : Hid (r = false) := hide (by rw [HR.out]; simp only [mayK, if_neg k1, if_neg k2, if_neg hk])
      clear hk
      go_wp2_with fail
      go_ret
      exact ⟨ret_bool HR.out.symm, HB.out⟩
    · have z0 : (l != 0) = true := by simp [l0]
      go_wp2_with fail
      go_ret
      exact ⟨ret_bool (by rw [HR.out]; simp [l0, k2]), HB.out⟩
end Go.Proofs.YtjmmmpnpkialjaaDoor
