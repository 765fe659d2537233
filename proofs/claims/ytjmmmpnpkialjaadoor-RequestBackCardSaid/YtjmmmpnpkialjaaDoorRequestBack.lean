/- RequestBack: what was laid is read again; what is read is laid again the same; cut short, or with a byte more, it is none. Conditions: none. -/
import Derived.Test.YtjmmmpnpkialjaaDoorRows
import Derived.Test.YtjmmmpnpkialjaaDoorTie
import Derived.Test.YtjmmmpnpkialjaaDoorCards
import Derived.Test.YtjmmmpnpkialjaaDoorCardB
import Derived.SevenTiedAt
import Derived.Test.YtjmmmpnpkialjaaDoorReqZ
import Derived.Deep.CutRange
namespace Go.Proofs.YtjmmmpnpkialjaaDoor
open Go.ChangeShapes Go.WideShapes Go.ChangeAt Go.RowKit
open Go.ChangeMaps (open_string shut_string)
set_option linter.unusedVariables false
open Go.Shelf
attribute [local go_sem] Oper.semAt_some

theorem rd_short {r : Rq} (h : mayRq r = true) {k : Nat} (hk : k < (layRq r).length) : rdRq ((layRq r).take k) = none := by
  cases hr : rdRq ((layRq r).take k) with
  | none => rfl
  | some r' =>
    obtain ⟨h1, h2⟩ := rdRq_some.1 hr
    have h3 : layRq r' ++ (layRq r).drop k = layRq r := by rw [h2, List.take_append_drop]
    have h4 := congrArg List.length (layRq_prefix h1 h h3)
    simp at h4
    omega
theorem rd_long {r : Rq} (h : mayRq r = true) (c : UInt8) : rdRq (layRq r ++ [c]) = none := by
  cases hr : rdRq (layRq r ++ [c]) with
  | none => rfl
  | some r' =>
    obtain ⟨h1, h2⟩ := rdRq_some.1 hr
    have h4 := layRq_prefix h h1 h2.symm
    cases h4
theorem u8_some (x : Int) : ∃ c : UInt8, IntKind.u8.wrap x = (c.toNat : Int) := by
  have h1 := Int.emod_nonneg x (b := 256) (by decide)
  have h2 := Int.emod_lt_of_pos x (b := 256) (by decide)
  refine ⟨UInt8.ofNat (x % 256).toNat, ?_⟩
  have h3 : IntKind.u8.wrap x = x % 256 := by simp [IntKind.wrap, IntKind.bits, IntKind.signed]
  rw [h3, UInt8.toNat_ofNat']
  omega
set_option maxHeartbeats 4000000 in
set_option maxRecDepth 100000 in
theorem RequestBack_walk {H : Type} {enc : TypeId × Value → H} (W : World) (hM : Mx W) (cs : Array Value) (hv : Readable enc Tryd.prog W 27 cs.toList) (a1 : Option Addr) (n1 c1 : Nat) (hu : Readable enc Tryd.prog W 30 (Value.slice a1 n1 c1).cells.toList) (cut : Int) (hcut : (Lit.int .i64 cut).wf = true) :
    Calls Tryd.prog 5 #[.agg cs, .slice a1 n1 c1, .int .i64 cut] W fun e W' => e = .returned (.bool true) ∧ Below W.heap.size W W' := by
  obtain ⟨⟨k, i, n, l, p, ⟨⟨xps, xts, xn⟩, xp, xt⟩⟩, hcs, hxa, hxw, -, -, -, -⟩ := request_of_readable hv
  obtain ⟨v', b, hv', hb, hm, -⟩ := hu.bytes Tryd.underlying30 Tryd.underlying5 (by kernel_rfl)
  obtain rfl : .slice a1 n1 c1 = v' := by
    have h : [Value.slice a1 n1 c1] = [v'] := hv'
    simpa using h
  obtain ⟨ab, cb, e, -, -⟩ := hb.shape
  cases e
  simp only at hcs hxa hxw
  obtain rfl : cs = #[.int .i64 k, .int .i64 i, .int .i64 n, .int .i64 l, .bool p, xp, xt, .string xn] := by cases cs; simp at hcs; rw [hcs]
  have h1 := heap_alloc_new W (.cells #[.int .i64 k, .int .i64 i, .int .i64 n, .int .i64 l, .bool p, xp, xt, .string xn] 27)
  have hb1 := (Below.refl W.heap.size W).alloc (Nat.le_refl _) (.cells #[.int .i64 k, .int .i64 i, .int .i64 n, .int .i64 l, .bool p, xp, xt, .string xn] 27)
  obtain ⟨W1, hW1⟩ : ∃ W1, W1 = W.alloc (.cells #[.int .i64 k, .int .i64 i, .int .i64 n, .int .i64 l, .bool p, xp, xt, .string xn] 27) := ⟨_, rfl⟩
  rw [← hW1] at h1 hb1
  have HH1 := hide h1
  have HB := hide hb1
  have HM := hide hM
  have HXA := hide hxa
  have HBB := hide hb
  have HG1 := hide (GreatCommit_ok W1 ⟨⟨xps, xts, xn⟩, xp, xt⟩ (hxa.same (Chg.of_below0 hb1)) hxw)
  have HW1 := hide hW1
  clear h1 hb1 hM hv hu hcs hxa hxw hW1 hb hv' hcut
  go_enter Tryd.func5, Tryd.ntmps5
  go_upto_region 1 with (fail)
  rw [← HW1.out]
  clear HW1
  have a5 := cell_of_heap HH1.out 5
  have a6 := cell_of_heap HH1.out 6
  have a7 := cell_of_heap HH1.out 7
  simp at a5 a6 a7
  go_wp2_with fail
  refine HG1.out.mono ?_
  rintro e w2 ⟨rfl, hb⟩
  replace HB := hide (HB.out.trans (hb.mono HB.out.size))
  replace HH1 := hide ((Chg.of_below0 (S := fun _ => False) hb).heap HH1.out (fun h => h))
  clear hb HG1 a5 a6 a7
  cases hg1 : greatC ⟨xps, xts, xn⟩ with
  | true =>
    clear hg1
    go_wp2_with fail
    refine (awake17 _ (HM.out.below HB.out HM.out.pos)).mono ?_
    rintro e w3 ⟨rfl, hb3⟩
    replace HB := hide (HB.out.trans (hb3.mono HB.out.size))
    clear hb3
    go_wp2_with fail
    go_ret
    exact ⟨rfl, HB.out⟩
  | false =>
  have HG := hide hg1
  clear hg1
  by_cases hl : 3000 < b.length
  · go_wp2_with fail
    refine (awake17 _ (HM.out.below HB.out HM.out.pos)).mono ?_
    rintro e w3 ⟨rfl, hb3⟩
    replace HB := hide (HB.out.trans (hb3.mono HB.out.size))
    clear hb3
    go_wp2_with fail
    go_ret
    exact ⟨rfl, HB.out⟩
  have HBM := hide (show b.length ≤ 3000 by omega)
  obtain ⟨hf1, hn1, hs1⟩ := great_small HG.out
  have HF1 := hide hf1
  have HN1 := hide hn1
  have hx3 := fun W4 (h : Chg (fun _ => False) w2 W4) => (HXA.out.same (Chg.of_below0 HB.out)).same h
  have HX3 := hide hx3
  have HMX := hide (HM.out.below HB.out HM.out.pos)
  clear hf1 hn1 hs1 hx3 HG HXA
  have a0 := cell_of_heap HH1.out 0
  have a1 := cell_of_heap HH1.out 1
  have a2 := cell_of_heap HH1.out 2
  have a3 := cell_of_heap HH1.out 3
  have a4 := cell_of_heap HH1.out 4
  have a5 := cell_of_heap HH1.out 5
  have a6 := cell_of_heap HH1.out 6
  have a7 := cell_of_heap HH1.out 7
  simp at a0 a1 a2 a3 a4 a5 a6 a7
  have hlay := request_LayZ w2 ⟨k, i, n, l, p, ⟨⟨xps, xts, xn⟩, xp, xt⟩⟩ (HX3.out _ (Chg.refl _ _)) HF1.out HN1.out HMX.out
  obtain ⟨r, hr⟩ : ∃ r, r = RqV.r ⟨k, i, n, l, p, ⟨⟨xps, xts, xn⟩, xp, xt⟩⟩ := ⟨_, rfl⟩
  rw [← hr] at hlay
  have HR := hide hr
  have HLAY := hide hlay
  clear hlay hr
  go_wp2_with fail
  refine HLAY.out.mono ?_
  rintro e w4 ⟨hb4, ao4, cap4, rfl, ho4, hno⟩
  have hc4 : Chg (fun _ => False) w2 w4 := Chg.of_below0 hb4
  replace HH1 := hide (hc4.heap HH1.out (fun h => h))
  have HO4 := hide ho4
  have HC4 := hide hc4
  have HSW := hide (show w2.heap.size ≤ w4.heap.size from hb4.size)
  have HNO := hide hno
  replace HB := hide (HB.out.trans (hb4.mono HB.out.size))
  clear hb4 hc4 ho4 a0 a1 a2 a3 a4 a5 a6 a7 hno HLAY
  obtain ⟨m, hm'⟩ : ∃ m, m = mayRq r := ⟨_, rfl⟩
  have HMY := hide hm'
  have hz : m = true → layZ r = layRq r ∧ layE r = 0 := fun h => by
    have h5 : mayRq r = true := by rw [← hm']; exact h
    rw [layZ, layE, if_pos h5, if_pos h5]; exact ⟨rfl, rfl⟩
  have hz' : m = false → layZ r = [] ∧ layE r = 2 := fun h => by
    have h5 : ¬ mayRq r = true := by rw [← hm', h]; simp
    rw [layZ, layE, if_neg h5, if_neg h5]; exact ⟨rfl, rfl⟩
  have HZT := hide hz
  have HZF := hide hz'
  clear hz hz' hm'
  generalize layE r = E at HZT HZF ⊢
  have HBD := hide (HBB.out.chg (Chg.of_below0 (S := fun _ => False) HB.out) (fun _ _ _ h => h))
  replace HMX := hide (HMX.out.chg (S := fun _ => False) HC4.out (fun h => h))
  have HX4 := hide (HX3.out _ HC4.out)
  clear HBB HX3
  have hmid : True := trivial
  go_upto_region 4 with (fail)
  cases m with
  | false =>
    obtain ⟨hz1, hz2⟩ := HZF.out rfl
    subst hz2
    have hn := HNO.out HMY.out.symm
    subst hn
    have HR' := HR.out
    rw [hz1] at HO4 ⊢
    have hmy := request_May w4 ⟨k, i, n, l, p, ⟨⟨xps, xts, xn⟩, xp, xt⟩⟩ HX4.out HF1.out HN1.out HMX.out
    rw [← HR.out, ← HMY.out] at hmy
    have HMAY := hide hmy
    clear hz1 HR' hmy HZT HZF HNO
    have a0 := cell_of_heap HH1.out 0
    have a1 := cell_of_heap HH1.out 1
    have a2 := cell_of_heap HH1.out 2
    have a3 := cell_of_heap HH1.out 3
    have a4 := cell_of_heap HH1.out 4
    have a5 := cell_of_heap HH1.out 5
    have a6 := cell_of_heap HH1.out 6
    have a7 := cell_of_heap HH1.out 7
    simp at a0 a1 a2 a3 a4 a5 a6 a7
    go_wp2_with fail
    refine HMAY.out.mono ?_
    rintro e w5 ⟨rfl, hb5⟩
    replace HBD := hide (HBD.out.chg (Chg.of_below0 (S := fun _ => False) hb5) (fun _ _ _ h => h))
    replace HB := hide (HB.out.trans (hb5.mono HB.out.size))
    replace HMX := hide (HMX.out.chg (Chg.of_below0 (S := fun _ => False) hb5) (fun h => h))
    clear hb5 HMAY a0 a1 a2 a3 a4 a5 a6 a7 HX4 HO4 HH1
    have hrd := request_Read w5 _ b HBD.out (by have := HBM.out; omega) HMX.out
    have HCALL := hide hrd
    clear hrd
    go_wp2_with fail
    refine HCALL.out.mono ?_
    rintro e w20 ⟨hb20, hres⟩
    replace HBD := hide (HBD.out.chg (Chg.of_below0 (S := fun _ => False) hb20) (fun _ _ _ h => h))
    replace HB := hide (HB.out.trans (hb20.mono HB.out.size))
    replace HMX := hide (HMX.out.chg (Chg.of_below0 (S := fun _ => False) hb20) (fun h => h))
    clear hb20 HCALL
    rcases hres with ⟨hno, rfl⟩ | ⟨q, hyes, rfl, ho⟩
    · clear hno
      obtain ⟨q, hqq⟩ : ∃ q, q = qz 0 0 0 0 false := ⟨_, rfl⟩
      have ho : Own w20 w20.heap.size q.x := by rw [hqq]; exact ⟨World.ownsRow_nil _ _ _ _, World.ownsRow_nil _ _ _ _⟩
      have hq : q.r = rz 0 0 0 0 false := by rw [hqq]; rfl
      have hqv : rqZ = #[.int .i64 0, .int .i64 0, .int .i64 0, .int .i64 0, .bool false, .slice none 0 0, .slice none 0 0, .string ⟨#[]⟩] := rfl
      rw [hqv]
      clear hqq hqv ho hq q
      have hh := heap_alloc_new w20 (Obj.cells #[.int .i64 0, .int .i64 0, .int .i64 0, .int .i64 0, .bool false, .slice none 0 0, .slice none 0 0, .string ⟨#[]⟩] 27)
      have hal := Chg.alloc (fun _ => False) w20 (Obj.cells #[.int .i64 0, .int .i64 0, .int .i64 0, .int .i64 0, .bool false, .slice none 0 0, .slice none 0 0, .string ⟨#[]⟩] 27)
      obtain ⟨w21, hw21⟩ : ∃ w21, w21 = w20.alloc (Obj.cells #[.int .i64 0, .int .i64 0, .int .i64 0, .int .i64 0, .bool false, .slice none 0 0, .slice none 0 0, .string ⟨#[]⟩] 27) := ⟨_, rfl⟩
      rw [← hw21] at hh hal
      replace HB := hide (HB.out.trans (hal.below (n := W.heap.size) HB.out.size (fun _ _ h => h)))
      replace HMX := hide (HMX.out.chg hal (fun h => h))
      have HH := hide hh
      have HW21 := hide hw21
      clear hh hal hw21
      go_upto_region 16 with (fail)
      rw [← HW21.out]
      have a0 := cell_of_heap HH.out 0
      have a1 := cell_of_heap HH.out 1
      have a2 := cell_of_heap HH.out 2
      have a3 := cell_of_heap HH.out 3
      have a4 := cell_of_heap HH.out 4
      have a5 := cell_of_heap HH.out 5
      have a6 := cell_of_heap HH.out 6
      have a7 := cell_of_heap HH.out 7
      simp at a0 a1 a2 a3 a4 a5 a6 a7
      clear HW21
      have hsm := law_SameRequest w21 (qz 0 0 0 0 false) (qz 0 0 0 0 false) (cmZ_at _) (cmZ_at _) cmZ_few cmZ_few
      rw [rqEq_refl] at hsm
      have HSM := hide hsm
      clear hsm
      go_wp2_with fail
      refine HSM.out.mono ?_
      rintro e w22 ⟨rfl, hb22⟩
      replace HB := hide (HB.out.trans (hb22.mono HB.out.size))
      clear hb22 HSM a0 a1 a2 a3 a4 a5 a6 a7
      go_wp2_with fail
      refine (awake17 _ (HM.out.below HB.out HM.out.pos)).mono ?_
      rintro e w23 ⟨rfl, hb23⟩
      replace HB := hide (HB.out.trans (hb23.mono HB.out.size))
      clear hb23
      go_wp2_with fail
      go_ret
      exact ⟨rfl, HB.out⟩
    · have hq := rfl (a := q.r)
      obtain ⟨hm1, hm2⟩ := rdRq_some.1 hyes
      obtain ⟨r9, hr9⟩ : ∃ r, r = q.r := ⟨_, rfl⟩
      replace hq : q.r = r9 := hr9.symm
      rw [← hr9] at hm1 hm2
      have HM1 := hide hm1
      have HM2 := hide hm2
      clear hm1 hm2 hr9 hyes
      obtain ⟨kv, iv, nv, lv, sv, ⟨⟨psv, tsv, ntv⟩, xpv, xtv⟩⟩ := q
      obtain ⟨apv, cpv, hpv⟩ := ownsRow_shape ho.ps
      obtain ⟨aqv, cqv, htv⟩ := ownsRow_shape ho.ts
      simp only at hpv htv
      subst hpv htv
      have halv := Chg.alloc (fun _ => False) w20 (Obj.cells #[.int .i64 kv, .int .i64 iv, .int .i64 nv, .int .i64 lv, .bool sv, .slice apv psv.length cpv, .slice aqv tsv.length cqv, .string ntv] 27)
      have hhv := heap_alloc_new w20 (Obj.cells #[.int .i64 kv, .int .i64 iv, .int .i64 nv, .int .i64 lv, .bool sv, .slice apv psv.length cpv, .slice aqv tsv.length cqv, .string ntv] 27)
      have hzv : (w20.alloc (Obj.cells #[.int .i64 kv, .int .i64 iv, .int .i64 nv, .int .i64 lv, .bool sv, .slice apv psv.length cpv, .slice aqv tsv.length cqv, .string ntv] 27)).heap.size = w20.heap.size + 1 := World.size_alloc _ _
      obtain ⟨p21, hppv⟩ : ∃ p, p = w20.heap.size := ⟨_, rfl⟩
      obtain ⟨w21, hwwv⟩ : ∃ w, w = w20.alloc (Obj.cells #[.int .i64 kv, .int .i64 iv, .int .i64 nv, .int .i64 lv, .bool sv, .slice apv psv.length cpv, .slice aqv tsv.length cqv, .string ntv] 27) := ⟨_, rfl⟩
      rw [← hwwv] at halv hhv hzv
      rw [← hppv] at hhv hzv
      have HWv := hide hwwv
      have HPv := hide hppv
      have HHv := hide hhv
      have HZv := hide hzv
      have HQv := hide hq
      have HOv := hide (ho.chg halv (fun _ _ _ h => h))
      have HALv := hide halv
      unfold RqV.val
      clear halv hhv hzv hwwv hppv hq ho
      go_wp2_with fail
      rw [← HWv.out, ← HPv.out]
      clear HWv
      replace HBD := hide (HBD.out.chg HALv.out (fun _ _ _ h => h))
      replace HB := hide (HB.out.trans (HALv.out.below (n := W.heap.size) HB.out.size (fun _ _ h => h)))
      replace HMX := hide (HMX.out.chg HALv.out (fun h => h))
      clear HALv HZv HPv
      have hfw : Few (⟨psv, tsv, ntv⟩ : Cm) ∧ ntv.size ≤ 140737488351232 := by have h5 := own_few HM1.out; rw [← HQv.out] at h5; exact h5
      have hlz : layZ r9 = b ∧ layE r9 = 0 := by rw [layZ, layE, if_pos HM1.out, if_pos HM1.out]; exact ⟨HM2.out, rfl⟩
      have hly := request_LayZ w21 ⟨kv, iv, nv, lv, sv, ⟨⟨psv, tsv, ntv⟩, .slice apv psv.length cpv, .slice aqv tsv.length cqv⟩⟩ HOv.out.at hfw.1 hfw.2 HMX.out
      rw [HQv.out, hlz.1, hlz.2] at hly
      have HLY := hide hly
      have HFW := hide hfw
      clear hly hfw hlz
      refine HLY.out.mono ?_
      rintro e w22 ⟨hb22, ao22, cap22, rfl, ho22, -⟩
      replace HBD := hide (HBD.out.chg (Chg.of_below0 (S := fun _ => False) hb22) (fun _ _ _ h => h))
      replace HB := hide (HB.out.trans (hb22.mono HB.out.size))
      replace HMX := hide (HMX.out.chg (Chg.of_below0 (S := fun _ => False) hb22) (fun h => h))
      replace HHv := hide ((Chg.of_below0 (S := fun _ => False) hb22).heap HHv.out (fun h => h))
      replace HOv := hide (HOv.out.chg (Chg.of_below0 (S := fun _ => False) hb22) (fun _ _ _ h => h))
      have HOY := hide ho22
      clear hb22 ho22 HLY
      go_wp2_with fail
      refine (SameBytes_refl w22 _ _ b (Rd.of_owns HOY.out) HBD.out (by have := HBM.out; omega)).mono ?_
      rintro e w23 ⟨rfl, n23, hw23⟩
      have hc23 : Chg (fun _ => False) w22 w23 := hw23 ▸ Chg.drewN (fun _ => False) _ n23
      replace HB := hide (HB.out.trans (hc23.below (n := W.heap.size) HB.out.size (fun _ _ h => h)))
      replace HMX := hide (HMX.out.chg hc23 (fun h => h))
      replace HHv := hide (hc23.heap HHv.out (fun h => h))
      replace HOv := hide (HOv.out.chg hc23 (fun _ _ _ h => h))
      clear hc23 hw23 HOY HBD
      have a0 := cell_of_heap HHv.out 0
      have a1 := cell_of_heap HHv.out 1
      have a2 := cell_of_heap HHv.out 2
      have a3 := cell_of_heap HHv.out 3
      have a4 := cell_of_heap HHv.out 4
      have a5 := cell_of_heap HHv.out 5
      have a6 := cell_of_heap HHv.out 6
      have a7 := cell_of_heap HHv.out 7
      simp at a0 a1 a2 a3 a4 a5 a6 a7
      have hmy := request_May w23 ⟨kv, iv, nv, lv, sv, ⟨⟨psv, tsv, ntv⟩, .slice apv psv.length cpv, .slice aqv tsv.length cqv⟩⟩ HOv.out.at HFW.out.1 HFW.out.2 HMX.out
      rw [HQv.out, HM1.out] at hmy
      have HMYY := hide hmy
      clear hmy
      go_wp2_with fail
      refine HMYY.out.mono ?_
      rintro e w24 ⟨rfl, hb24⟩
      replace HB := hide (HB.out.trans (hb24.mono HB.out.size))
      clear hb24 HMYY a0 a1 a2 a3 a4 a5 a6 a7
      go_wp2_with fail
      refine (awake17 _ (HM.out.below HB.out HM.out.pos)).mono ?_
      rintro e w25 ⟨rfl, hb25⟩
      replace HB := hide (HB.out.trans (hb25.mono HB.out.size))
      clear hb25
      go_wp2_with fail
      go_ret
      exact ⟨rfl, HB.out⟩
  | true =>
    obtain ⟨hz1, hz2⟩ := HZT.out rfl
    subst hz2
    rw [hz1] at HO4 ⊢
    have HYES := hide HMY.out.symm
    have hlen : 40 ≤ (layRq r).length := by unfold layRq; simp [nums_length]
    have hlen2 := layZ_len r
    rw [hz1] at hlen2
    have HRD := hide (rdZ_some (rdRq_some.2 ⟨HYES.out, rfl⟩ : rdRq (layRq r) = some r))
    have HRS := hide (fun k hk => rdZ_none (rd_short HYES.out (k := k) hk))
    have HRL := hide (fun c => rdZ_none (rd_long HYES.out c))
    obtain ⟨Z, hZ⟩ : ∃ Z, Z = layRq r := ⟨_, rfl⟩
    rw [← hZ] at hlen hlen2 HO4 HRD HRS HRL
    rw [← hZ]
    have HLEN := hide hlen
    have HLEN2 := hide hlen2
    have hd : ((Z.length : Int) == 0) = false := by rw [beq_eq_false_iff_ne]; omega
    clear hz1 hZ hlen hlen2 HZT HZF HNO
    have hrd := request_ReadZ w4 _ Z (Rd.of_owns HO4.out) (by have := HLEN2.out; omega) HMX.out
    rw [HRD.out.1, HRD.out.2] at hrd
    have HCALL := hide hrd
    clear hrd
    go_wp2_with fail
    refine HCALL.out.mono ?_
    rintro e w5 ⟨hb5, q, hq, rfl, ho⟩
    replace HBD := hide (HBD.out.chg (Chg.of_below0 (S := fun _ => False) hb5) (fun _ _ _ h => h))
    replace HB := hide (HB.out.trans (hb5.mono HB.out.size))
    replace HMX := hide (HMX.out.chg (Chg.of_below0 (S := fun _ => False) hb5) (fun h => h))
    replace HX4 := hide (HX4.out.same (Chg.of_below0 hb5))
    replace HO4 := hide ((Chg.of_below0 (S := fun _ => False) hb5).owns HO4.out (fun _ _ h => h))
    replace HH1 := hide ((Chg.of_below0 (S := fun _ => False) hb5).heap HH1.out (fun h => h))
    clear hb5 HCALL
    obtain ⟨kx, ix, nx, lx, sx, ⟨⟨psx, tsx, ntx⟩, xpx, xtx⟩⟩ := q
    obtain ⟨apx, cpx, hpx⟩ := ownsRow_shape ho.ps
    obtain ⟨aqx, cqx, htx⟩ := ownsRow_shape ho.ts
    simp only at hpx htx
    subst hpx htx
    have halx := Chg.alloc (fun _ => False) w5 (Obj.cells #[.int .i64 kx, .int .i64 ix, .int .i64 nx, .int .i64 lx, .bool sx, .slice apx psx.length cpx, .slice aqx tsx.length cqx, .string ntx] 27)
    have hhx := heap_alloc_new w5 (Obj.cells #[.int .i64 kx, .int .i64 ix, .int .i64 nx, .int .i64 lx, .bool sx, .slice apx psx.length cpx, .slice aqx tsx.length cqx, .string ntx] 27)
    have hzx : (w5.alloc (Obj.cells #[.int .i64 kx, .int .i64 ix, .int .i64 nx, .int .i64 lx, .bool sx, .slice apx psx.length cpx, .slice aqx tsx.length cqx, .string ntx] 27)).heap.size = w5.heap.size + 1 := World.size_alloc _ _
    obtain ⟨p6, hppx⟩ : ∃ p, p = w5.heap.size := ⟨_, rfl⟩
    obtain ⟨w6, hwwx⟩ : ∃ w, w = w5.alloc (Obj.cells #[.int .i64 kx, .int .i64 ix, .int .i64 nx, .int .i64 lx, .bool sx, .slice apx psx.length cpx, .slice aqx tsx.length cqx, .string ntx] 27) := ⟨_, rfl⟩
    rw [← hwwx] at halx hhx hzx
    rw [← hppx] at hhx hzx
    have HWx := hide hwwx
    have HPx := hide hppx
    have HHx := hide hhx
    have HZx := hide hzx
    have HQx := hide hq
    have HOx := hide (ho.chg halx (fun _ _ _ h => h))
    have HALx := hide halx
    unfold RqV.val
    clear halx hhx hzx hwwx hppx hq ho
    go_wp2_with fail
    rw [← HWx.out, ← HPx.out]
    clear HWx
    replace HBD := hide (HBD.out.chg HALx.out (fun _ _ _ h => h))
    replace HB := hide (HB.out.trans (HALx.out.below (n := W.heap.size) HB.out.size (fun _ _ h => h)))
    replace HMX := hide (HMX.out.chg HALx.out (fun h => h))
    replace HX4 := hide (HX4.out.same HALx.out)
    replace HO4 := hide (HALx.out.owns HO4.out (fun _ _ h => h))
    replace HH1 := hide (HALx.out.heap HH1.out (fun h => h))
    clear HALx HZx HPx
    refine (Low_ok w6 cut Z.length (by have := HLEN.out; omega) (by have := HLEN2.out; omega)).mono ?_
    rintro e w7 ⟨rfl, rfl⟩
    have hkl := low_lt cut Z.length (by have := HLEN.out; omega)
    generalize low cut Z.length = kk at hkl
    have hup := Rd.upto (Rd.of_owns HO4.out) kk 1 (Nat.le_of_lt hkl) (u8s_len1 Z)
    have hcap := ownsRow_cap HO4.out
    have hsl := slice_upto (P := Tryd.prog) slU8 ao4 Z.length cap4 kk (by omega) w7
    rw [Nat.mul_one, u8s_take] at hup
    have hkz : (Z.take kk).length = kk := by rw [List.length_take]; omega
    have hup2 : Rd w7 (.slice ao4 kk cap4) (Z.take kk).length (u8s (Z.take kk)) := by rw [hkz]; exact hup
    have hrd := request_ReadZ w7 _ (Z.take kk) hup2 (by rw [hkz]; have := HLEN2.out; omega) HMX.out
    rw [(HRS.out kk hkl).1, (HRS.out kk hkl).2] at hrd
    have HCALL := hide hrd
    clear hrd hup hup2 hkz
    go_wp2_with fail
    refine HCALL.out.mono ?_
    rintro e w8 ⟨hb8, q, hq, rfl, ho⟩
    replace HBD := hide (HBD.out.chg (Chg.of_below0 (S := fun _ => False) hb8) (fun _ _ _ h => h))
    replace HB := hide (HB.out.trans (hb8.mono HB.out.size))
    replace HMX := hide (HMX.out.chg (Chg.of_below0 (S := fun _ => False) hb8) (fun h => h))
    replace HX4 := hide (HX4.out.same (Chg.of_below0 hb8))
    replace HO4 := hide ((Chg.of_below0 (S := fun _ => False) hb8).owns HO4.out (fun _ _ h => h))
    replace HH1 := hide ((Chg.of_below0 (S := fun _ => False) hb8).heap HH1.out (fun h => h))
    replace HHx := hide ((Chg.of_below0 (S := fun _ => False) hb8).heap HHx.out (fun h => h))
    replace HOx := hide (HOx.out.chg (Chg.of_below0 (S := fun _ => False) hb8) (fun _ _ _ h => h))
    clear hb8 HCALL hsl hcap
    obtain ⟨ky, iy, ny, ly, sy, ⟨⟨psy, tsy, nty⟩, xpy, xty⟩⟩ := q
    obtain ⟨apy, cpy, hpy⟩ := ownsRow_shape ho.ps
    obtain ⟨aqy, cqy, hty⟩ := ownsRow_shape ho.ts
    simp only at hpy hty
    subst hpy hty
    have haly := Chg.alloc (fun _ => False) w8 (Obj.cells #[.int .i64 ky, .int .i64 iy, .int .i64 ny, .int .i64 ly, .bool sy, .slice apy psy.length cpy, .slice aqy tsy.length cqy, .string nty] 27)
    have hhy := heap_alloc_new w8 (Obj.cells #[.int .i64 ky, .int .i64 iy, .int .i64 ny, .int .i64 ly, .bool sy, .slice apy psy.length cpy, .slice aqy tsy.length cqy, .string nty] 27)
    have hzy : (w8.alloc (Obj.cells #[.int .i64 ky, .int .i64 iy, .int .i64 ny, .int .i64 ly, .bool sy, .slice apy psy.length cpy, .slice aqy tsy.length cqy, .string nty] 27)).heap.size = w8.heap.size + 1 := World.size_alloc _ _
    obtain ⟨p9, hppy⟩ : ∃ p, p = w8.heap.size := ⟨_, rfl⟩
    obtain ⟨w9, hwwy⟩ : ∃ w, w = w8.alloc (Obj.cells #[.int .i64 ky, .int .i64 iy, .int .i64 ny, .int .i64 ly, .bool sy, .slice apy psy.length cpy, .slice aqy tsy.length cqy, .string nty] 27) := ⟨_, rfl⟩
    rw [← hwwy] at haly hhy hzy
    rw [← hppy] at hhy hzy
    have HWy := hide hwwy
    have HPy := hide hppy
    have HHy := hide hhy
    have HZy := hide hzy
    have HQy := hide hq
    have HOy := hide (ho.chg haly (fun _ _ _ h => h))
    have HALy := hide haly
    unfold RqV.val
    clear haly hhy hzy hwwy hppy hq ho
    go_upto_region 9 with (fail)
    rw [← HWy.out, ← HPy.out]
    clear HWy
    replace HBD := hide (HBD.out.chg HALy.out (fun _ _ _ h => h))
    replace HB := hide (HB.out.trans (HALy.out.below (n := W.heap.size) HB.out.size (fun _ _ h => h)))
    replace HMX := hide (HMX.out.chg HALy.out (fun h => h))
    replace HX4 := hide (HX4.out.same HALy.out)
    replace HO4 := hide (HALy.out.owns HO4.out (fun _ _ h => h))
    replace HH1 := hide (HALy.out.heap HH1.out (fun h => h))
    replace HHx := hide (HALy.out.heap HHx.out (fun h => h))
    replace HOx := hide (HOx.out.chg HALy.out (fun _ _ _ h => h))
    clear HALy HZy HPy HHy HOy HQy
    obtain ⟨c8, hc8⟩ := u8_some cut
    go_wp2_with (first
      | (at_builtin; refine wpl_append rfl _ _ _ rfl slU8 w9.heap.size (World.ownsRow_nil w9 _ _ _) (Rd.of_owns HO4.out) rfl rfl (u8s_len1 Z) (u8s_one Z) (by have := HLEN2.out; unfold maxLen; omega) (by have := HLEN2.out; omega) (Nat.le_refl _) ?_; intro ao9 cap9 w10 ho9 hg9 _ _; simp only [Nat.zero_add, List.nil_append] at ho9; have HO9 := hide ho9; have HG9 := hide hg9; clear ho9 hg9)
      | (at_builtin; refine wpl_append rfl _ _ _ rfl slU8 w9.heap.size (HO9.out.alloc _) (Rd_lit w10 #[.int .u8 (c8.toNat : Int)] 5 1) rfl rfl rfl (by simp [Value.oneCell']) (by have := HLEN2.out; unfold maxLen; omega) (by have := HLEN2.out; omega) (by have := HG9.out.size; simp; omega) ?_; intro ao10 cap10 w11 ho10 hg10 _ _; have HO10 := hide ho10; have HG10 := hide hg10; clear ho10 hg10))
    have hb11 : Below w9.heap.size w9 w11 := ((HG9.out.below (n := w9.heap.size) (Nat.le_refl _) (fun k _ h => by cases h)).alloc HG9.out.size (Obj.cells #[.int .u8 (c8.toNat : Int)] 5)).trans (HG10.out.below (n := w9.heap.size) (by have := HG9.out.size; simp; omega) (fun k hk h => by have h5 := (ownsRow_lt HO9.out k h).1; omega))
    have hc11 : Chg (fun _ => False) w9 w11 := Chg.of_below0 hb11
    have hrow : Rd w11 (.slice ao10 (Z.length + 1) cap10) (Z ++ [c8]).length (u8s (Z ++ [c8])) := by
      have h5 := Rd.of_owns HO10.out
      rw [List.length_append, List.length_singleton, u8s_append]
      exact h5
    replace HBD := hide (HBD.out.chg hc11 (fun _ _ _ h => h))
    replace HB := hide (HB.out.trans (hb11.mono HB.out.size))
    replace HMX := hide (HMX.out.chg hc11 (fun h => h))
    replace HX4 := hide (HX4.out.same hc11)
    replace HH1 := hide (hc11.heap HH1.out (fun h => h))
    replace HHx := hide (hc11.heap HHx.out (fun h => h))
    replace HOx := hide (HOx.out.chg hc11 (fun _ _ _ h => h))
    have hrd := request_ReadZ w11 _ (Z ++ [c8]) hrow (by have := HLEN2.out; simp; omega) HMX.out
    rw [(HRL.out c8).1, (HRL.out c8).2] at hrd
    have HCALL := hide hrd
    clear hrd hrow hc11 hb11 HO9 HG9 HO10 HG10 hc8 HO4
    refine HCALL.out.mono ?_
    rintro e w12 ⟨hb8, q, hq, rfl, ho⟩
    replace HBD := hide (HBD.out.chg (Chg.of_below0 (S := fun _ => False) hb8) (fun _ _ _ h => h))
    replace HB := hide (HB.out.trans (hb8.mono HB.out.size))
    replace HMX := hide (HMX.out.chg (Chg.of_below0 (S := fun _ => False) hb8) (fun h => h))
    replace HX4 := hide (HX4.out.same (Chg.of_below0 hb8))
    replace HH1 := hide ((Chg.of_below0 (S := fun _ => False) hb8).heap HH1.out (fun h => h))
    replace HHx := hide ((Chg.of_below0 (S := fun _ => False) hb8).heap HHx.out (fun h => h))
    replace HOx := hide (HOx.out.chg (Chg.of_below0 (S := fun _ => False) hb8) (fun _ _ _ h => h))
    clear hb8 HCALL
    obtain ⟨kz, iz, nz, lz, sz, ⟨⟨psz, tsz, ntz⟩, xpz, xtz⟩⟩ := q
    obtain ⟨apz, cpz, hpz⟩ := ownsRow_shape ho.ps
    obtain ⟨aqz, cqz, htz⟩ := ownsRow_shape ho.ts
    simp only at hpz htz
    subst hpz htz
    have halz := Chg.alloc (fun _ => False) w12 (Obj.cells #[.int .i64 kz, .int .i64 iz, .int .i64 nz, .int .i64 lz, .bool sz, .slice apz psz.length cpz, .slice aqz tsz.length cqz, .string ntz] 27)
    have hhz := heap_alloc_new w12 (Obj.cells #[.int .i64 kz, .int .i64 iz, .int .i64 nz, .int .i64 lz, .bool sz, .slice apz psz.length cpz, .slice aqz tsz.length cqz, .string ntz] 27)
    have hzz : (w12.alloc (Obj.cells #[.int .i64 kz, .int .i64 iz, .int .i64 nz, .int .i64 lz, .bool sz, .slice apz psz.length cpz, .slice aqz tsz.length cqz, .string ntz] 27)).heap.size = w12.heap.size + 1 := World.size_alloc _ _
    obtain ⟨p13, hppz⟩ : ∃ p, p = w12.heap.size := ⟨_, rfl⟩
    obtain ⟨w13, hwwz⟩ : ∃ w, w = w12.alloc (Obj.cells #[.int .i64 kz, .int .i64 iz, .int .i64 nz, .int .i64 lz, .bool sz, .slice apz psz.length cpz, .slice aqz tsz.length cqz, .string ntz] 27) := ⟨_, rfl⟩
    rw [← hwwz] at halz hhz hzz
    rw [← hppz] at hhz hzz
    have HWz := hide hwwz
    have HPz := hide hppz
    have HHz := hide hhz
    have HZz := hide hzz
    have HQz := hide hq
    have HOz := hide (ho.chg halz (fun _ _ _ h => h))
    have HALz := hide halz
    unfold RqV.val
    clear halz hhz hzz hwwz hppz hq ho
    go_upto_region 10 with (fail)
    rw [← HWz.out, ← HPz.out]
    clear HWz
    replace HBD := hide (HBD.out.chg HALz.out (fun _ _ _ h => h))
    replace HB := hide (HB.out.trans (HALz.out.below (n := W.heap.size) HB.out.size (fun _ _ h => h)))
    replace HMX := hide (HMX.out.chg HALz.out (fun h => h))
    replace HX4 := hide (HX4.out.same HALz.out)
    replace HH1 := hide (HALz.out.heap HH1.out (fun h => h))
    replace HHx := hide (HALz.out.heap HHx.out (fun h => h))
    replace HOx := hide (HOx.out.chg HALz.out (fun _ _ _ h => h))
    clear HALz HZz HPz HHz HOz HQz
    have a0 := cell_of_heap HH1.out 0
    have a1 := cell_of_heap HH1.out 1
    have a2 := cell_of_heap HH1.out 2
    have a3 := cell_of_heap HH1.out 3
    have a4 := cell_of_heap HH1.out 4
    have a5 := cell_of_heap HH1.out 5
    have a6 := cell_of_heap HH1.out 6
    have a7 := cell_of_heap HH1.out 7
    have b0 := cell_of_heap HHx.out 0
    have b1 := cell_of_heap HHx.out 1
    have b2 := cell_of_heap HHx.out 2
    have b3 := cell_of_heap HHx.out 3
    have b4 := cell_of_heap HHx.out 4
    have b5 := cell_of_heap HHx.out 5
    have b6 := cell_of_heap HHx.out 6
    have b7 := cell_of_heap HHx.out 7
    simp at a0 a1 a2 a3 a4 a5 a6 a7 b0 b1 b2 b3 b4 b5 b6 b7
    have hfx : Few (⟨psx, tsx, ntx⟩ : Cm) := by have h5 := (own_few HYES.out).1; rw [← HQx.out] at h5; exact h5
    have hsm := law_SameRequest w13 ⟨kx, ix, nx, lx, sx, ⟨⟨psx, tsx, ntx⟩, .slice apx psx.length cpx, .slice aqx tsx.length cqx⟩⟩ ⟨k, i, n, l, p, ⟨⟨xps, xts, xn⟩, xp, xt⟩⟩ HOx.out.at HX4.out hfx HF1.out
    rw [HQx.out, ← HR.out, rqEq_refl] at hsm
    have HSM := hide hsm
    clear hsm hfx
    go_wp2_with fail
    refine HSM.out.mono ?_
    rintro e w5 ⟨rfl, hb5⟩
    replace HBD := hide (HBD.out.chg (Chg.of_below0 (S := fun _ => False) hb5) (fun _ _ _ h => h))
    replace HB := hide (HB.out.trans (hb5.mono HB.out.size))
    replace HMX := hide (HMX.out.chg (Chg.of_below0 (S := fun _ => False) hb5) (fun h => h))
    clear hb5 HSM a0 a1 a2 a3 a4 a5 a6 a7 b0 b1 b2 b3 b4 b5 b6 b7 HX4 HH1 HOx HHx HQx HYES HRD HRS HRL
    have hrd := request_Read w5 _ b HBD.out (by have := HBM.out; omega) HMX.out
    have HCALL := hide hrd
    clear hrd
    go_wp2_with fail
    refine HCALL.out.mono ?_
    rintro e w20 ⟨hb20, hres⟩
    replace HBD := hide (HBD.out.chg (Chg.of_below0 (S := fun _ => False) hb20) (fun _ _ _ h => h))
    replace HB := hide (HB.out.trans (hb20.mono HB.out.size))
    replace HMX := hide (HMX.out.chg (Chg.of_below0 (S := fun _ => False) hb20) (fun h => h))
    clear hb20 HCALL
    rcases hres with ⟨hno, rfl⟩ | ⟨q, hyes, rfl, ho⟩
    · clear hno
      obtain ⟨q, hqq⟩ : ∃ q, q = qz 0 0 0 0 false := ⟨_, rfl⟩
      have ho : Own w20 w20.heap.size q.x := by rw [hqq]; exact ⟨World.ownsRow_nil _ _ _ _, World.ownsRow_nil _ _ _ _⟩
      have hq : q.r = rz 0 0 0 0 false := by rw [hqq]; rfl
      have hqv : rqZ = #[.int .i64 0, .int .i64 0, .int .i64 0, .int .i64 0, .bool false, .slice none 0 0, .slice none 0 0, .string ⟨#[]⟩] := rfl
      rw [hqv]
      clear hqq hqv ho hq q
      have hh := heap_alloc_new w20 (Obj.cells #[.int .i64 0, .int .i64 0, .int .i64 0, .int .i64 0, .bool false, .slice none 0 0, .slice none 0 0, .string ⟨#[]⟩] 27)
      have hal := Chg.alloc (fun _ => False) w20 (Obj.cells #[.int .i64 0, .int .i64 0, .int .i64 0, .int .i64 0, .bool false, .slice none 0 0, .slice none 0 0, .string ⟨#[]⟩] 27)
      obtain ⟨w21, hw21⟩ : ∃ w21, w21 = w20.alloc (Obj.cells #[.int .i64 0, .int .i64 0, .int .i64 0, .int .i64 0, .bool false, .slice none 0 0, .slice none 0 0, .string ⟨#[]⟩] 27) := ⟨_, rfl⟩
      rw [← hw21] at hh hal
      replace HB := hide (HB.out.trans (hal.below (n := W.heap.size) HB.out.size (fun _ _ h => h)))
      replace HMX := hide (HMX.out.chg hal (fun h => h))
      have HH := hide hh
      have HW21 := hide hw21
      clear hh hal hw21
      go_upto_region 16 with (fail)
      rw [← HW21.out]
      have a0 := cell_of_heap HH.out 0
      have a1 := cell_of_heap HH.out 1
      have a2 := cell_of_heap HH.out 2
      have a3 := cell_of_heap HH.out 3
      have a4 := cell_of_heap HH.out 4
      have a5 := cell_of_heap HH.out 5
      have a6 := cell_of_heap HH.out 6
      have a7 := cell_of_heap HH.out 7
      simp at a0 a1 a2 a3 a4 a5 a6 a7
      clear HW21
      have hsm := law_SameRequest w21 (qz 0 0 0 0 false) (qz 0 0 0 0 false) (cmZ_at _) (cmZ_at _) cmZ_few cmZ_few
      rw [rqEq_refl] at hsm
      have HSM := hide hsm
      clear hsm
      go_wp2_with fail
      refine HSM.out.mono ?_
      rintro e w22 ⟨rfl, hb22⟩
      replace HB := hide (HB.out.trans (hb22.mono HB.out.size))
      clear hb22 HSM a0 a1 a2 a3 a4 a5 a6 a7
      go_wp2_with fail
      refine (awake17 _ (HM.out.below HB.out HM.out.pos)).mono ?_
      rintro e w23 ⟨rfl, hb23⟩
      replace HB := hide (HB.out.trans (hb23.mono HB.out.size))
      clear hb23
      go_wp2_with fail
      go_ret
      exact ⟨rfl, HB.out⟩
    · have hq := rfl (a := q.r)
      obtain ⟨hm1, hm2⟩ := rdRq_some.1 hyes
      obtain ⟨r9, hr9⟩ : ∃ r, r = q.r := ⟨_, rfl⟩
      replace hq : q.r = r9 := hr9.symm
      rw [← hr9] at hm1 hm2
      have HM1 := hide hm1
      have HM2 := hide hm2
      clear hm1 hm2 hr9 hyes
      obtain ⟨kv, iv, nv, lv, sv, ⟨⟨psv, tsv, ntv⟩, xpv, xtv⟩⟩ := q
      obtain ⟨apv, cpv, hpv⟩ := ownsRow_shape ho.ps
      obtain ⟨aqv, cqv, htv⟩ := ownsRow_shape ho.ts
      simp only at hpv htv
      subst hpv htv
      have halv := Chg.alloc (fun _ => False) w20 (Obj.cells #[.int .i64 kv, .int .i64 iv, .int .i64 nv, .int .i64 lv, .bool sv, .slice apv psv.length cpv, .slice aqv tsv.length cqv, .string ntv] 27)
      have hhv := heap_alloc_new w20 (Obj.cells #[.int .i64 kv, .int .i64 iv, .int .i64 nv, .int .i64 lv, .bool sv, .slice apv psv.length cpv, .slice aqv tsv.length cqv, .string ntv] 27)
      have hzv : (w20.alloc (Obj.cells #[.int .i64 kv, .int .i64 iv, .int .i64 nv, .int .i64 lv, .bool sv, .slice apv psv.length cpv, .slice aqv tsv.length cqv, .string ntv] 27)).heap.size = w20.heap.size + 1 := World.size_alloc _ _
      obtain ⟨p21, hppv⟩ : ∃ p, p = w20.heap.size := ⟨_, rfl⟩
      obtain ⟨w21, hwwv⟩ : ∃ w, w = w20.alloc (Obj.cells #[.int .i64 kv, .int .i64 iv, .int .i64 nv, .int .i64 lv, .bool sv, .slice apv psv.length cpv, .slice aqv tsv.length cqv, .string ntv] 27) := ⟨_, rfl⟩
      rw [← hwwv] at halv hhv hzv
      rw [← hppv] at hhv hzv
      have HWv := hide hwwv
      have HPv := hide hppv
      have HHv := hide hhv
      have HZv := hide hzv
      have HQv := hide hq
      have HOv := hide (ho.chg halv (fun _ _ _ h => h))
      have HALv := hide halv
      unfold RqV.val
      clear halv hhv hzv hwwv hppv hq ho
      go_wp2_with fail
      rw [← HWv.out, ← HPv.out]
      clear HWv
      replace HBD := hide (HBD.out.chg HALv.out (fun _ _ _ h => h))
      replace HB := hide (HB.out.trans (HALv.out.below (n := W.heap.size) HB.out.size (fun _ _ h => h)))
      replace HMX := hide (HMX.out.chg HALv.out (fun h => h))
      clear HALv HZv HPv
      have hfw : Few (⟨psv, tsv, ntv⟩ : Cm) ∧ ntv.size ≤ 140737488351232 := by have h5 := own_few HM1.out; rw [← HQv.out] at h5; exact h5
      have hlz : layZ r9 = b ∧ layE r9 = 0 := by rw [layZ, layE, if_pos HM1.out, if_pos HM1.out]; exact ⟨HM2.out, rfl⟩
      have hly := request_LayZ w21 ⟨kv, iv, nv, lv, sv, ⟨⟨psv, tsv, ntv⟩, .slice apv psv.length cpv, .slice aqv tsv.length cqv⟩⟩ HOv.out.at hfw.1 hfw.2 HMX.out
      rw [HQv.out, hlz.1, hlz.2] at hly
      have HLY := hide hly
      have HFW := hide hfw
      clear hly hfw hlz
      refine HLY.out.mono ?_
      rintro e w22 ⟨hb22, ao22, cap22, rfl, ho22, -⟩
      replace HBD := hide (HBD.out.chg (Chg.of_below0 (S := fun _ => False) hb22) (fun _ _ _ h => h))
      replace HB := hide (HB.out.trans (hb22.mono HB.out.size))
      replace HMX := hide (HMX.out.chg (Chg.of_below0 (S := fun _ => False) hb22) (fun h => h))
      replace HHv := hide ((Chg.of_below0 (S := fun _ => False) hb22).heap HHv.out (fun h => h))
      replace HOv := hide (HOv.out.chg (Chg.of_below0 (S := fun _ => False) hb22) (fun _ _ _ h => h))
      have HOY := hide ho22
      clear hb22 ho22 HLY
      go_wp2_with fail
      refine (SameBytes_refl w22 _ _ b (Rd.of_owns HOY.out) HBD.out (by have := HBM.out; omega)).mono ?_
      rintro e w23 ⟨rfl, n23, hw23⟩
      have hc23 : Chg (fun _ => False) w22 w23 := hw23 ▸ Chg.drewN (fun _ => False) _ n23
      replace HB := hide (HB.out.trans (hc23.below (n := W.heap.size) HB.out.size (fun _ _ h => h)))
      replace HMX := hide (HMX.out.chg hc23 (fun h => h))
      replace HHv := hide (hc23.heap HHv.out (fun h => h))
      replace HOv := hide (HOv.out.chg hc23 (fun _ _ _ h => h))
      clear hc23 hw23 HOY HBD
      have a0 := cell_of_heap HHv.out 0
      have a1 := cell_of_heap HHv.out 1
      have a2 := cell_of_heap HHv.out 2
      have a3 := cell_of_heap HHv.out 3
      have a4 := cell_of_heap HHv.out 4
      have a5 := cell_of_heap HHv.out 5
      have a6 := cell_of_heap HHv.out 6
      have a7 := cell_of_heap HHv.out 7
      simp at a0 a1 a2 a3 a4 a5 a6 a7
      have hmy := request_May w23 ⟨kv, iv, nv, lv, sv, ⟨⟨psv, tsv, ntv⟩, .slice apv psv.length cpv, .slice aqv tsv.length cqv⟩⟩ HOv.out.at HFW.out.1 HFW.out.2 HMX.out
      rw [HQv.out, HM1.out] at hmy
      have HMYY := hide hmy
      clear hmy
      go_wp2_with fail
      refine HMYY.out.mono ?_
      rintro e w24 ⟨rfl, hb24⟩
      replace HB := hide (HB.out.trans (hb24.mono HB.out.size))
      clear hb24 HMYY a0 a1 a2 a3 a4 a5 a6 a7
      go_wp2_with fail
      refine (awake17 _ (HM.out.below HB.out HM.out.pos)).mono ?_
      rintro e w25 ⟨rfl, hb25⟩
      replace HB := hide (HB.out.trans (hb25.mono HB.out.size))
      clear hb25
      go_wp2_with fail
      go_ret
      exact ⟨rfl, HB.out⟩

set_option maxRecDepth 100000 in
theorem RequestBack_lifted (os : Os) (started : os.Started) (H : Type) (enc : TypeId × Value → H) :
    ReturnsInHanded {} Tryd.checked os 5 .any (fun w args => (Rows.requestBackSpec.pre enc Tryd.prog Tryd.f5 Rows.requestBackRow.domain false w args ∧ laidMetH Tryd.prog cardLaid w) ∧ sizedMet enc Tryd.prog Tryd.f5 (OpenSpec.ofChange Rows.requestBackSpec) false w args) (Rows.requestBackSpec.post enc Tryd.prog Tryd.f5 false true false false) := by
  refine card_wrap (C := Tryd.checked) (X := fun w => laidMetH Tryd.prog cardLaid w) law_own started (by kernel_rfl) Tryd.func5
    (ChangeSpec.witness_at (enc := enc) (C := Tryd.checked) (os := os) (X := fun w _ => laidMetH Tryd.prog cardLaid w) false (laidWorld os) #[.agg #[.int .i64 0, .int .i64 0, .int .i64 0, .int .i64 0, .bool false, .slice none 0 0, .slice none 0 0, .string ⟨#[]⟩], .slice none 0 0, .int .i64 0] 8 rfl (by kernel_rfl) (by kernel_rfl) (by kernel_rfl) (by kernel_rfl) (by kernel_rfl) (laidWorld_met os _)) ?_
  intro W base args ds gs before hval0 hW hsh
  have hM := mx_of_shaped hsh
  have hval : ∀ (j : Nat) t v, Tryd.f5.params[j]? = some t → args[j]? = some v → Value.okWide Tryd.prog W .any base t v := hval0
  have hW' := hW
  obtain ⟨p, q, hA0, hV, rfl, hfz, hnd⟩ := hW
  have hA : DataW.TrodAll enc Tryd.prog W 0 (fun _ => true) true Tryd.f5.params.toList args.toList ds p := hA0
  rw [Tryd.params5] at hA hval
  obtain ⟨v0, vs0, d0, ds0, p0, q0, hargs, rfl, rfl, h0, r0⟩ := trodAll_cons hA
  obtain ⟨v1, vs1, d1, ds1, p1, q1, rfl, rfl, rfl, h1, r1⟩ := trodAll_cons r0
  obtain ⟨v2, vs2, d2, ds2, p2, q2, rfl, rfl, rfl, h2, r2⟩ := trodAll_cons r1
  obtain ⟨rfl, rfl, rfl⟩ := trodAll_nil r2
  obtain rfl : args = #[v0, v1, v2] := by cases args; simp_all
  obtain ⟨rfl, rfl⟩ := trodVars_none hV
  have k0 := h0
  have lt0 : ∀ x ∈ p0, x.block < W.heap.size := by obtain ⟨m, hm⟩ := k0; exact DataW.trod_lt m _ _ _ hm
  obtain ⟨cs0, rfl, hsz0⟩ := okWide_struct Tryd.underlying27 (hval 0 27 v0 rfl rfl)
  have k1 := h1
  have lt1 : ∀ x ∈ p1, x.block < W.heap.size := by obtain ⟨m, hm⟩ := k1; exact DataW.trod_lt m _ _ _ hm
  obtain ⟨a1, len1, cap1, rfl⟩ := okWide_slice Tryd.underlying30 (hval 1 30 v1 rfl rfl)
  have k2 := h2
  have lt2 : ∀ x ∈ p2, x.block < W.heap.size := by obtain ⟨m, hm⟩ := k2; exact DataW.trod_lt m _ _ _ hm
  obtain ⟨a2, rfl, rfl, rfl, w2⟩ := open_int Tryd.underlying3 (hval 2 3 v2 rfl rfl) h2
  clear hA0 hval0
  refine (RequestBack_walk (enc := enc) W hM cs0 (Readable.of_trod h0) a1 len1 cap1 (Readable.of_trod h1) a2 w2).mono fun e W' ⟨he, bel⟩ => ?_
  subst he
  exact ⟨_, rfl, _, _, _, [], _, [], hW', trodAll_mk1 (shut_bool Tryd.underlying4 _), (trodAll_cons_mk (Below.trod law_laid (by kernel_rfl) (of_decide_eq_true (by kernel_rfl)) k0 bel lt0) (trodAll_cons_mk (Below.trod law_laid (by kernel_rfl) (of_decide_eq_true (by kernel_rfl)) k1 bel lt1) (trodAll_cons_mk (Below.trod law_laid (by kernel_rfl) (of_decide_eq_true (by kernel_rfl)) k2 bel lt2) trodAll_mk0))), rfl, bel.frame _, fun h => by cases h⟩

theorem RequestBack_over : Rows.requestBackRow.holds Tryd.pinned (OpenSpec.ofChange Rows.requestBackSpec) :=
  OpenClaim.holds_of_wide 5 Tryd.f5 rfl rfl rfl rfl rfl rfl rfl ⟨rfl, rfl, rfl, rfl, rfl⟩ rfl rfl rfl rfl rfl (by kernel_rfl) Tryd.func5 (by kernel_rfl)
    (of_decide_eq_true (by kernel_rfl)) (by unfold Func.isWrapper; first | (rw [if_pos (by decide +kernel)]; kernel_rfl) | (rw [if_neg (by decide +kernel)]; exact ⟨rfl, rfl⟩))
    (fun os started H enc _ => RequestBack_lifted os started H enc)

theorem RequestBack_params : ∀ (j : Nat) t, Tryd.f5.params[j]? = some t → Tryd.prog.wantsStandIn t = false := by
  intro j t ht
  rw [Tryd.params5] at ht
  have hm : t ∈ ([27, 30, 3] : List TypeId) := List.mem_of_getElem? (i := j) (by simpa using ht)
  simp only [List.mem_cons, List.not_mem_nil, or_false] at hm
  rcases hm with h | h | h
  · subst h; exact (show Tryd.prog.wantsStandIn 27 = false by kernel_rfl)
  · subst h; exact (show Tryd.prog.wantsStandIn 30 = false by kernel_rfl)
  · subst h; exact (show Tryd.prog.wantsStandIn 3 = false by kernel_rfl)
theorem RequestBack_holds : Rows.RequestBackCardSaid :=
  Claim7.holds_tied_plain_at .later [] [.data, .pinned] true (true, "c4be9e7f0cdbaae3bf531276a3d215d8076bde4fb581a78ccccc1d3c7d66db3a") false
    RequestBack_over (fun _ h => by cases h) (by kernel_rfl) (fun _ h => by cases h) requestBack_row_tie rfl ⟨rfl, rfl⟩ (by kernel_rfl) rfl
    (fun f fn hf hfn => by
      obtain rfl : f = 5 := Option.some.inj ((show Tryd.prog.funcNamed "cortege/cortegelaw17.RequestBack" = some 5 by kernel_rfl).symm.trans hf) |>.symm
      obtain rfl : fn = Tryd.f5 := (Option.some.inj (Tryd.func5.symm.trans hfn)).symm
      exact ⟨by kernel_rfl, RequestBack_params⟩)
    (by kernel_rfl)
#print axioms RequestBack_holds

end Go.Proofs.YtjmmmpnpkialjaaDoor
