/- RequestReads: any bytes are read as the document says, or refused. Conditions: none. -/
import Derived.Test.YtjmmmpnpkialjaaDoorRows
import Derived.Test.YtjmmmpnpkialjaaDoorTie
import Derived.Test.YtjmmmpnpkialjaaDoorCards
import Derived.Test.YtjmmmpnpkialjaaDoorCardB
import Derived.SevenTiedAt
import Derived.Test.YtjmmmpnpkialjaaDoorReqV
import Derived.Deep.CutRange
namespace Go.Proofs.YtjmmmpnpkialjaaDoor
open Go.ChangeShapes Go.WideShapes Go.ChangeAt Go.RowKit
open Go.ChangeMaps (open_string shut_string)
set_option linter.unusedVariables false
open Go.Shelf

set_option maxHeartbeats 4000000 in
set_option maxRecDepth 100000 in
theorem RequestReads_walk {H : Type} {enc : TypeId × Value → H} (W : World) (hM : Mx W) (a0 : Option Addr) (n0 c0 : Nat) (hv : Readable enc Tryd.prog W 30 (Value.slice a0 n0 c0).cells.toList) :
    Calls Tryd.prog 4 #[.slice a0 n0 c0] W fun e W' => e = .returned (.bool true) ∧ Below W.heap.size W W' := by
  obtain ⟨v', b, hv', hb, hm, -⟩ := hv.bytes Tryd.underlying30 Tryd.underlying5 (by kernel_rfl)
  obtain rfl : .slice a0 n0 c0 = v' := by
    have h : [Value.slice a0 n0 c0] = [v'] := hv'
    simpa using h
  obtain ⟨ao, cap, e, -, -⟩ := hb.shape
  cases e
  have HB := hide hb
  have HM := hide hM
  clear hb hv hv' hM
  by_cases hl : 3000 < b.length
  · go_enter Tryd.func4, Tryd.ntmps4
    go_wp2_with fail
    refine (awake17 _ HM.out).mono ?_
    rintro e w3 ⟨rfl, hb3⟩
    have HB3 := hide hb3
    clear hb3
    go_wp2_with fail
    go_ret
    exact ⟨rfl, HB3.out⟩
  · have hbm : b.length ≤ 3000 := by omega
    have HBM := hide hbm
    clear hbm
    go_enter Tryd.func4, Tryd.ntmps4
    go_wp2_with fail
    refine (LendBytes_ok W _ b HB.out (by omega)).mono ?_
    rintro e w1 ⟨vin, rfl, hlent, hb1⟩
    have HL1 := hide hlent
    have HB1 := hide hb1
    clear hlent hb1
    go_wp2_with fail
    refine (request_ReadZ w1 _ b HL1.out.rd (by omega) (HM.out.below HB1.out HM.out.pos)).mono ?_
    rintro e w2 ⟨hb2, q, hq, rfl, ho⟩
    have HLT := hide (show ∀ k, vin.ownBlock = some k → k < w1.heap.size from fun k hk => (HL1.out.lt k hk).2)
    replace HL1 := hide (HL1.out.chg (Chg.of_below0 (S := fun _ => False) hb2) (fun _ _ h => h))
    replace HB1 := hide (HB1.out.trans (hb2.mono HB1.out.size))
    have HS2 := hide hb2.size
    clear hb2
    obtain ⟨kx, ix, nx, lx, sx, ⟨⟨psx, tsx, ntx⟩, xpx, xtx⟩⟩ := q
    obtain ⟨apx, cpx, hpx⟩ := ownsRow_shape ho.ps
    obtain ⟨aqx, cqx, htx⟩ := ownsRow_shape ho.ts
    simp only at hpx htx
    subst hpx htx
    have halx := Chg.alloc (fun _ => False) w2 (Obj.cells #[.int .i64 kx, .int .i64 ix, .int .i64 nx, .int .i64 lx, .bool sx, .slice apx psx.length cpx, .slice aqx tsx.length cqx, .string ntx] 27)
    have hhx := heap_alloc_new w2 (Obj.cells #[.int .i64 kx, .int .i64 ix, .int .i64 nx, .int .i64 lx, .bool sx, .slice apx psx.length cpx, .slice aqx tsx.length cqx, .string ntx] 27)
    have hzx : (w2.alloc (Obj.cells #[.int .i64 kx, .int .i64 ix, .int .i64 nx, .int .i64 lx, .bool sx, .slice apx psx.length cpx, .slice aqx tsx.length cqx, .string ntx] 27)).heap.size = w2.heap.size + 1 := World.size_alloc _ _
    obtain ⟨p2, hppx⟩ : ∃ p, p = w2.heap.size := ⟨_, rfl⟩
    obtain ⟨w3, hwwx⟩ : ∃ w, w = w2.alloc (Obj.cells #[.int .i64 kx, .int .i64 ix, .int .i64 nx, .int .i64 lx, .bool sx, .slice apx psx.length cpx, .slice aqx tsx.length cqx, .string ntx] 27) := ⟨_, rfl⟩
    rw [← hwwx] at halx hhx hzx
    rw [← hppx] at hhx hzx
    have HWx := hide hwwx
    have HPx := hide hppx
    have HHx := hide hhx
    have HZx := hide hzx
    have HQx := hide hq
    have HOx := hide (ho.chg halx (fun _ _ _ h => h))
    have HALx := hide halx
    unfold RqV.val
    clear halx hhx hzx hwwx hppx hq ho
    go_wp2_with fail
    rw [← HWx.out, ← HPx.out]
    clear HWx
    replace HL1 := hide (HL1.out.chg HALx.out (fun _ _ h => h))
    replace HB1 := hide (HB1.out.trans (HALx.out.below (n := W.heap.size) HB1.out.size (fun _ _ h => h)))
    clear HALx
    refine (ref17_ReadZ w3 _ b (HB.out.chg (Chg.of_below0 (S := fun _ => False) HB1.out) (fun _ _ _ h => h)) (by have := HBM.out; omega)).mono ?_
    rintro e w4 ⟨hb4, q, hq, rfl, ho⟩
    replace HL1 := hide (HL1.out.chg (Chg.of_below0 (S := fun _ => False) hb4) (fun _ _ h => h))
    replace HB1 := hide (HB1.out.trans (hb4.mono HB1.out.size))
    replace HHx := hide ((Chg.of_below0 (S := fun _ => False) hb4).heap HHx.out (fun h => h))
    replace HOx := hide (HOx.out.chg (Chg.of_below0 (S := fun _ => False) hb4) (fun _ _ _ h => h))
    have HS4 := hide hb4.size
    clear hb4
    obtain ⟨ky, iy, ny, ly, sy, ⟨⟨psy, tsy, nty⟩, xpy, xty⟩⟩ := q
    obtain ⟨apy, cpy, hpy⟩ := ownsRow_shape ho.ps
    obtain ⟨aqy, cqy, hty⟩ := ownsRow_shape ho.ts
    simp only at hpy hty
    subst hpy hty
    have haly := Chg.alloc (fun _ => False) w4 (Obj.cells #[.int .i64 ky, .int .i64 iy, .int .i64 ny, .int .i64 ly, .bool sy, .slice apy psy.length cpy, .slice aqy tsy.length cqy, .string nty] 27)
    have hhy := heap_alloc_new w4 (Obj.cells #[.int .i64 ky, .int .i64 iy, .int .i64 ny, .int .i64 ly, .bool sy, .slice apy psy.length cpy, .slice aqy tsy.length cqy, .string nty] 27)
    have hzy : (w4.alloc (Obj.cells #[.int .i64 ky, .int .i64 iy, .int .i64 ny, .int .i64 ly, .bool sy, .slice apy psy.length cpy, .slice aqy tsy.length cqy, .string nty] 27)).heap.size = w4.heap.size + 1 := World.size_alloc _ _
    obtain ⟨p4, hppy⟩ : ∃ p, p = w4.heap.size := ⟨_, rfl⟩
    obtain ⟨w5, hwwy⟩ : ∃ w, w = w4.alloc (Obj.cells #[.int .i64 ky, .int .i64 iy, .int .i64 ny, .int .i64 ly, .bool sy, .slice apy psy.length cpy, .slice aqy tsy.length cqy, .string nty] 27) := ⟨_, rfl⟩
    rw [← hwwy] at haly hhy hzy
    rw [← hppy] at hhy hzy
    have HWy := hide hwwy
    have HPy := hide hppy
    have HHy := hide hhy
    have HZy := hide hzy
    have HQy := hide hq
    have HOy := hide (ho.chg haly (fun _ _ _ h => h))
    have HALy := hide haly
    unfold RqV.val
    clear haly hhy hzy hwwy hppy hq ho
    go_wp2_with fail
    rw [← HWy.out, ← HPy.out]
    clear HWy
    replace HL1 := hide (HL1.out.chg HALy.out (fun _ _ h => h))
    replace HB1 := hide (HB1.out.trans (HALy.out.below (n := W.heap.size) HB1.out.size (fun _ _ h => h)))
    replace HHx := hide (HALy.out.heap HHx.out (fun h => h))
    replace HOx := hide (HOx.out.chg HALy.out (fun _ _ _ h => h))
    clear HALy
    refine (OverBytes_ok w5 vin _ _ (HL1.out.owns (by have := HBM.out; omega)) HB1.out.size (by have := HBM.out; omega)).mono ?_
    rintro e w6 ⟨rfl, hc6⟩
    have hlt := HLT.out
    have hgt := HL1.out.lt
    have hs2 := HS2.out
    have hp2 := HPx.out
    have hz2 := HZx.out
    have hs4 := HS4.out
    have hp4 := HPy.out
    replace HHx := hide (hc6.heap HHx.out (fun h => by have h5 := hlt _ h; omega))
    replace HHy := hide (hc6.heap HHy.out (fun h => by have h5 := hlt _ h; omega))
    replace HOx := hide (HOx.out.chg hc6 (fun k hk _ h => by have h5 := hlt _ h; omega))
    replace HOy := hide (HOy.out.chg hc6 (fun k hk _ h => by have h5 := hlt _ h; omega))
    replace HB1 := hide (HB1.out.trans (hc6.below (n := W.heap.size) HB1.out.size (fun k hk h => by have h5 := hgt k h; omega)))
    clear hlt hgt hs2 hp2 hz2 hs4 hp4 hc6 HL1 HLT HPx HPy HZx HZy HS2 HS4
    have a0 := cell_of_heap HHx.out 0
    have a1 := cell_of_heap HHx.out 1
    have a2 := cell_of_heap HHx.out 2
    have a3 := cell_of_heap HHx.out 3
    have a4 := cell_of_heap HHx.out 4
    have a5 := cell_of_heap HHx.out 5
    have a6 := cell_of_heap HHx.out 6
    have a7 := cell_of_heap HHx.out 7
    have b0 := cell_of_heap HHy.out 0
    have b1 := cell_of_heap HHy.out 1
    have b2 := cell_of_heap HHy.out 2
    have b3 := cell_of_heap HHy.out 3
    have b4 := cell_of_heap HHy.out 4
    have b5 := cell_of_heap HHy.out 5
    have b6 := cell_of_heap HHy.out 6
    have b7 := cell_of_heap HHy.out 7
    simp at a0 a1 a2 a3 a4 a5 a6 a7 b0 b1 b2 b3 b4 b5 b6 b7
    have hfx : Few (⟨psx, tsx, ntx⟩ : Cm) := by have h5 := (rdZ_few b).1; rw [← HQx.out] at h5; exact h5
    have hfy : Few (⟨psy, tsy, nty⟩ : Cm) := by have h5 := (rdZ_few b).1; rw [← HQy.out] at h5; exact h5
    have hsm := law_SameRequest w6 ⟨kx, ix, nx, lx, sx, ⟨⟨psx, tsx, ntx⟩, .slice apx psx.length cpx, .slice aqx tsx.length cqx⟩⟩ ⟨ky, iy, ny, ly, sy, ⟨⟨psy, tsy, nty⟩, .slice apy psy.length cpy, .slice aqy tsy.length cqy⟩⟩ HOx.out.at HOy.out.at hfx hfy
    rw [HQx.out, HQy.out, rqEq_refl] at hsm
    have HSM := hide hsm
    clear hsm hfx hfy
    go_wp2_with fail
    refine HSM.out.mono ?_
    rintro e w7 ⟨rfl, hb7⟩
    replace HB1 := hide (HB1.out.trans (hb7.mono HB1.out.size))
    clear hb7 HSM a0 a1 a2 a3 a4 a5 a6 a7 b0 b1 b2 b3 b4 b5 b6 b7
    go_wp2_with fail
    refine (Num_ok w7 (rdC b)).mono ?_
    rintro e w8 ⟨rfl, rfl⟩
    go_wp2_with fail
    refine (awake17 w8 (HM.out.below HB1.out HM.out.pos)).mono ?_
    rintro e w9 ⟨rfl, hb9⟩
    replace HB1 := hide (HB1.out.trans (hb9.mono HB1.out.size))
    clear hb9
    go_wp2_with fail
    go_ret
    exact ⟨rfl, HB1.out⟩

set_option maxRecDepth 100000 in
theorem RequestReads_lifted (os : Os) (started : os.Started) (H : Type) (enc : TypeId × Value → H) :
    ReturnsInHanded {} Tryd.checked os 4 .any (fun w args => (Rows.requestReadsSpec.pre enc Tryd.prog Tryd.f4 Rows.requestReadsRow.domain false w args ∧ laidMetH Tryd.prog cardLaid w) ∧ sizedMet enc Tryd.prog Tryd.f4 (OpenSpec.ofChange Rows.requestReadsSpec) false w args) (Rows.requestReadsSpec.post enc Tryd.prog Tryd.f4 false true false false) := by
  refine card_wrap (C := Tryd.checked) (X := fun w => laidMetH Tryd.prog cardLaid w) law_own started (by kernel_rfl) Tryd.func4
    (ChangeSpec.witness_at (enc := enc) (C := Tryd.checked) (os := os) (X := fun w _ => laidMetH Tryd.prog cardLaid w) false (laidWorld os) #[.slice none 0 0] 8 rfl (by kernel_rfl) (by kernel_rfl) (by kernel_rfl) (by kernel_rfl) (by kernel_rfl) (laidWorld_met os _)) ?_
  intro W base args ds gs before hval0 hW hsh
  have hM := mx_of_shaped hsh
  have hval : ∀ (j : Nat) t v, Tryd.f4.params[j]? = some t → args[j]? = some v → Value.okWide Tryd.prog W .any base t v := hval0
  have hW' := hW
  obtain ⟨p, q, hA0, hV, rfl, hfz, hnd⟩ := hW
  have hA : DataW.TrodAll enc Tryd.prog W 0 (fun _ => true) true Tryd.f4.params.toList args.toList ds p := hA0
  rw [Tryd.params4] at hA hval
  obtain ⟨v0, vs0, d0, ds0, p0, q0, hargs, rfl, rfl, h0, r0⟩ := trodAll_cons hA
  obtain ⟨rfl, rfl, rfl⟩ := trodAll_nil r0
  obtain rfl : args = #[v0] := by cases args; simp_all
  obtain ⟨rfl, rfl⟩ := trodVars_none hV
  have k0 := h0
  have lt0 : ∀ x ∈ p0, x.block < W.heap.size := by obtain ⟨m, hm⟩ := k0; exact DataW.trod_lt m _ _ _ hm
  obtain ⟨a0, len0, cap0, rfl⟩ := okWide_slice Tryd.underlying30 (hval 0 30 v0 rfl rfl)
  clear hA0 hval0
  refine (RequestReads_walk (enc := enc) W hM a0 len0 cap0 (Readable.of_trod h0)).mono fun e W' ⟨he, bel⟩ => ?_
  subst he
  exact ⟨_, rfl, _, _, _, [], _, [], hW', trodAll_mk1 (shut_bool Tryd.underlying4 _), (trodAll_cons_mk (Below.trod law_laid (by kernel_rfl) (of_decide_eq_true (by kernel_rfl)) k0 bel lt0) trodAll_mk0), rfl, bel.frame _, fun h => by cases h⟩

theorem RequestReads_over : Rows.requestReadsRow.holds Tryd.pinned (OpenSpec.ofChange Rows.requestReadsSpec) :=
  OpenClaim.holds_of_wide 4 Tryd.f4 rfl rfl rfl rfl rfl rfl rfl ⟨rfl, rfl, rfl, rfl, rfl⟩ rfl rfl rfl rfl rfl (by kernel_rfl) Tryd.func4 (by kernel_rfl)
    (of_decide_eq_true (by kernel_rfl)) (by unfold Func.isWrapper; first | (rw [if_pos (by decide +kernel)]; kernel_rfl) | (rw [if_neg (by decide +kernel)]; exact ⟨rfl, rfl⟩))
    (fun os started H enc _ => RequestReads_lifted os started H enc)

theorem RequestReads_params : ∀ (j : Nat) t, Tryd.f4.params[j]? = some t → Tryd.prog.wantsStandIn t = false := by
  intro j t ht
  rw [Tryd.params4] at ht
  have hm : t ∈ ([30] : List TypeId) := List.mem_of_getElem? (i := j) (by simpa using ht)
  simp only [List.mem_cons, List.not_mem_nil, or_false] at hm
  subst hm
  exact (show Tryd.prog.wantsStandIn 30 = false by kernel_rfl)
theorem RequestReads_holds : Rows.RequestReadsCardSaid :=
  Claim7.holds_tied_plain_at .later [] [.data, .pinned] true (true, "c4be9e7f0cdbaae3bf531276a3d215d8076bde4fb581a78ccccc1d3c7d66db3a") false
    RequestReads_over (fun _ h => by cases h) (by kernel_rfl) (fun _ h => by cases h) requestReads_row_tie rfl ⟨rfl, rfl⟩ (by kernel_rfl) rfl
    (fun f fn hf hfn => by
      obtain rfl : f = 4 := Option.some.inj ((show Tryd.prog.funcNamed "cortege/cortegelaw17.RequestReads" = some 4 by kernel_rfl).symm.trans hf) |>.symm
      obtain rfl : fn = Tryd.f4 := (Option.some.inj (Tryd.func4.symm.trans hfn)).symm
      exact ⟨by kernel_rfl, RequestReads_params⟩)
    (by kernel_rfl)
#print axioms RequestReads_holds

end Go.Proofs.YtjmmmpnpkialjaaDoor
