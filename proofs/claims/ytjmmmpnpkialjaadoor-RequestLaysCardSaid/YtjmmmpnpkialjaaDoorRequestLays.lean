/- RequestLays: which requests may be, their bytes, and which are the same, is the document's. Conditions: none. -/
import Derived.Test.YtjmmmpnpkialjaaDoorRows
import Derived.Test.YtjmmmpnpkialjaaDoorTie
import Derived.Test.YtjmmmpnpkialjaaDoorCards
import Derived.Test.YtjmmmpnpkialjaaDoorCardB
import Derived.SevenTiedAt
import Derived.Test.YtjmmmpnpkialjaaDoorReqZ
import Derived.Test.YtjmmmpnpkialjaaDoorReg
import Derived.Deep.CutRange
namespace Go.Proofs.YtjmmmpnpkialjaaDoor
open Go.ChangeShapes Go.WideShapes Go.ChangeAt Go.RowKit
open Go.ChangeMaps (open_string shut_string)
set_option linter.unusedVariables false
open Go.Shelf
attribute [local go_sem] Oper.semAt_some

set_option maxHeartbeats 4000000 in
set_option maxRecDepth 100000 in
theorem RequestLays_walk {H : Type} {enc : TypeId × Value → H} (W : World) (hM : Mx W) (cs : Array Value) (hv : Readable enc Tryd.prog W 27 cs.toList) (ds : Array Value) (hu : Readable enc Tryd.prog W 27 ds.toList) :
    Calls Tryd.prog 3 #[.agg cs, .agg ds] W fun e W' => e = .returned (.bool true) ∧ Below W.heap.size W W' := by
  obtain ⟨⟨k, i, n, l, p, ⟨⟨xps, xts, xn⟩, xp, xt⟩⟩, hcs, hxa, hxw, -, -, -, -⟩ := request_of_readable hv
  obtain ⟨⟨k', i', n', l', p', ⟨⟨yps, yts, yn⟩, yp, yt⟩⟩, hds, hya, hyw, -, -, -, -⟩ := request_of_readable hu
  simp only at hcs hds hxa hxw hya hyw
  obtain rfl : cs = #[.int .i64 k, .int .i64 i, .int .i64 n, .int .i64 l, .bool p, xp, xt, .string xn] := by cases cs; simp at hcs; rw [hcs]
  obtain rfl : ds = #[.int .i64 k', .int .i64 i', .int .i64 n', .int .i64 l', .bool p', yp, yt, .string yn] := by cases ds; simp at hds; rw [hds]
  have h1 := heap_alloc_new W (.cells #[.int .i64 k, .int .i64 i, .int .i64 n, .int .i64 l, .bool p, xp, xt, .string xn] 27)
  have hb1 := (Below.refl W.heap.size W).alloc (Nat.le_refl _) (.cells #[.int .i64 k, .int .i64 i, .int .i64 n, .int .i64 l, .bool p, xp, xt, .string xn] 27)
  have h2 := heap_alloc_new (W.alloc (.cells #[.int .i64 k, .int .i64 i, .int .i64 n, .int .i64 l, .bool p, xp, xt, .string xn] 27)) (.cells #[.int .i64 k', .int .i64 i', .int .i64 n', .int .i64 l', .bool p', yp, yt, .string yn] 27)
  have hb2 := hb1.alloc (by simp) (.cells #[.int .i64 k', .int .i64 i', .int .i64 n', .int .i64 l', .bool p', yp, yt, .string yn] 27)
  replace h1 := (Chg.alloc (fun _ => False) _ (.cells #[.int .i64 k', .int .i64 i', .int .i64 n', .int .i64 l', .bool p', yp, yt, .string yn] 27)).heap h1 (fun h => h)
  rw [World.size_alloc] at h2
  obtain ⟨p1, hp1⟩ : ∃ p, p = W.heap.size + 1 := ⟨_, rfl⟩
  obtain ⟨W1, hW1⟩ : ∃ W1, W1 = (W.alloc (.cells #[.int .i64 k, .int .i64 i, .int .i64 n, .int .i64 l, .bool p, xp, xt, .string xn] 27)).alloc (.cells #[.int .i64 k', .int .i64 i', .int .i64 n', .int .i64 l', .bool p', yp, yt, .string yn] 27) := ⟨_, rfl⟩
  rw [← hW1] at h1 h2 hb2
  rw [← hp1] at h2
  have HH1 := hide h1
  have HH2 := hide h2
  have HB := hide hb2
  have HM := hide hM
  have HXA := hide hxa
  have HYA := hide hya
  have HG1 := hide (GreatCommit_ok W1 ⟨⟨xps, xts, xn⟩, xp, xt⟩ (hxa.same (Chg.of_below0 hb2)) hxw)
  have HG2 := hide (fun W2 (h : Below W.heap.size W W2) => GreatCommit_ok W2 ⟨⟨yps, yts, yn⟩, yp, yt⟩ (hya.same (Chg.of_below0 h)) hyw)
  have HW1 := hide hW1
  have HP1 := hide hp1
  clear h1 h2 hb1 hb2 hM hv hu hcs hds hxa hxw hya hyw hW1 hp1
  go_enter Tryd.func3, Tryd.ntmps3
  go_upto_region 1 with (fail)
  rw [← HW1.out, ← HP1.out]
  clear HW1
  have a5 := cell_of_heap HH1.out 5
  have a6 := cell_of_heap HH1.out 6
  have a7 := cell_of_heap HH1.out 7
  simp at a5 a6 a7
  go_wp2_with fail
  refine HG1.out.mono ?_
  rintro e w2 ⟨rfl, hb⟩
  replace HB := hide (HB.out.trans (hb.mono HB.out.size))
  replace HH1 := hide ((Chg.of_below0 (S := fun _ => False) hb).heap HH1.out (fun h => h))
  replace HH2 := hide ((Chg.of_below0 (S := fun _ => False) hb).heap HH2.out (fun h => h))
  clear hb HG1 a5 a6 a7
  cases hg1 : greatC ⟨xps, xts, xn⟩ with
  | true =>
    clear hg1
    go_wp2_with fail
    refine (awake17 _ (HM.out.below HB.out HM.out.pos)).mono ?_
    rintro e w3 ⟨rfl, hb3⟩
    replace HB := hide (HB.out.trans (hb3.mono HB.out.size))
    clear hb3
    go_wp2_with fail
    go_ret
    exact ⟨rfl, HB.out⟩
  | false =>
  have HG := hide hg1
  clear hg1
  have b5 := cell_of_heap HH2.out 5
  have b6 := cell_of_heap HH2.out 6
  have b7 := cell_of_heap HH2.out 7
  simp at b5 b6 b7
  go_wp2_with fail
  refine (HG2.out _ HB.out).mono ?_
  rintro e w3 ⟨rfl, hb⟩
  replace HB := hide (HB.out.trans (hb.mono HB.out.size))
  replace HH1 := hide ((Chg.of_below0 (S := fun _ => False) hb).heap HH1.out (fun h => h))
  replace HH2 := hide ((Chg.of_below0 (S := fun _ => False) hb).heap HH2.out (fun h => h))
  clear hb HG2 b5 b6 b7
  cases hg2 : greatC ⟨yps, yts, yn⟩ with
  | true =>
    clear hg2
    go_wp2_with fail
    refine (awake17 _ (HM.out.below HB.out HM.out.pos)).mono ?_
    rintro e w4 ⟨rfl, hb3⟩
    replace HB := hide (HB.out.trans (hb3.mono HB.out.size))
    clear hb3
    go_wp2_with fail
    go_ret
    exact ⟨rfl, HB.out⟩
  | false =>
  have HGY := hide hg2
  clear hg2
  obtain ⟨hf1, hn1, hs1⟩ := great_small HG.out
  obtain ⟨hf2, hn2, hs2⟩ := great_small HGY.out
  have HF1 := hide hf1
  have HN1 := hide hn1
  have HS1 := hide hs1
  have HF2 := hide hf2
  clear hf1 hn1 hs1 hf2 hn2 hs2 HG HGY
  have hx3 := fun W4 (h : Chg (fun _ => False) w3 W4) => (HXA.out.same (Chg.of_below0 HB.out)).same h
  have hy3 := fun W4 (h : Chg (fun _ => False) w3 W4) => (HYA.out.same (Chg.of_below0 HB.out)).same h
  have HX3 := hide hx3
  have HY3 := hide hy3
  have HMX := hide (HM.out.below HB.out HM.out.pos)
  clear hx3 hy3 HXA HYA
  have a0 := cell_of_heap HH1.out 0
  have a1 := cell_of_heap HH1.out 1
  have a2 := cell_of_heap HH1.out 2
  have a3 := cell_of_heap HH1.out 3
  have a4 := cell_of_heap HH1.out 4
  have a5 := cell_of_heap HH1.out 5
  have a6 := cell_of_heap HH1.out 6
  have a7 := cell_of_heap HH1.out 7
  simp at a0 a1 a2 a3 a4 a5 a6 a7
  go_wp2_with fail
  refine (request_LayZ w3 ⟨k, i, n, l, p, ⟨⟨xps, xts, xn⟩, xp, xt⟩⟩ (HX3.out _ (Chg.refl _ _)) HF1.out HN1.out HMX.out).mono ?_
  rintro e w4 ⟨hb4, ao4, cap4, rfl, ho4, -⟩
  have hc4 : Chg (fun _ => False) w3 w4 := Chg.of_below0 hb4
  replace HH1 := hide (hc4.heap HH1.out (fun h => h))
  have HO4 := hide ho4
  have HC4 := hide hc4
  have HS4 := hide hb4.size
  clear hb4 hc4 ho4 a0 a1 a2 a3 a4 a5 a6 a7
  have a0 := cell_of_heap HH1.out 0
  have a1 := cell_of_heap HH1.out 1
  have a2 := cell_of_heap HH1.out 2
  have a3 := cell_of_heap HH1.out 3
  have a4 := cell_of_heap HH1.out 4
  have a5 := cell_of_heap HH1.out 5
  have a6 := cell_of_heap HH1.out 6
  have a7 := cell_of_heap HH1.out 7
  simp at a0 a1 a2 a3 a4 a5 a6 a7
  go_wp2_with fail
  refine (ref17_LayZ w4 ⟨k, i, n, l, p, ⟨⟨xps, xts, xn⟩, xp, xt⟩⟩ (HX3.out _ HC4.out) HF1.out HS1.out).mono ?_
  rintro e w5 ⟨hb5, ao5, cap5, rfl, ho5⟩
  have hc5 : Chg (fun _ => False) w3 w5 := HC4.out.trans (Chg.of_below0 (S := fun _ => False) hb5) (fun _ _ h => h) (fun _ _ h => h)
  replace HH1 := hide ((Chg.of_below0 (S := fun _ => False) hb5).heap HH1.out (fun h => h))
  replace HH2 := hide (hc5.heap HH2.out (fun h => h))
  have HO5 := hide ho5
  replace HO4 := hide ((Chg.of_below0 (S := fun _ => False) hb5).owns HO4.out (fun _ _ h => h))
  have HC5 := hide hc5
  have HS5 := hide hb5.size
  clear hb5 hc5 ho5 HC4 a0 a1 a2 a3 a4 a5 a6 a7
  go_upto_region 5 with (fail)
  have a0 := cell_of_heap HH1.out 0
  have a1 := cell_of_heap HH1.out 1
  have a2 := cell_of_heap HH1.out 2
  have a3 := cell_of_heap HH1.out 3
  have a4 := cell_of_heap HH1.out 4
  have a5 := cell_of_heap HH1.out 5
  have a6 := cell_of_heap HH1.out 6
  have a7 := cell_of_heap HH1.out 7
  have b0 := cell_of_heap HH2.out 0
  have b1 := cell_of_heap HH2.out 1
  have b2 := cell_of_heap HH2.out 2
  have b3 := cell_of_heap HH2.out 3
  have b4 := cell_of_heap HH2.out 4
  have b5 := cell_of_heap HH2.out 5
  have b6 := cell_of_heap HH2.out 6
  have b7 := cell_of_heap HH2.out 7
  simp at a0 a1 a2 a3 a4 a5 a6 a7 b0 b1 b2 b3 b4 b5 b6 b7
  have hxl := layZ_len (RqV.r ⟨k, i, n, l, p, ⟨⟨xps, xts, xn⟩, xp, xt⟩⟩)
  have HXL := hide hxl
  clear hxl
  have HAX := hide (fun W4 (h : Chg (fun _ => False) w5 W4) => HX3.out W4 (HC5.out.trans h (fun _ _ h => h) (fun _ _ h => h)))
  have HAY := hide (fun W4 (h : Chg (fun _ => False) w5 W4) => HY3.out W4 (HC5.out.trans h (fun _ _ h => h) (fun _ _ h => h)))
  have HMZ := hide (fun W4 (h : Chg (fun _ => False) w5 W4) => HMX.out.chg (HC5.out.trans h (S'' := fun _ => False) (fun _ _ h => h) (fun _ _ h => h)) (fun h => h))
  obtain ⟨Z, hZ⟩ : ∃ Z, Z = layZ (RqV.r ⟨k, i, n, l, p, ⟨⟨xps, xts, xn⟩, xp, xt⟩⟩) := ⟨_, rfl⟩
  obtain ⟨E, hE⟩ : ∃ E, E = layE (RqV.r ⟨k, i, n, l, p, ⟨⟨xps, xts, xn⟩, xp, xt⟩⟩) := ⟨_, rfl⟩
  rw [← hZ] at HO4 HO5 HXL
  rw [← hZ, ← hE]
  obtain ⟨m8, hm8⟩ : ∃ m, m = mayRq (RqV.r ⟨k, i, n, l, p, ⟨⟨xps, xts, xn⟩, xp, xt⟩⟩) := ⟨_, rfl⟩
  obtain ⟨s8, hs8⟩ : ∃ m, m = rqEq (RqV.r ⟨k, i, n, l, p, ⟨⟨xps, xts, xn⟩, xp, xt⟩⟩) (RqV.r ⟨k', i', n', l', p', ⟨⟨yps, yts, yn⟩, yp, yt⟩⟩) := ⟨_, rfl⟩
  have HM8 := hide hm8
  have HS8 := hide hs8
  clear hZ hE HX3 HY3 HMX hm8 hs8
  refine reg_start (Chg (fun _ => False) w5) 31 31 (by rfl) (by kernel_rfl) (Chg.drew _ _) ?_
  intro hS0
  have hSc := hS0
  refine reg_take (i := 0) (v := ?g2v) rfl (by kernel_rfl) (by kernel_rfl) (by kernel_rfl) (by kernel_rfl) (fun _ _ _ h => h) (by rfl) ?g2y (by assumption) ?g2r
  case g2y => (intro W hS; first | (go_simp; done) | (go_simp; with_reducible rfl))
  simp only [Act.put, List.setIfInBounds_toArray, List.set_cons_zero, List.set_cons_succ]
  refine reg_take (i := 1) (v := ?g3v) rfl (by kernel_rfl) (by kernel_rfl) (by kernel_rfl) (by kernel_rfl) (fun _ _ _ h => h) (by rfl) ?g3y (by assumption) ?g3r
  case g3y => (intro W hS; first | (go_simp; done) | (go_simp; with_reducible rfl))
  simp only [Act.put, List.setIfInBounds_toArray, List.set_cons_zero, List.set_cons_succ]
  refine reg_one (i := 2) (by kernel_rfl) ?_
  refine op_call (i := 2) (#[.slice ao4 Z.length cap4, .slice ao5 Z.length cap5]) rfl (by rfl) (enters_of Tryd.func14 (by kernel_rfl) rfl) (by first | (simp [Act.eval]; done) | rfl | (simp only [List.map_toArray, List.map_cons, List.map_nil, Act.eval]; rfl) | (simp [Act.eval]; trace_state; done)) ?_
  refine (SameBytes_refl _ _ _ Z ((Rd.of_owns HO4.out).chg hSc (fun _ _ _ h => h)) ((Rd.of_owns HO5.out).chg hSc (fun _ _ _ h => h)) (by have := HXL.out; omega)).mono ?_
  rintro e W6 ⟨rfl, n6, hw6⟩
  have hSc := hSc.trans (hw6 ▸ Chg.drewN (fun _ => False) _ n6) (S'' := fun _ => False) (fun _ _ h => h) (fun _ _ h => h)
  clear hw6
  refine ⟨_, rfl, hSc, ?_⟩
  simp only [Act.put, List.setIfInBounds_toArray, List.set_cons_zero, List.set_cons_succ]
  refine reg_take (i := 3) (v := ?g4v) rfl (by kernel_rfl) (by kernel_rfl) (by kernel_rfl) (by kernel_rfl) (fun _ _ _ h => h) (by rfl) ?g4y (by assumption) ?g4r
  case g4y => (intro W hS; first | (go_simp; done) | (go_simp; with_reducible rfl))
  simp only [Act.put, List.setIfInBounds_toArray, List.set_cons_zero, List.set_cons_succ]
  refine reg_take (i := 4) (v := ?g5v) rfl (by kernel_rfl) (by kernel_rfl) (by kernel_rfl) (by kernel_rfl) (fun _ _ _ h => h) (by rfl) ?g5y (by assumption) ?g5r
  case g5y => (intro W hS; first | (go_simp; done) | (go_simp; with_reducible rfl))
  simp only [Act.put, List.setIfInBounds_toArray, List.set_cons_zero, List.set_cons_succ]
  refine reg_take (i := 6) (v := ?g6v) rfl (by kernel_rfl) (by kernel_rfl) (by kernel_rfl) (by kernel_rfl) (fun _ _ _ h => h) (by rfl) ?g6y (by assumption) ?g6r
  case g6y => (intro W hS; first | (go_simp; done) | (go_simp; with_reducible rfl))
  simp only [Act.put, List.setIfInBounds_toArray, List.set_cons_zero, List.set_cons_succ]
  refine reg_one (i := 5) (by kernel_rfl) ?_
  refine op_call (i := 5) (#[.int .i64 E]) rfl (by rfl) (enters_of Tryd.func15 (by kernel_rfl) rfl) (by first | (simp [Act.eval]; done) | rfl | (simp only [List.map_toArray, List.map_cons, List.map_nil, Act.eval]; rfl) | (simp [Act.eval]; trace_state; done)) ?_
  refine (Num_ok _ E).mono ?_
  rintro e W7 ⟨rfl, rfl⟩
  refine ⟨_, rfl, hSc, ?_⟩
  simp only [Act.put, List.setIfInBounds_toArray, List.set_cons_zero, List.set_cons_succ]
  refine reg_take (i := 7) (v := ?g7v) rfl (by kernel_rfl) (by kernel_rfl) (by kernel_rfl) (by kernel_rfl) (fun _ _ _ h => h) (by rfl) ?g7y (by assumption) ?g7r
  case g7y => (intro W hS; first | (go_simp; done) | (go_simp; with_reducible rfl))
  simp only [Act.put, List.setIfInBounds_toArray, List.set_cons_zero, List.set_cons_succ]
  refine reg_take (i := 8) (v := ?g8v) rfl (by kernel_rfl) (by kernel_rfl) (by kernel_rfl) (by kernel_rfl) (fun _ _ _ h => h) (by rfl) ?g8y (by assumption) ?g8r
  case g8y => (intro W hS; first | (go_simp; done) | (go_simp; with_reducible rfl))
  simp only [Act.put, List.setIfInBounds_toArray, List.set_cons_zero, List.set_cons_succ]
  refine reg_take (i := 9) (v := ?g9v) rfl (by kernel_rfl) (by kernel_rfl) (by kernel_rfl) (by kernel_rfl) (fun _ _ _ h => h) (by rfl) ?g9y (by assumption) ?g9r
  case g9y => (intro W hS; first | (go_simp; done) | (go_simp; with_reducible rfl))
  simp only [Act.put, List.setIfInBounds_toArray, List.set_cons_zero, List.set_cons_succ]
  refine reg_take (i := 10) (v := ?g10v) rfl (by kernel_rfl) (by kernel_rfl) (by kernel_rfl) (by kernel_rfl) (fun _ _ _ h => h) (by rfl) ?g10y (by assumption) ?g10r
  case g10y => (intro W hS; have f0 := hS.cell a0 (fun h => h); have f1 := hS.cell a1 (fun h => h); have f2 := hS.cell a2 (fun h => h); have f3 := hS.cell a3 (fun h => h); have f4 := hS.cell a4 (fun h => h); have f5 := hS.cell a5 (fun h => h); have f6 := hS.cell a6 (fun h => h); have f7 := hS.cell a7 (fun h => h); have g0 := hS.cell b0 (fun h => h); have g1 := hS.cell b1 (fun h => h); have g2 := hS.cell b2 (fun h => h); have g3 := hS.cell b3 (fun h => h); have g4 := hS.cell b4 (fun h => h); have g5 := hS.cell b5 (fun h => h); have g6 := hS.cell b6 (fun h => h); have g7 := hS.cell b7 (fun h => h); first | (go_simp; done) | (go_simp; with_reducible rfl))
  simp only [Act.put, List.setIfInBounds_toArray, List.set_cons_zero, List.set_cons_succ]
  refine reg_take (i := 12) (v := ?g11v) rfl (by kernel_rfl) (by kernel_rfl) (by kernel_rfl) (by kernel_rfl) (fun _ _ _ h => h) (by rfl) ?g11y (by assumption) ?g11r
  case g11y => (intro W hS; have f0 := hS.cell a0 (fun h => h); have f1 := hS.cell a1 (fun h => h); have f2 := hS.cell a2 (fun h => h); have f3 := hS.cell a3 (fun h => h); have f4 := hS.cell a4 (fun h => h); have f5 := hS.cell a5 (fun h => h); have f6 := hS.cell a6 (fun h => h); have f7 := hS.cell a7 (fun h => h); have g0 := hS.cell b0 (fun h => h); have g1 := hS.cell b1 (fun h => h); have g2 := hS.cell b2 (fun h => h); have g3 := hS.cell b3 (fun h => h); have g4 := hS.cell b4 (fun h => h); have g5 := hS.cell b5 (fun h => h); have g6 := hS.cell b6 (fun h => h); have g7 := hS.cell b7 (fun h => h); first | (go_simp; done) | (go_simp; with_reducible rfl))
  simp only [Act.put, List.setIfInBounds_toArray, List.set_cons_zero, List.set_cons_succ]
  refine reg_one (i := 11) (by kernel_rfl) ?_
  refine op_call (i := 11) (#[.agg #[.int .i64 k, .int .i64 i, .int .i64 n, .int .i64 l, .bool p, xp, xt, .string xn]]) rfl (by rfl) (enters_of Tryd.func16 (by kernel_rfl) rfl) (by first | (simp [Act.eval]; done) | rfl | (simp only [List.map_toArray, List.map_cons, List.map_nil, Act.eval]; rfl) | (simp [Act.eval]; trace_state; done)) ?_
  refine (request_May _ ⟨k, i, n, l, p, ⟨⟨xps, xts, xn⟩, xp, xt⟩⟩ (HAX.out _ hSc) HF1.out HN1.out (HMZ.out _ hSc)).mono ?_
  rintro e W8 ⟨rfl, hb8⟩
  have hSc := hSc.trans (Chg.of_below0 (S := fun _ => False) hb8) (S'' := fun _ => False) (fun _ _ h => h) (fun _ _ h => h)
  clear hb8
  rw [← HM8.out]
  refine ⟨_, rfl, hSc, ?_⟩
  simp only [Act.put, List.setIfInBounds_toArray, List.set_cons_zero, List.set_cons_succ]
  refine reg_one (i := 13) (by kernel_rfl) ?_
  refine op_call (i := 13) (#[.agg #[.int .i64 k, .int .i64 i, .int .i64 n, .int .i64 l, .bool p, xp, xt, .string xn]]) rfl (by rfl) (enters_of Tryd.func17 (by kernel_rfl) rfl) (by first | (simp [Act.eval]; done) | rfl | (simp only [List.map_toArray, List.map_cons, List.map_nil, Act.eval]; rfl) | (simp [Act.eval]; trace_state; done)) ?_
  refine (ref17_May _ ⟨k, i, n, l, p, ⟨⟨xps, xts, xn⟩, xp, xt⟩⟩ (HAX.out _ hSc) HF1.out HS1.out).mono ?_
  rintro e W9 ⟨rfl, hb8⟩
  have hSc := hSc.trans (Chg.of_below0 (S := fun _ => False) hb8) (S'' := fun _ => False) (fun _ _ h => h) (fun _ _ h => h)
  clear hb8
  rw [← HM8.out]
  refine ⟨_, rfl, hSc, ?_⟩
  simp only [Act.put, List.setIfInBounds_toArray, List.set_cons_zero, List.set_cons_succ]
  refine reg_take (i := 14) (v := ?g12v) rfl (by kernel_rfl) (by kernel_rfl) (by kernel_rfl) (by kernel_rfl) (fun _ _ _ h => h) (by rfl) ?g12y (by assumption) ?g12r
  case g12y => (intro W hS; first | (go_simp; done) | (go_simp; with_reducible rfl))
  simp only [Act.put, List.setIfInBounds_toArray, List.set_cons_zero, List.set_cons_succ]
  refine reg_take (i := 15) (v := ?g13v) rfl (by kernel_rfl) (by kernel_rfl) (by kernel_rfl) (by kernel_rfl) (fun _ _ _ h => h) (by rfl) ?g13y (by assumption) ?g13r
  case g13y => (intro W hS; first | (go_simp; done) | (go_simp; with_reducible rfl))
  simp only [Act.put, List.setIfInBounds_toArray, List.set_cons_zero, List.set_cons_succ]
  refine reg_take (i := 16) (v := ?g14v) rfl (by kernel_rfl) (by kernel_rfl) (by kernel_rfl) (by kernel_rfl) (fun _ _ _ h => h) (by rfl) ?g14y (by assumption) ?g14r
  case g14y => (intro W hS; first | (go_simp; done) | (go_simp; with_reducible rfl))
  simp only [Act.put, List.setIfInBounds_toArray, List.set_cons_zero, List.set_cons_succ]
  refine reg_take (i := 17) (v := ?g15v) rfl (by kernel_rfl) (by kernel_rfl) (by kernel_rfl) (by kernel_rfl) (fun _ _ _ h => h) (by rfl) ?g15y (by assumption) ?g15r
  case g15y => (intro W hS; have f0 := hS.cell a0 (fun h => h); have f1 := hS.cell a1 (fun h => h); have f2 := hS.cell a2 (fun h => h); have f3 := hS.cell a3 (fun h => h); have f4 := hS.cell a4 (fun h => h); have f5 := hS.cell a5 (fun h => h); have f6 := hS.cell a6 (fun h => h); have f7 := hS.cell a7 (fun h => h); have g0 := hS.cell b0 (fun h => h); have g1 := hS.cell b1 (fun h => h); have g2 := hS.cell b2 (fun h => h); have g3 := hS.cell b3 (fun h => h); have g4 := hS.cell b4 (fun h => h); have g5 := hS.cell b5 (fun h => h); have g6 := hS.cell b6 (fun h => h); have g7 := hS.cell b7 (fun h => h); first | (go_simp; done) | (go_simp; with_reducible rfl))
  simp only [Act.put, List.setIfInBounds_toArray, List.set_cons_zero, List.set_cons_succ]
  refine reg_take (i := 18) (v := ?g16v) rfl (by kernel_rfl) (by kernel_rfl) (by kernel_rfl) (by kernel_rfl) (fun _ _ _ h => h) (by rfl) ?g16y (by assumption) ?g16r
  case g16y => (intro W hS; have f0 := hS.cell a0 (fun h => h); have f1 := hS.cell a1 (fun h => h); have f2 := hS.cell a2 (fun h => h); have f3 := hS.cell a3 (fun h => h); have f4 := hS.cell a4 (fun h => h); have f5 := hS.cell a5 (fun h => h); have f6 := hS.cell a6 (fun h => h); have f7 := hS.cell a7 (fun h => h); have g0 := hS.cell b0 (fun h => h); have g1 := hS.cell b1 (fun h => h); have g2 := hS.cell b2 (fun h => h); have g3 := hS.cell b3 (fun h => h); have g4 := hS.cell b4 (fun h => h); have g5 := hS.cell b5 (fun h => h); have g6 := hS.cell b6 (fun h => h); have g7 := hS.cell b7 (fun h => h); first | (go_simp; done) | (go_simp; with_reducible rfl))
  simp only [Act.put, List.setIfInBounds_toArray, List.set_cons_zero, List.set_cons_succ]
  refine reg_take (i := 20) (v := ?g17v) rfl (by kernel_rfl) (by kernel_rfl) (by kernel_rfl) (by kernel_rfl) (fun _ _ _ h => h) (by rfl) ?g17y (by assumption) ?g17r
  case g17y => (intro W hS; have f0 := hS.cell a0 (fun h => h); have f1 := hS.cell a1 (fun h => h); have f2 := hS.cell a2 (fun h => h); have f3 := hS.cell a3 (fun h => h); have f4 := hS.cell a4 (fun h => h); have f5 := hS.cell a5 (fun h => h); have f6 := hS.cell a6 (fun h => h); have f7 := hS.cell a7 (fun h => h); have g0 := hS.cell b0 (fun h => h); have g1 := hS.cell b1 (fun h => h); have g2 := hS.cell b2 (fun h => h); have g3 := hS.cell b3 (fun h => h); have g4 := hS.cell b4 (fun h => h); have g5 := hS.cell b5 (fun h => h); have g6 := hS.cell b6 (fun h => h); have g7 := hS.cell b7 (fun h => h); first | (go_simp; done) | (go_simp; with_reducible rfl))
  simp only [Act.put, List.setIfInBounds_toArray, List.set_cons_zero, List.set_cons_succ]
  refine reg_take (i := 21) (v := ?g18v) rfl (by kernel_rfl) (by kernel_rfl) (by kernel_rfl) (by kernel_rfl) (fun _ _ _ h => h) (by rfl) ?g18y (by assumption) ?g18r
  case g18y => (intro W hS; have f0 := hS.cell a0 (fun h => h); have f1 := hS.cell a1 (fun h => h); have f2 := hS.cell a2 (fun h => h); have f3 := hS.cell a3 (fun h => h); have f4 := hS.cell a4 (fun h => h); have f5 := hS.cell a5 (fun h => h); have f6 := hS.cell a6 (fun h => h); have f7 := hS.cell a7 (fun h => h); have g0 := hS.cell b0 (fun h => h); have g1 := hS.cell b1 (fun h => h); have g2 := hS.cell b2 (fun h => h); have g3 := hS.cell b3 (fun h => h); have g4 := hS.cell b4 (fun h => h); have g5 := hS.cell b5 (fun h => h); have g6 := hS.cell b6 (fun h => h); have g7 := hS.cell b7 (fun h => h); first | (go_simp; done) | (go_simp; with_reducible rfl))
  simp only [Act.put, List.setIfInBounds_toArray, List.set_cons_zero, List.set_cons_succ]
  refine reg_one (i := 19) (by kernel_rfl) ?_
  refine op_call (i := 19) (#[.agg #[.int .i64 k, .int .i64 i, .int .i64 n, .int .i64 l, .bool p, xp, xt, .string xn], .agg #[.int .i64 k', .int .i64 i', .int .i64 n', .int .i64 l', .bool p', yp, yt, .string yn]]) rfl (by rfl) (enters_of Tryd.func18 (by kernel_rfl) rfl) (by first | (simp [Act.eval]; done) | rfl | (simp only [List.map_toArray, List.map_cons, List.map_nil, Act.eval]; rfl) | (simp [Act.eval]; trace_state; done)) ?_
  refine (request_Same _ ⟨k, i, n, l, p, ⟨⟨xps, xts, xn⟩, xp, xt⟩⟩ ⟨k', i', n', l', p', ⟨⟨yps, yts, yn⟩, yp, yt⟩⟩ (HAX.out _ hSc) (HAY.out _ hSc) HF1.out HF2.out).mono ?_
  rintro e W10 ⟨rfl, hb8⟩
  have hSc := hSc.trans (Chg.of_below0 (S := fun _ => False) hb8) (S'' := fun _ => False) (fun _ _ h => h) (fun _ _ h => h)
  clear hb8
  rw [← HS8.out]
  refine ⟨_, rfl, hSc, ?_⟩
  simp only [Act.put, List.setIfInBounds_toArray, List.set_cons_zero, List.set_cons_succ]
  refine reg_one (i := 22) (by kernel_rfl) ?_
  refine op_call (i := 22) (#[.agg #[.int .i64 k, .int .i64 i, .int .i64 n, .int .i64 l, .bool p, xp, xt, .string xn], .agg #[.int .i64 k', .int .i64 i', .int .i64 n', .int .i64 l', .bool p', yp, yt, .string yn]]) rfl (by rfl) (enters_of Tryd.func19 (by kernel_rfl) rfl) (by first | (simp [Act.eval]; done) | rfl | (simp only [List.map_toArray, List.map_cons, List.map_nil, Act.eval]; rfl) | (simp [Act.eval]; trace_state; done)) ?_
  refine (ref17_Same _ ⟨k, i, n, l, p, ⟨⟨xps, xts, xn⟩, xp, xt⟩⟩ ⟨k', i', n', l', p', ⟨⟨yps, yts, yn⟩, yp, yt⟩⟩ (HAX.out _ hSc) (HAY.out _ hSc) HF1.out HF2.out).mono ?_
  rintro e W11 ⟨rfl, hb8⟩
  have hSc := hSc.trans (Chg.of_below0 (S := fun _ => False) hb8) (S'' := fun _ => False) (fun _ _ h => h) (fun _ _ h => h)
  clear hb8
  rw [← HS8.out]
  refine ⟨_, rfl, hSc, ?_⟩
  simp only [Act.put, List.setIfInBounds_toArray, List.set_cons_zero, List.set_cons_succ]
  refine reg_take (i := 23) (v := ?g19v) rfl (by kernel_rfl) (by kernel_rfl) (by kernel_rfl) (by kernel_rfl) (fun _ _ _ h => h) (by rfl) ?g19y (by assumption) ?g19r
  case g19y => (intro W hS; first | (go_simp; done) | (go_simp; with_reducible rfl))
  simp only [Act.put, List.setIfInBounds_toArray, List.set_cons_zero, List.set_cons_succ]
  refine reg_take (i := 24) (v := ?g20v) rfl (by kernel_rfl) (by kernel_rfl) (by kernel_rfl) (by kernel_rfl) (fun _ _ _ h => h) (by rfl) ?g20y (by assumption) ?g20r
  case g20y => (intro W hS; first | (go_simp; done) | (go_simp; with_reducible rfl))
  simp only [Act.put, List.setIfInBounds_toArray, List.set_cons_zero, List.set_cons_succ]
  refine reg_take (i := 25) (v := ?g21v) rfl (by kernel_rfl) (by kernel_rfl) (by kernel_rfl) (by kernel_rfl) (fun _ _ _ h => h) (by rfl) ?g21y (by assumption) ?g21r
  case g21y => (intro W hS; first | (go_simp; done) | (go_simp; with_reducible rfl))
  simp only [Act.put, List.setIfInBounds_toArray, List.set_cons_zero, List.set_cons_succ]
  refine reg_take (i := 26) (v := ?g22v) rfl (by kernel_rfl) (by kernel_rfl) (by kernel_rfl) (by kernel_rfl) (fun _ _ _ h => h) (by rfl) ?g22y (by assumption) ?g22r
  case g22y => (intro W hS; have f0 := hS.cell a0 (fun h => h); have f1 := hS.cell a1 (fun h => h); have f2 := hS.cell a2 (fun h => h); have f3 := hS.cell a3 (fun h => h); have f4 := hS.cell a4 (fun h => h); have f5 := hS.cell a5 (fun h => h); have f6 := hS.cell a6 (fun h => h); have f7 := hS.cell a7 (fun h => h); have g0 := hS.cell b0 (fun h => h); have g1 := hS.cell b1 (fun h => h); have g2 := hS.cell b2 (fun h => h); have g3 := hS.cell b3 (fun h => h); have g4 := hS.cell b4 (fun h => h); have g5 := hS.cell b5 (fun h => h); have g6 := hS.cell b6 (fun h => h); have g7 := hS.cell b7 (fun h => h); first | (go_simp; done) | (go_simp; with_reducible rfl))
  simp only [Act.put, List.setIfInBounds_toArray, List.set_cons_zero, List.set_cons_succ]
  refine reg_take (i := 27) (v := ?g23v) rfl (by kernel_rfl) (by kernel_rfl) (by kernel_rfl) (by kernel_rfl) (fun _ _ _ h => h) (by rfl) ?g23y (by assumption) ?g23r
  case g23y => (intro W hS; have f0 := hS.cell a0 (fun h => h); have f1 := hS.cell a1 (fun h => h); have f2 := hS.cell a2 (fun h => h); have f3 := hS.cell a3 (fun h => h); have f4 := hS.cell a4 (fun h => h); have f5 := hS.cell a5 (fun h => h); have f6 := hS.cell a6 (fun h => h); have f7 := hS.cell a7 (fun h => h); have g0 := hS.cell b0 (fun h => h); have g1 := hS.cell b1 (fun h => h); have g2 := hS.cell b2 (fun h => h); have g3 := hS.cell b3 (fun h => h); have g4 := hS.cell b4 (fun h => h); have g5 := hS.cell b5 (fun h => h); have g6 := hS.cell b6 (fun h => h); have g7 := hS.cell b7 (fun h => h); first | (go_simp; done) | (go_simp; with_reducible rfl))
  simp only [Act.put, List.setIfInBounds_toArray, List.set_cons_zero, List.set_cons_succ]
  refine reg_one (i := 28) (by kernel_rfl) ?_
  refine op_call (i := 28) (#[.agg #[.int .i64 k, .int .i64 i, .int .i64 n, .int .i64 l, .bool p, xp, xt, .string xn], .agg #[.int .i64 k, .int .i64 i, .int .i64 n, .int .i64 l, .bool p, xp, xt, .string xn]]) rfl (by rfl) (enters_of Tryd.func18 (by kernel_rfl) rfl) (by first | (simp [Act.eval]; done) | rfl | (simp only [List.map_toArray, List.map_cons, List.map_nil, Act.eval]; rfl) | (simp [Act.eval]; trace_state; done)) ?_
  refine (request_Same _ ⟨k, i, n, l, p, ⟨⟨xps, xts, xn⟩, xp, xt⟩⟩ ⟨k, i, n, l, p, ⟨⟨xps, xts, xn⟩, xp, xt⟩⟩ (HAX.out _ hSc) (HAX.out _ hSc) HF1.out HF1.out).mono ?_
  rintro e W12 ⟨rfl, hb8⟩
  have hSc := hSc.trans (Chg.of_below0 (S := fun _ => False) hb8) (S'' := fun _ => False) (fun _ _ h => h) (fun _ _ h => h)
  clear hb8
  rw [rqEq_refl]
  refine ⟨_, rfl, hSc, ?_⟩
  simp only [Act.put, List.setIfInBounds_toArray, List.set_cons_zero, List.set_cons_succ]
  refine reg_take (i := 29) (v := ?g24v) rfl (by kernel_rfl) (by kernel_rfl) (by kernel_rfl) (by kernel_rfl) (fun _ _ _ h => h) (by rfl) ?g24y (by assumption) ?g24r
  case g24y => (intro W hS; first | (go_simp; done) | (go_simp; with_reducible rfl))
  simp only [Act.put, List.setIfInBounds_toArray, List.set_cons_zero, List.set_cons_succ]
  refine reg_take (i := 30) (v := ?g25v) rfl (by kernel_rfl) (by kernel_rfl) (by kernel_rfl) (by kernel_rfl) (fun _ _ _ h => h) (by rfl) ?g25y (by assumption) ?g25r
  case g25y => (intro W hS; first | (go_simp; done) | (go_simp; with_reducible rfl))
  simp only [Act.put, List.setIfInBounds_toArray, List.set_cons_zero, List.set_cons_succ]
  refine wpAnyG_done (by kernel_rfl) ?_ _
  have HS := hide hSc
  have HSZ := hide (show w5.heap.size ≤ W12.heap.size from hSc.size)
  clear hS0 hSc a0 a1 a2 a3 a4 a5 a6 a7 b0 b1 b2 b3 b4 b5 b6 b7
  have HB5 := hide (HB.out.trans (HC5.out.below (n := W.heap.size) HB.out.size (fun _ _ h => h)))
  have HB12 := hide (HB5.out.trans (HS.out.below (n := W.heap.size) HB5.out.size (fun _ _ h => h)))
  have HO12 := hide (HS.out.owns HO4.out (fun _ _ h => h))
  have HS3 := hide (show w3.heap.size ≤ W12.heap.size from Nat.le_trans HC5.out.size HSZ.out)
  have HW3 := hide HB.out.size
  clear HO4 HO5 HC5 HB HS HB5
  go_wp2_with fail
  refine (OverBytes_ok W12 _ _ _ HO12.out HS3.out (by have := HXL.out; omega)).mono ?_
  rintro e w13 ⟨rfl, hc13⟩
  have HB13 := hide (HB12.out.trans (hc13.below (n := W.heap.size) HB12.out.size (fun k hk h => by have h5 := (ownsRow_lt HO12.out k h).1; have h6 := HW3.out; omega)))
  clear hc13
  go_wp2_with fail
  refine (awake17 _ (HM.out.below HB13.out HM.out.pos)).mono ?_
  rintro e w14 ⟨rfl, hb14⟩
  have HB14 := hide (HB13.out.trans (hb14.mono HB13.out.size))
  clear hb14
  go_wp2_with fail
  go_ret
  exact ⟨rfl, HB14.out⟩

set_option maxRecDepth 100000 in
theorem RequestLays_lifted (os : Os) (started : os.Started) (H : Type) (enc : TypeId × Value → H) :
    ReturnsInHanded {} Tryd.checked os 3 .any (fun w args => (Rows.requestLaysSpec.pre enc Tryd.prog Tryd.f3 Rows.requestLaysRow.domain false w args ∧ laidMetH Tryd.prog cardLaid w) ∧ sizedMet enc Tryd.prog Tryd.f3 (OpenSpec.ofChange Rows.requestLaysSpec) false w args) (Rows.requestLaysSpec.post enc Tryd.prog Tryd.f3 false true false false) := by
  refine card_wrap (C := Tryd.checked) (X := fun w => laidMetH Tryd.prog cardLaid w) law_own started (by kernel_rfl) Tryd.func3
    (ChangeSpec.witness_at (enc := enc) (C := Tryd.checked) (os := os) (X := fun w _ => laidMetH Tryd.prog cardLaid w) false (laidWorld os) #[.agg #[.int .i64 0, .int .i64 0, .int .i64 0, .int .i64 0, .bool false, .slice none 0 0, .slice none 0 0, .string ⟨#[]⟩], .agg #[.int .i64 0, .int .i64 0, .int .i64 0, .int .i64 0, .bool false, .slice none 0 0, .slice none 0 0, .string ⟨#[]⟩]] 8 rfl (by kernel_rfl) (by kernel_rfl) (by kernel_rfl) (by kernel_rfl) (by kernel_rfl) (laidWorld_met os _)) ?_
  intro W base args ds gs before hval0 hW hsh
  have hM := mx_of_shaped hsh
  have hval : ∀ (j : Nat) t v, Tryd.f3.params[j]? = some t → args[j]? = some v → Value.okWide Tryd.prog W .any base t v := hval0
  have hW' := hW
  obtain ⟨p, q, hA0, hV, rfl, hfz, hnd⟩ := hW
  have hA : DataW.TrodAll enc Tryd.prog W 0 (fun _ => true) true Tryd.f3.params.toList args.toList ds p := hA0
  rw [Tryd.params3] at hA hval
  obtain ⟨v0, vs0, d0, ds0, p0, q0, hargs, rfl, rfl, h0, r0⟩ := trodAll_cons hA
  obtain ⟨v1, vs1, d1, ds1, p1, q1, rfl, rfl, rfl, h1, r1⟩ := trodAll_cons r0
  obtain ⟨rfl, rfl, rfl⟩ := trodAll_nil r1
  obtain rfl : args = #[v0, v1] := by cases args; simp_all
  obtain ⟨rfl, rfl⟩ := trodVars_none hV
  have k0 := h0
  have lt0 : ∀ x ∈ p0, x.block < W.heap.size := by obtain ⟨m, hm⟩ := k0; exact DataW.trod_lt m _ _ _ hm
  obtain ⟨cs0, rfl, hsz0⟩ := okWide_struct Tryd.underlying27 (hval 0 27 v0 rfl rfl)
  have k1 := h1
  have lt1 : ∀ x ∈ p1, x.block < W.heap.size := by obtain ⟨m, hm⟩ := k1; exact DataW.trod_lt m _ _ _ hm
  obtain ⟨cs1, rfl, hsz1⟩ := okWide_struct Tryd.underlying27 (hval 1 27 v1 rfl rfl)
  clear hA0 hval0
  refine (RequestLays_walk (enc := enc) W hM cs0 (Readable.of_trod h0) cs1 (Readable.of_trod h1)).mono fun e W' ⟨he, bel⟩ => ?_
  subst he
  exact ⟨_, rfl, _, _, _, [], _, [], hW', trodAll_mk1 (shut_bool Tryd.underlying4 _), (trodAll_cons_mk (Below.trod law_laid (by kernel_rfl) (of_decide_eq_true (by kernel_rfl)) k0 bel lt0) (trodAll_cons_mk (Below.trod law_laid (by kernel_rfl) (of_decide_eq_true (by kernel_rfl)) k1 bel lt1) trodAll_mk0)), rfl, bel.frame _, fun h => by cases h⟩

theorem RequestLays_over : Rows.requestLaysRow.holds Tryd.pinned (OpenSpec.ofChange Rows.requestLaysSpec) :=
  OpenClaim.holds_of_wide 3 Tryd.f3 rfl rfl rfl rfl rfl rfl rfl ⟨rfl, rfl, rfl, rfl, rfl⟩ rfl rfl rfl rfl rfl (by kernel_rfl) Tryd.func3 (by kernel_rfl)
    (of_decide_eq_true (by kernel_rfl)) (by unfold Func.isWrapper; first | (rw [if_pos (by decide +kernel)]; kernel_rfl) | (rw [if_neg (by decide +kernel)]; exact ⟨rfl, rfl⟩))
    (fun os started H enc _ => RequestLays_lifted os started H enc)

theorem RequestLays_params : ∀ (j : Nat) t, Tryd.f3.params[j]? = some t → Tryd.prog.wantsStandIn t = false := by
  intro j t ht
  rw [Tryd.params3] at ht
  have hm : t ∈ ([27, 27] : List TypeId) := List.mem_of_getElem? (i := j) (by simpa using ht)
  simp only [List.mem_cons, List.not_mem_nil, or_false] at hm
  rcases hm with h | h
  · subst h; exact (show Tryd.prog.wantsStandIn 27 = false by kernel_rfl)
  · subst h; exact (show Tryd.prog.wantsStandIn 27 = false by kernel_rfl)
theorem RequestLays_holds : Rows.RequestLaysCardSaid :=
  Claim7.holds_tied_plain_at .later [] [.data, .pinned] true (true, "c4be9e7f0cdbaae3bf531276a3d215d8076bde4fb581a78ccccc1d3c7d66db3a") false
    RequestLays_over (fun _ h => by cases h) (by kernel_rfl) (fun _ h => by cases h) requestLays_row_tie rfl ⟨rfl, rfl⟩ (by kernel_rfl) rfl
    (fun f fn hf hfn => by
      obtain rfl : f = 3 := Option.some.inj ((show Tryd.prog.funcNamed "cortege/cortegelaw17.RequestLays" = some 3 by kernel_rfl).symm.trans hf) |>.symm
      obtain rfl : fn = Tryd.f3 := (Option.some.inj (Tryd.func3.symm.trans hfn)).symm
      exact ⟨by kernel_rfl, RequestLays_params⟩)
    (by kernel_rfl)
#print axioms RequestLays_holds

end Go.Proofs.YtjmmmpnpkialjaaDoor
