/- The document's request: Lay. Conditions: none. -/
import Derived.Test.YtjmmmpnpkialjaaDoorRfQ
import Derived.Test.YtjmmmpnpkialjaaDoorCodeRef
import Derived.Test.YtjmmmpnpkialjaaDoorReg
import Derived.Test.YtjmmmpnpkialjaaDoorReqY
import Derived.Deep.CutRange
namespace Go.Proofs.YtjmmmpnpkialjaaDoor
open Go.RowKit Go.Shelf
attribute [local go_sem] Oper.semAt_some

theorem flB_two (f : Fl) : flB f = txts [f.path, f.data] := rfl
set_option maxHeartbeats 4000000 in
set_option maxRecDepth 100000 in
theorem ref17_Lay (w : World) (q : RqV) (hx : CmAt w q.x) (fx : Few q.x.c) (hsz : ∀ f ∈ q.x.c.tree, f.path.size ≤ 100000) :
    Calls Tryd.prog 13 #[q.val] w fun e w' => Below w.heap.size w w' ∧
      ((mayRq q.r = false ∧ e = .returned (.tuple #[.slice none 0 0, .int .i64 2])) ∨
       (mayRq q.r = true ∧ ∃ ao cap, e = .returned (.tuple #[.slice ao (layRq q.r).length cap, .int .i64 0]) ∧ w'.ownsRow w.heap.size 5 1 (.slice ao (layRq q.r).length cap) (layRq q.r).length (u8s (layRq q.r)))) := by
  obtain ⟨k, i, n, l, ps, x⟩ := q
  have hb1 := (Below.refl w.heap.size w).alloc (Nat.le_refl _) (Obj.cells #[.int .i64 k, .int .i64 i, .int .i64 n, .int .i64 l, .bool ps, x.vp, x.vt, .string x.c.note] 27)
  have hmy := ref17_May (w.alloc (Obj.cells #[.int .i64 k, .int .i64 i, .int .i64 n, .int .i64 l, .bool ps, x.vp, x.vt, .string x.c.note] 27)) ⟨k, i, n, l, ps, x⟩ (hx.same (Chg.of_below0 hb1)) fx hsz
  have hsm := fun h => mayRq_small (r := ⟨k, i, n, l, ps, x.c⟩) h
  unfold RqV.val at hmy ⊢
  show Calls _ _ _ _ fun e w' => _ ∧ ((mayRq ⟨k, i, n, l, ps, x.c⟩ = false ∧ _) ∨ (mayRq ⟨k, i, n, l, ps, x.c⟩ = true ∧ ∃ ao cap, e = .returned (.tuple #[.slice ao (layRq ⟨k, i, n, l, ps, x.c⟩).length cap, .int .i64 0]) ∧ w'.ownsRow w.heap.size 5 1 (.slice ao (layRq ⟨k, i, n, l, ps, x.c⟩).length cap) (layRq ⟨k, i, n, l, ps, x.c⟩).length (u8s (layRq ⟨k, i, n, l, ps, x.c⟩))))
  obtain ⟨⟨xps, xts, xn⟩, xp, xt⟩ := x
  simp only at hx hmy hb1 hsm ⊢
  have hxp : Rd w xp xps.length (flat int_enc xps) := hx.ps
  have hxt : Rd w xt xts.length (flat fl_enc xts) := hx.ts
  obtain ⟨po, pc, rfl, -, -⟩ := hxp.shape
  obtain ⟨qo, qc, rfl, -, -⟩ := hxt.shape
  obtain ⟨L, hL⟩ : ∃ L, L = layRq ⟨k, i, n, l, ps, ⟨xps, xts, xn⟩⟩ := ⟨_, rfl⟩
  rw [← hL]
  have hmr : RqV.r ⟨k, i, n, l, ps, ⟨⟨xps, xts, xn⟩, .slice po xps.length pc, .slice qo xts.length qc⟩⟩ = ⟨k, i, n, l, ps, ⟨xps, xts, xn⟩⟩ := rfl
  rw [hmr] at hmy
  have HMY := hide hmy
  have HXP := hide hxp
  have HXT := hide hxt
  have HL := hide hL
  have HB := hide hb1
  have h1 := heap_alloc_new w (Obj.cells #[.int .i64 k, .int .i64 i, .int .i64 n, .int .i64 l, .bool ps, .slice po xps.length pc, .slice qo xts.length qc, .string xn] 27)
  have HSM := hide hsm
  clear hmy hx hL fx hb1 hmr hsm hxp hxt hsz
  generalize mayRq ⟨k, i, n, l, ps, ⟨xps, xts, xn⟩⟩ = m at HMY HSM ⊢
  go_enter Tryd.func13, Tryd.ntmps13
  go_wp2_with fail
  refine HMY.out.mono ?_
  rintro e w2 ⟨rfl, hb⟩
  have HH := hide ((Chg.of_below0 (S := fun _ => False) hb).heap h1 (fun h => h))
  have HB := hide (HB.out.trans (hb.mono HB.out.size))
  clear hb h1 HMY
  cases m with
  | false =>
    go_wp2_with fail
    go_ret2
    first
      | exact ⟨HB.out, .inl ⟨rfl, rfl⟩⟩
      | exact ⟨HB.out, rfl⟩
  | true =>
  obtain ⟨-, -, -, -, hpu, -⟩ := HSM.out rfl
  simp only at hpu
  have HPU := hide hpu
  clear hpu HSM
  have c0 := cell_of_heap HH.out 0
  have c1 := cell_of_heap HH.out 1
  have c2 := cell_of_heap HH.out 2
  have c3 := cell_of_heap HH.out 3
  have c4 := cell_of_heap HH.out 4
  have c5 := cell_of_heap HH.out 5
  have c6 := cell_of_heap HH.out 6
  have c7 := cell_of_heap HH.out 7
  simp at c0 c1 c2 c3 c4 c5 c6 c7
  go_upto_if 11 with (fail)
  go_cut [4] from 11 to 11 (fun s wc => s = .int .i64 (bitN ps) ∧ wc = w2)
  case first =>
    cases ps with
    | true =>
      go_wp2_with fail
      go_meet
      exact ⟨rfl, rfl⟩
    | false =>
      go_wp2_with fail
      go_meet
      exact ⟨rfl, rfl⟩
  case rest =>
  obtain ⟨rfl, hwc⟩ := hcut
  rw [hwc]
  clear hwc
  go_wp2_with fail
  refine (ref_Num _ _ _ [] [k, i, n, l, bitN ps] (nums [k, i, n, l, bitN ps]) rfl (Rd.nil _) (Rd_lit w2 #[.int .i64 k, .int .i64 i, .int .i64 n, .int .i64 l, .int .i64 (bitN ps)] 3 5) (by simp)).mono ?_
  rintro e w3 ⟨ao3, cap3, rfl, ho3, hb3⟩
  have hl0 : (nums [k, i, n, l, bitN ps]).length = 40 := by simp [nums_length]
  obtain ⟨z0, hz0⟩ : ∃ z0, z0 = nums [k, i, n, l, bitN ps] := ⟨_, rfl⟩
  rw [← hz0] at hl0 ho3
  rw [← hz0]
  have HL0 := hide hl0
  have hL0 : L = z0 ++ (if k = 1 then layC ⟨xps, xts, xn⟩ else []) := by rw [HL.out, hz0]; rfl
  replace HL := hide hL0
  have hch3 : Chg (fun _ => False) w2 w3 := (Chg.alloc (fun _ => False) w2 _).trans (Chg.of_below0 (S := fun _ => False) hb3) (fun _ _ h => h) (fun _ _ h => h)
  have HB3 := hide (HB.out.trans ((hch3.below (n := w2.heap.size) (Nat.le_refl _) (fun _ _ h => h)).mono HB.out.size))
  have HO3 : Hid (w3.ownsRow w.heap.size 5 1 (.slice ao3 z0.length cap3) z0.length (u8s z0)) := hide (ownsRow_base ho3 (fun j hj => by
    have h5 := (ownsRow_lt ho3 j hj).1
    have h6 := HB.out.size
    simp only [World.size_alloc] at h5
    omega))
  replace c0 := hch3.cell c0 (fun h => h)
  replace c5 := hch3.cell c5 (fun h => h)
  replace c6 := hch3.cell c6 (fun h => h)
  replace c7 := hch3.cell c7 (fun h => h)
  clear c1 c2 c3 c4 ho3 hb3 hch3 hz0 hL0 hl0 HB HH
  by_cases k1 : k = 1
  · subst k1
    have hpu := HPU.out rfl
    have hps := hpu.ps
    have hts := hpu.ts
    have hnt := hpu.nt
    simp only at hps hts hnt
    have hfs : ∀ f ∈ xts, f.path.size ≤ 60 ∧ f.data.size ≤ 400 := hpu.fs
    have HFS := hide hfs
    have hL1 : L = z0 ++ layC ⟨xps, xts, xn⟩ := HL.out
    obtain ⟨z1, hz1⟩ : ∃ z1, z1 = z0 ++ num8 (xps.length : Int) := ⟨_, rfl⟩
    obtain ⟨z2, hz2⟩ : ∃ z2, z2 = z1 ++ nums xps := ⟨_, rfl⟩
    obtain ⟨z3, hz3⟩ : ∃ z3, z3 = z2 ++ num8 (xts.length : Int) := ⟨_, rfl⟩
    obtain ⟨z4, hz4⟩ : ∃ z4, z4 = z3 ++ xts.flatMap flB := ⟨_, rfl⟩
    have hL3 : L = z4 ++ txts [xn] := by rw [hL1, hz4, hz3, hz2, hz1]; simp [layC]
    have hl1 : z1.length ≤ 48 := by have h6 := HL0.out; rw [hz1]; simp only [List.length_append, num8_length]; omega
    have hl2 : z2.length ≤ 64 := by rw [hz2]; simp only [List.length_append, nums_length]; omega
    have hl3 : z3.length ≤ 72 := by rw [hz3]; simp only [List.length_append, num8_length]; omega
    have hl4 : z4.length ≤ 60000 := by
      have h5 := flatMap_le flB 4000 xts (fun x hx => by have := hfs x hx; rw [flB_length]; omega)
      rw [hz4]
      simp only [List.length_append]
      omega
    have HL1 := hide hl1
    have HL2 := hide hl2
    have HL3 := hide hl3
    have HL4 := hide hl4
    have HZ1 := hide hz1
    have HZ2 := hide hz2
    have HZ3 := hide hz3
    have HZ4 := hide hz4
    have HLF := hide hL3
    clear HL hl1 hl2 hl3 hl4 hz1 hz2 hz3 hz4 hL3 hpu HPU hL1 hfs
    go_wp2_with fail
    refine (ref_Num _ _ _ z0 [(xps.length : Int)] z1 (by rw [HZ1.out]; simp [nums]) ((Rd.of_owns HO3.out).chg (Chg.alloc (fun _ => False) w3 _) (fun _ _ _ h => h)) (Rd_lit w3 #[.int .i64 (xps.length : Int)] 3 1) (by have := HL0.out; simp; omega)).mono ?_
    rintro e w4 ⟨ao4, cap4, rfl, ho4, hb4⟩
    have hch4 : Chg (fun _ => False) w3 w4 := (Chg.alloc (fun _ => False) w3 _).trans (Chg.of_below0 (S := fun _ => False) hb4) (fun _ _ h => h) (fun _ _ h => h)
    have HB4 := hide (HB3.out.trans ((hch4.below (n := w3.heap.size) (Nat.le_refl _) (fun _ _ h => h)).mono HB3.out.size))
    have HO4 := hide ho4
    replace c5 := hch4.cell c5 (fun h => h)
    replace c6 := hch4.cell c6 (fun h => h)
    replace c7 := hch4.cell c7 (fun h => h)
    clear ho4 hb4 hch4 c0 HB3 HO3
    go_upto_region 10 with (fail)
    go_cut [5] from 34 to 44 (fun s wc => ∃ ao cap, s = .slice ao z3.length cap ∧ wc.ownsRow w.heap.size 5 1 (.slice ao z3.length cap) z3.length (u8s z3) ∧ Chg (fun _ => False) w4 wc)
    case first =>
      refine reg_start (Chg (fun _ => False) w4) 12 12 (by rfl) (by kernel_rfl) (Chg.drew _ _) ?_
      intro hS0
      have hSc := hS0
      refine reg_take (i := 0) (v := ?g2v) rfl (by kernel_rfl) (by kernel_rfl) (by kernel_rfl) (by kernel_rfl) (fun _ _ _ h => h) (by rfl) ?g2y (by assumption) ?g2r
      case g2y => (intro W hS; first | (go_simp; done) | (go_simp; with_reducible rfl))
      simp only [Act.put, List.setIfInBounds_toArray, List.set_cons_zero, List.set_cons_succ]
      refine reg_take (i := 1) (v := ?g3v) rfl (by kernel_rfl) (by kernel_rfl) (by kernel_rfl) (by kernel_rfl) (fun _ _ _ h => h) (by rfl) ?g3y (by assumption) ?g3r
      case g3y => (intro W hS; first | (go_simp; done) | (go_simp; with_reducible rfl))
      simp only [Act.put, List.setIfInBounds_toArray, List.set_cons_zero, List.set_cons_succ]
      refine reg_take (i := 2) (v := ?g4v) rfl (by kernel_rfl) (by kernel_rfl) (by kernel_rfl) (by kernel_rfl) (fun _ _ _ h => h) (by rfl) ?g4y (by assumption) ?g4r
      case g4y => (intro W hS; first | (go_simp; done) | (go_simp; with_reducible rfl))
      simp only [Act.put, List.setIfInBounds_toArray, List.set_cons_zero, List.set_cons_succ]
      refine reg_take (i := 3) (v := ?g5v) rfl (by kernel_rfl) (by kernel_rfl) (by kernel_rfl) (by kernel_rfl) (fun _ _ _ h => h) (by rfl) ?g5y (by assumption) ?g5r
      case g5y => (intro W hS; have f5 := hS.cell c5 (fun h => h); have f6 := hS.cell c6 (fun h => h); first | (go_simp; done) | (go_simp; with_reducible rfl))
      simp only [Act.put, List.setIfInBounds_toArray, List.set_cons_zero, List.set_cons_succ]
      refine reg_take (i := 5) (v := ?g6v) rfl (by kernel_rfl) (by kernel_rfl) (by kernel_rfl) (by kernel_rfl) (fun _ _ _ h => h) (by rfl) ?g6y (by assumption) ?g6r
      case g6y => (intro W hS; first | (go_simp; done) | (go_simp; with_reducible rfl))
      simp only [Act.put, List.setIfInBounds_toArray, List.set_cons_zero, List.set_cons_succ]
      refine reg_take (i := 6) (v := ?g7v) rfl (by kernel_rfl) (by kernel_rfl) (by kernel_rfl) (by kernel_rfl) (fun _ _ _ h => h) (by rfl) ?g7y (by assumption) ?g7r
      case g7y => (intro W hS; first | (go_simp; done) | (go_simp; with_reducible rfl))
      simp only [Act.put, List.setIfInBounds_toArray, List.set_cons_zero, List.set_cons_succ]
      refine reg_take (i := 7) (v := ?g8v) rfl (by kernel_rfl) (by kernel_rfl) (by kernel_rfl) (by kernel_rfl) (fun _ _ _ h => h) (by rfl) ?g8y (by assumption) ?g8r
      case g8y => (intro W hS; have f5 := hS.cell c5 (fun h => h); have f6 := hS.cell c6 (fun h => h); first | (go_simp; done) | (go_simp; with_reducible rfl))
      simp only [Act.put, List.setIfInBounds_toArray, List.set_cons_zero, List.set_cons_succ]
      refine reg_take (i := 8) (v := ?g9v) rfl (by kernel_rfl) (by kernel_rfl) (by kernel_rfl) (by kernel_rfl) (fun _ _ _ h => h) (by rfl) ?g9y (by assumption) ?g9r
      case g9y => (intro W hS; first | (go_simp; done) | (go_simp; with_reducible rfl))
      simp only [Act.put, List.setIfInBounds_toArray, List.set_cons_zero, List.set_cons_succ]
      refine reg_two (i := 4) (j := 9) (by kernel_rfl) ?_ ?_
      · refine op_call (i := 4) (#[.slice ao4 z1.length cap4, .slice po xps.length pc]) rfl (by rfl) (enters_of Tryd.func40 (by kernel_rfl) rfl) (by first | (simp [Act.eval]; done) | rfl | (simp only [List.map_toArray, List.map_cons, List.map_nil, Act.eval]; rfl) | (simp [Act.eval]; trace_state; done)) ?_
        refine (ref_Num _ _ _ z1 xps z2 HZ2.out ((Rd.of_owns HO4.out).chg hSc (fun _ _ _ h => h)) (by have h5 := (HXP.out.chg (Chg.of_below0 (S := fun _ => False) HB4.out) (fun _ _ _ h => h)).chg hSc (fun _ _ _ h => h); rwa [flat_int] at h5) (by have := HL1.out; omega)).mono ?_
        rintro e W5 ⟨ao5, cap5, rfl, ho5, hb5⟩
        have hSc := hSc.trans (Chg.of_below0 (S := fun _ => False) hb5) (S'' := fun _ => False) (fun _ _ h => h) (fun _ _ h => h)
        have HO5 := hide ho5
        have HS5 := hide hb5.size
        clear ho5 hb5
        refine ⟨_, rfl, hSc, ?_⟩
        simp only [Act.put, List.setIfInBounds_toArray, List.set_cons_zero, List.set_cons_succ]
        refine reg_one (i := 9) (by kernel_rfl) ?_
        refine op_val (i := 9) rfl (by rfl) (v := .slice (some ⟨W5.heap.size, 0, none⟩) 1 1) (w' := W5.alloc (.cells #[.int .i64 (xts.length : Int)] 3)) (by go_simp) ?_
        have hSc := hSc.trans (Chg.alloc (fun _ => False) W5 (.cells #[.int .i64 (xts.length : Int)] 3)) (S'' := fun _ => False) (fun _ _ h => h) (fun _ _ h => h)
        have hlit := Rd_lit W5 #[.int .i64 (xts.length : Int)] 3 1
        have HO5 := hide ((Chg.alloc (fun _ => False) W5 (.cells #[.int .i64 (xts.length : Int)] 3)).owns HO5.out (fun _ _ h => h))
        refine ⟨hSc, ?_⟩
        simp only [Act.put, List.setIfInBounds_toArray, List.set_cons_zero, List.set_cons_succ]
        refine reg_one (i := 10) (by kernel_rfl) ?_
        refine op_call (i := 10) (#[.slice ao5 z2.length cap5, .slice (some ⟨W5.heap.size, 0, none⟩) 1 1]) rfl (by rfl) (enters_of Tryd.func40 (by kernel_rfl) rfl) (by first | (simp [Act.eval]; done) | rfl | (simp only [List.map_toArray, List.map_cons, List.map_nil, Act.eval]; rfl) | (simp [Act.eval]; trace_state; done)) ?_
        refine (ref_Num _ _ _ z2 [(xts.length : Int)] z3 (by rw [HZ3.out]; simp [nums]) (Rd.of_owns HO5.out) hlit (by have := HL2.out; simp; omega)).mono ?_
        rintro e W6 ⟨ao6, cap6, rfl, ho6, hb6⟩
        have hsz := hSc.size
        have hSc := hSc.trans (Chg.of_below0 (S := fun _ => False) hb6) (S'' := fun _ => False) (fun _ _ h => h) (fun _ _ h => h)
        have HO6 := hide (ownsRow_base ho6 (base' := w.heap.size) (fun j hj => by have h5 := (ownsRow_lt ho6 j hj).1; have h6 := HB4.out.size; omega))
        refine ⟨_, rfl, hSc, ?_⟩
        simp only [Act.put, List.setIfInBounds_toArray, List.set_cons_zero, List.set_cons_succ]
        refine reg_take (i := 11) (v := ?g10v) rfl (by kernel_rfl) (by kernel_rfl) (by kernel_rfl) (by kernel_rfl) (fun _ _ _ h => h) (by rfl) ?g10y (by assumption) ?g10r
        case g10y => (intro W hS; first | (go_simp; done) | (go_simp; with_reducible rfl))
        simp only [Act.put, List.setIfInBounds_toArray, List.set_cons_zero, List.set_cons_succ]
        refine wpAnyG_done (by kernel_rfl) ?_ _
        go_wp2
        go_meet
        exact ⟨_, _, rfl, HO6.out, hSc⟩
      · refine op_val (i := 9) rfl (by rfl) (v := .slice (some ⟨w4.drew.heap.size, 0, none⟩) 1 1) (w' := w4.drew.alloc (.cells #[.int .i64 (xts.length : Int)] 3)) (by go_simp) ?_
        have hSc := hSc.trans (Chg.alloc (fun _ => False) w4.drew (.cells #[.int .i64 (xts.length : Int)] 3)) (S'' := fun _ => False) (fun _ _ h => h) (fun _ _ h => h)
        have hlit := Rd_lit w4.drew #[.int .i64 (xts.length : Int)] 3 1
        refine ⟨hSc, ?_⟩
        simp only [Act.put, List.setIfInBounds_toArray, List.set_cons_zero, List.set_cons_succ]
        refine reg_one (i := 4) (by kernel_rfl) ?_
        refine op_call (i := 4) (#[.slice ao4 z1.length cap4, .slice po xps.length pc]) rfl (by rfl) (enters_of Tryd.func40 (by kernel_rfl) rfl) (by first | (simp [Act.eval]; done) | rfl | (simp only [List.map_toArray, List.map_cons, List.map_nil, Act.eval]; rfl) | (simp [Act.eval]; trace_state; done)) ?_
        refine (ref_Num _ _ _ z1 xps z2 HZ2.out ((Rd.of_owns HO4.out).chg hSc (fun _ _ _ h => h)) (by have h5 := (HXP.out.chg (Chg.of_below0 (S := fun _ => False) HB4.out) (fun _ _ _ h => h)).chg hSc (fun _ _ _ h => h); rwa [flat_int] at h5) (by have := HL1.out; omega)).mono ?_
        rintro e W5 ⟨ao5, cap5, rfl, ho5, hb5⟩
        have hSc := hSc.trans (Chg.of_below0 (S := fun _ => False) hb5) (S'' := fun _ => False) (fun _ _ h => h) (fun _ _ h => h)
        have hlit := hlit.chg (Chg.of_below0 (S := fun _ => False) hb5) (fun _ _ _ h => h)
        have HO5 := hide ho5
        have HS5 := hide hb5.size
        clear ho5 hb5
        refine ⟨_, rfl, hSc, ?_⟩
        simp only [Act.put, List.setIfInBounds_toArray, List.set_cons_zero, List.set_cons_succ]
        refine reg_one (i := 10) (by kernel_rfl) ?_
        refine op_call (i := 10) (#[.slice ao5 z2.length cap5, .slice (some ⟨w4.drew.heap.size, 0, none⟩) 1 1]) rfl (by rfl) (enters_of Tryd.func40 (by kernel_rfl) rfl) (by first | (simp [Act.eval]; done) | rfl | (simp only [List.map_toArray, List.map_cons, List.map_nil, Act.eval]; rfl) | (simp [Act.eval]; trace_state; done)) ?_
        refine (ref_Num _ _ _ z2 [(xts.length : Int)] z3 (by rw [HZ3.out]; simp [nums]) (Rd.of_owns HO5.out) hlit (by have := HL2.out; simp; omega)).mono ?_
        rintro e W6 ⟨ao6, cap6, rfl, ho6, hb6⟩
        have hsz := hSc.size
        have hSc := hSc.trans (Chg.of_below0 (S := fun _ => False) hb6) (S'' := fun _ => False) (fun _ _ h => h) (fun _ _ h => h)
        have HO6 := hide (ownsRow_base ho6 (base' := w.heap.size) (fun j hj => by have h5 := (ownsRow_lt ho6 j hj).1; have h6 := HB4.out.size; omega))
        refine ⟨_, rfl, hSc, ?_⟩
        simp only [Act.put, List.setIfInBounds_toArray, List.set_cons_zero, List.set_cons_succ]
        refine reg_take (i := 11) (v := ?g11v) rfl (by kernel_rfl) (by kernel_rfl) (by kernel_rfl) (by kernel_rfl) (fun _ _ _ h => h) (by rfl) ?g11y (by assumption) ?g11r
        case g11y => (intro W hS; first | (go_simp; done) | (go_simp; with_reducible rfl))
        simp only [Act.put, List.setIfInBounds_toArray, List.set_cons_zero, List.set_cons_succ]
        refine wpAnyG_done (by kernel_rfl) ?_ _
        go_wp2
        go_meet
        exact ⟨_, _, rfl, HO6.out, hSc⟩
    case rest =>
    obtain ⟨ao6, cap6, rfl, ho6, hch6⟩ := hcut
    have HB6 := hide (HB4.out.trans ((hch6.below (n := w4.heap.size) (Nat.le_refl _) (fun _ _ h => h)).mono HB4.out.size))
    have HO6 := hide ho6
    replace c6 := hch6.cell c6 (fun h => h)
    replace c7 := hch6.cell c7 (fun h => h)
    clear ho6 hch6 c5 HB4 HO4
    have hw6 : ∃ w6 : World, w6 = wc := ⟨_, rfl⟩
    obtain ⟨w6, rfl⟩ := hw6
    have HCL := hide (show xts.length ≤ 12 from hts)
    go_wp2_with fail
    go_loopw [5, 6] (fun v iv wr => ∃ j : Nat, j ≤ xts.length ∧ iv = .int .i64 j ∧ Hid (Chg (fun _ => False) w6 wr) ∧
      Hid (∃ ao cap, v = .slice ao (z3 ++ (xts.take j).flatMap flB).length cap ∧ wr.ownsRow w.heap.size 5 1 (.slice ao (z3 ++ (xts.take j).flatMap flB).length cap) (z3 ++ (xts.take j).flatMap flB).length (u8s (z3 ++ (xts.take j).flatMap flB)))) (fun _ i _ => xts.length - (intOf i).toNat)
    case atStart => exact ⟨0, Nat.zero_le _, rfl, Chg.refl _ _, ao6, cap6, by simp, by simpa using HO6.out⟩
    case round =>
      obtain ⟨j, hj, rfl, HCW, HV⟩ := hrel
      have HBW := hide (HB6.out.trans ((HCW.out.below (n := w6.heap.size) (Nat.le_refl _) (fun _ _ h => h)).mono HB6.out.size))
      have d6 := HCW.out.cell c6 (fun h => h)
      have d7 := HCW.out.cell c7 (fun h => h)
      obtain ⟨ao, cap, rfl, ho⟩ := HV.out
      obtain ⟨y, hy⟩ : ∃ y, y = z3 ++ (xts.take j).flatMap flB := ⟨_, rfl⟩
      rw [← hy] at ho
      rw [← hy]
      have HO := hide ho
      have HY := hide hy
      have hyl : y.length ≤ 60000 := by
        have h5 := flatMap_le flB 4000 (xts.take j) (fun x hx => by have := HFS.out x (List.mem_of_mem_take hx); rw [flB_length]; omega)
        have h6 := HL3.out
        have h7 : (xts.take j).length ≤ 12 := by rw [List.length_take]; have := HCL.out; omega
        rw [hy]
        simp only [List.length_append]
        omega
      have HYL := hide hyl
      clear HV ho hy hyl c6 c7
      by_cases hlt : j < xts.length
      · have hxt2 := (HXT.out.chg (Chg.of_below0 (S := fun _ => False) HBW.out) (fun _ _ _ h => h))
        obtain ⟨bt, ofs, rfl, hcs⟩ := rd_at hxt2 (by omega)
        obtain ⟨t0, t1⟩ := fl_cells _ _ _ _ hcs j hlt
        have hfj := HFS.out _ (List.getElem_mem hlt)
        have HFJ := hide hfj
        obtain ⟨f, hf⟩ : ∃ f, f = xts[j] := ⟨_, rfl⟩
        rw [← hf] at t0 t1 HFJ
        have HF := hide hf
        have HFT : Hid (∀ t ∈ [f.path, f.data], t.size ≤ 400) := hide (fun t ht => by
          have h5 := HFJ.out
          rcases List.mem_cons.1 ht with h6 | h6
          · rw [h6]; omega
          · rw [List.mem_singleton.1 h6]; omega)
        obtain ⟨y2, hy2⟩ : ∃ y2, y2 = y ++ flB f := ⟨_, rfl⟩
        have HY2 := hide hy2
        clear hcs hxt2 hfj hf hy2
        go_wp2_with fail
        refine reg_start (Chg (fun _ => False) wr) 18 18 (by rfl) (by kernel_rfl) (Chg.drew _ _) ?_
        intro hS0
        have hSc := hS0
        refine reg_take (i := 0) (v := ?g13v) rfl (by kernel_rfl) (by kernel_rfl) (by kernel_rfl) (by kernel_rfl) (fun _ _ _ h => h) (by rfl) ?g13y (by assumption) ?g13r
        case g13y => (intro W hS; first | (go_simp; done) | (go_simp; with_reducible rfl))
        simp only [Act.put, List.setIfInBounds_toArray, List.set_cons_zero, List.set_cons_succ]
        refine reg_take (i := 1) (v := ?g14v) rfl (by kernel_rfl) (by kernel_rfl) (by kernel_rfl) (by kernel_rfl) (fun _ _ _ h => h) (by rfl) ?g14y (by assumption) ?g14r
        case g14y => (intro W hS; first | (go_simp; done) | (go_simp; with_reducible rfl))
        simp only [Act.put, List.setIfInBounds_toArray, List.set_cons_zero, List.set_cons_succ]
        refine reg_take (i := 2) (v := ?g15v) rfl (by kernel_rfl) (by kernel_rfl) (by kernel_rfl) (by kernel_rfl) (fun _ _ _ h => h) (by rfl) ?g15y (by assumption) ?g15r
        case g15y => (intro W hS; first | (go_simp; done) | (go_simp; with_reducible rfl))
        simp only [Act.put, List.setIfInBounds_toArray, List.set_cons_zero, List.set_cons_succ]
        refine reg_take (i := 3) (v := ?g16v) rfl (by kernel_rfl) (by kernel_rfl) (by kernel_rfl) (by kernel_rfl) (fun _ _ _ h => h) (by rfl) ?g16y (by assumption) ?g16r
        case g16y => (intro W hS; have f6 := hS.cell d6 (fun h => h); have u0 := hS.cell t0 (fun h => h); have u1 := hS.cell t1 (fun h => h); first | (go_simp; done) | (go_simp; with_reducible rfl))
        simp only [Act.put, List.setIfInBounds_toArray, List.set_cons_zero, List.set_cons_succ]
        refine reg_take (i := 4) (v := ?g17v) rfl (by kernel_rfl) (by kernel_rfl) (by kernel_rfl) (by kernel_rfl) (fun _ _ _ h => h) (by rfl) ?g17y (by assumption) ?g17r
        case g17y => (intro W hS; first | (go_simp; done) | (go_simp; with_reducible rfl))
        simp only [Act.put, List.setIfInBounds_toArray, List.set_cons_zero, List.set_cons_succ]
        refine reg_take (i := 5) (v := ?g18v) rfl (by kernel_rfl) (by kernel_rfl) (by kernel_rfl) (by kernel_rfl) (fun _ _ _ h => h) (by rfl) ?g18y (by assumption) ?g18r
        case g18y => (intro W hS; first | (go_simp; done) | (go_simp; with_reducible rfl))
        simp only [Act.put, List.setIfInBounds_toArray, List.set_cons_zero, List.set_cons_succ]
        refine reg_take (i := 6) (v := ?g19v) rfl (by kernel_rfl) (by kernel_rfl) (by kernel_rfl) (by kernel_rfl) (fun _ _ _ h => h) (by rfl) ?g19y (by assumption) ?g19r
        case g19y => (intro W hS; first | (go_simp; done) | (go_simp; with_reducible rfl))
        simp only [Act.put, List.setIfInBounds_toArray, List.set_cons_zero, List.set_cons_succ]
        refine reg_take (i := 7) (v := ?g20v) rfl (by kernel_rfl) (by kernel_rfl) (by kernel_rfl) (by kernel_rfl) (fun _ _ _ h => h) (by rfl) ?g20y (by assumption) ?g20r
        case g20y => (intro W hS; have f6 := hS.cell d6 (fun h => h); have u0 := hS.cell t0 (fun h => h); have u1 := hS.cell t1 (fun h => h); first | (go_simp; done) | (go_simp; with_reducible rfl))
        simp only [Act.put, List.setIfInBounds_toArray, List.set_cons_zero, List.set_cons_succ]
        refine reg_take (i := 8) (v := ?g21v) rfl (by kernel_rfl) (by kernel_rfl) (by kernel_rfl) (by kernel_rfl) (fun _ _ _ h => h) (by rfl) ?g21y (by assumption) ?g21r
        case g21y => (intro W hS; first | (go_simp; done) | (go_simp; with_reducible rfl))
        simp only [Act.put, List.setIfInBounds_toArray, List.set_cons_zero, List.set_cons_succ]
        refine reg_take (i := 9) (v := ?g22v) rfl (by kernel_rfl) (by kernel_rfl) (by kernel_rfl) (by kernel_rfl) (fun _ _ _ h => h) (by rfl) ?g22y (by assumption) ?g22r
        case g22y => (intro W hS; first | (go_simp; done) | (go_simp; with_reducible rfl))
        simp only [Act.put, List.setIfInBounds_toArray, List.set_cons_zero, List.set_cons_succ]
        refine reg_take (i := 10) (v := ?g23v) rfl (by kernel_rfl) (by kernel_rfl) (by kernel_rfl) (by kernel_rfl) (fun _ _ _ h => h) (by rfl) ?g23y (by assumption) ?g23r
        case g23y => (intro W hS; have f6 := hS.cell d6 (fun h => h); have u0 := hS.cell t0 (fun h => h); have u1 := hS.cell t1 (fun h => h); first | (go_simp; done) | (go_simp; with_reducible rfl))
        simp only [Act.put, List.setIfInBounds_toArray, List.set_cons_zero, List.set_cons_succ]
        refine reg_take (i := 11) (v := ?g24v) rfl (by kernel_rfl) (by kernel_rfl) (by kernel_rfl) (by kernel_rfl) (fun _ _ _ h => h) (by rfl) ?g24y (by assumption) ?g24r
        case g24y => (intro W hS; first | (go_simp; done) | (go_simp; with_reducible rfl))
        simp only [Act.put, List.setIfInBounds_toArray, List.set_cons_zero, List.set_cons_succ]
        refine reg_take (i := 12) (v := ?g25v) rfl (by kernel_rfl) (by kernel_rfl) (by kernel_rfl) (by kernel_rfl) (fun _ _ _ h => h) (by rfl) ?g25y (by assumption) ?g25r
        case g25y => (intro W hS; first | (go_simp; done) | (go_simp; with_reducible rfl))
        simp only [Act.put, List.setIfInBounds_toArray, List.set_cons_zero, List.set_cons_succ]
        refine reg_take (i := 13) (v := ?g26v) rfl (by kernel_rfl) (by kernel_rfl) (by kernel_rfl) (by kernel_rfl) (fun _ _ _ h => h) (by rfl) ?g26y (by assumption) ?g26r
        case g26y => (intro W hS; first | (go_simp; done) | (go_simp; with_reducible rfl))
        simp only [Act.put, List.setIfInBounds_toArray, List.set_cons_zero, List.set_cons_succ]
        refine reg_take (i := 14) (v := ?g27v) rfl (by kernel_rfl) (by kernel_rfl) (by kernel_rfl) (by kernel_rfl) (fun _ _ _ h => h) (by rfl) ?g27y (by assumption) ?g27r
        case g27y => (intro W hS; have f6 := hS.cell d6 (fun h => h); have u0 := hS.cell t0 (fun h => h); have u1 := hS.cell t1 (fun h => h); first | (go_simp; done) | (go_simp; with_reducible rfl))
        simp only [Act.put, List.setIfInBounds_toArray, List.set_cons_zero, List.set_cons_succ]
        refine reg_one (i := 15) (by kernel_rfl) ?_
        refine op_val (i := 15) rfl (by rfl) (v := .slice (some ⟨wr.drew.heap.size, 0, none⟩) 2 2) (w' := wr.drew.alloc (.cells #[.string f.path, .string f.data] 9)) (by go_simp) ?_
        have hSc := hSc.trans (Chg.alloc (fun _ => False) wr.drew (.cells #[.string f.path, .string f.data] 9)) (S'' := fun _ => False) (fun _ _ h => h) (fun _ _ h => h)
        have hlit := Rd_lit wr.drew #[.string f.path, .string f.data] 9 2
        refine ⟨hSc, ?_⟩
        simp only [Act.put, List.setIfInBounds_toArray, List.set_cons_zero, List.set_cons_succ]
        refine reg_one (i := 16) (by kernel_rfl) ?_
        refine op_call (i := 16) (#[.slice ao y.length cap, .slice (some ⟨wr.drew.heap.size, 0, none⟩) 2 2]) rfl (by rfl) (enters_of Tryd.func41 (by kernel_rfl) rfl) (by first | (simp [Act.eval]; done) | rfl | (simp only [List.map_toArray, List.map_cons, List.map_nil, Act.eval]; rfl) | (simp [Act.eval]; trace_state; done)) ?_
        refine (ref_Text _ _ _ y [f.path, f.data] y2 HY2.out ((Rd.of_owns HO.out).chg hSc (fun _ _ _ h => h)) hlit 400 HFT.out (by have := HYL.out; simp; omega)).mono ?_
        rintro e W6 ⟨ao5, cap5, rfl, ho5, hb5⟩
        have hsz := hSc.size
        have hSc := hSc.trans (Chg.of_below0 (S := fun _ => False) hb5) (S'' := fun _ => False) (fun _ _ h => h) (fun _ _ h => h)
        have HO5 := hide (ownsRow_base ho5 (base' := w.heap.size) (fun j hj => by have h5 := (ownsRow_lt ho5 j hj).1; have h6 := HBW.out.size; omega))
        have HSC := hide hSc
        clear ho5 hb5 hlit
        refine ⟨_, rfl, hSc, ?_⟩
        simp only [Act.put, List.setIfInBounds_toArray, List.set_cons_zero, List.set_cons_succ]
        refine reg_take (i := 17) (v := ?g28v) rfl (by kernel_rfl) (by kernel_rfl) (by kernel_rfl) (by kernel_rfl) (fun _ _ _ h => h) (by rfl) ?g28y (by assumption) ?g28r
        case g28y => (intro W hS; first | (go_simp; done) | (go_simp; with_reducible rfl))
        simp only [Act.put, List.setIfInBounds_toArray, List.set_cons_zero, List.set_cons_succ]
        refine wpAnyG_done (by kernel_rfl) ?_ _
        clear hS0 hSc
        go_wp2_with fail
        go_roundw
        case rel =>
          have e : (z3 ++ (xts.take (j + 1)).flatMap flB) = y ++ flB f := by rw [take_succ_get xts j hlt, HY.out, HF.out]; simp only [List.flatMap_append, List.flatMap_cons, List.flatMap_nil, List.append_nil, List.append_assoc]
          refine ⟨j + 1, by omega, by go_num, HCW.out.trans HSC.out (fun _ _ h => h) (fun _ _ h => h), ?_⟩
          rw [e, ← HY2.out]
          exact ⟨_, _, rfl, HO5.out⟩
        case measure => simp [intOf]; omega
      · obtain rfl : j = xts.length := by omega
        have hy4 : y = z4 := by rw [HY.out, HZ4.out, List.take_length]
        subst hy4
        go_wp2_with fail
        have h4 := Rd_lit wr #[.string xn] 9 1
        refine (ref_Text _ _ _ y [xn] L HLF.out ((Rd.of_owns HO.out).chg (Chg.alloc (fun _ => False) wr _) (fun _ _ _ h => h)) h4 60 (fun t ht => by cases List.mem_singleton.1 ht; exact hnt) (by have := HYL.out; simp; omega)).mono ?_
        clear h4
        rintro e W7 ⟨ao7, cap7, rfl, ho7, hb7⟩
        have HO7 := hide ho7
        have HB7 := hide hb7
        clear ho7 hb7
        go_wp2_with fail
        go_ret2
        have hb : Below w.heap.size w W7 := (HBW.out.alloc HBW.out.size _).trans (HB7.out.mono (by have := HBW.out.size; simp; omega))
        have ho : W7.ownsRow w.heap.size 5 1 (.slice ao7 L.length cap7) L.length (u8s L) := ownsRow_base HO7.out (fun j hj => by
          have h5 := (ownsRow_lt HO7.out j hj).1
          have h6 := HBW.out.size
          simp only [World.size_alloc] at h5
          omega)
        first
          | exact ⟨hb, .inr ⟨rfl, _, _, rfl, ho⟩⟩
          | exact ⟨hb, _, _, rfl, ho⟩
  · have z1 : (k != 1) = true := by simp [k1]
    have hL1 : L = z0 := by rw [HL.out, if_neg k1, List.append_nil]
    have HL1 := hide hL1
    clear hL1
    go_wp2_with fail
    go_ret2
    rw [HL1.out]
    first
      | exact ⟨HB3.out, .inr ⟨rfl, _, _, rfl, HO3.out⟩⟩
      | exact ⟨HB3.out, _, _, rfl, HO3.out⟩
end Go.Proofs.YtjmmmpnpkialjaaDoor
