/- request.Lay. Conditions: none. -/
import Derived.Test.YtjmmmpnpkialjaaDoorReqA
import Derived.Test.YtjmmmpnpkialjaaDoorReqB
import Derived.Test.YtjmmmpnpkialjaaDoorReg
namespace Go.Proofs.YtjmmmpnpkialjaaDoor
open Go.RowKit Go.Shelf
attribute [local go_sem] Oper.semAt_some

theorem flB_length (f : Fl) : (flB f).length = 16 + f.path.size + f.data.size := by simp [flB, txts, num8_length, sb_length]; omega
theorem flatMap_le {α : Type} (f : α → List UInt8) (M : Nat) : ∀ l : List α, (∀ x ∈ l, (f x).length ≤ M) → (l.flatMap f).length ≤ l.length * M
  | [], _ => by simp
  | x :: l, h => by
    have h1 := h x (by simp)
    have h2 := flatMap_le f M l (fun y hy => h y (by simp [hy]))
    simp only [List.flatMap_cons, List.length_append, List.length_cons, Nat.add_mul, Nat.one_mul]
    omega
set_option maxHeartbeats 4000000 in
set_option maxRecDepth 100000 in
theorem request_Lay (w : World) (q : RqV) (hx : CmAt w q.x) (fx : Few q.x.c) (hn : q.x.c.note.size ≤ 140737488351232) (hM : Mx w) :
    Calls Tryd.prog 12 #[q.val] w fun e w' => Below w.heap.size w w' ∧
      ((mayRq q.r = false ∧ e = .returned (.tuple #[.slice none 0 0, .int .i64 2])) ∨
       (mayRq q.r = true ∧ ∃ ao cap, e = .returned (.tuple #[.slice ao (layRq q.r).length cap, .int .i64 0]) ∧ w'.ownsRow w.heap.size 5 1 (.slice ao (layRq q.r).length cap) (layRq q.r).length (u8s (layRq q.r)))) := by
  obtain ⟨k, i, n, l, ps, x⟩ := q
  have hb1 := (Below.refl w.heap.size w).alloc (Nat.le_refl _) (Obj.cells #[.int .i64 k, .int .i64 i, .int .i64 n, .int .i64 l, .bool ps, x.vp, x.vt, .string x.c.note] 27)
  have hmy := request_May (w.alloc (Obj.cells #[.int .i64 k, .int .i64 i, .int .i64 n, .int .i64 l, .bool ps, x.vp, x.vt, .string x.c.note] 27)) ⟨k, i, n, l, ps, x⟩ (hx.same (Chg.of_below0 hb1)) fx hn (hM.below hb1 hM.pos)
  have hsm := fun h => mayRq_small (r := ⟨k, i, n, l, ps, x.c⟩) h
  unfold RqV.val at hmy ⊢
  show Calls _ _ _ _ fun e w' => _ ∧ ((mayRq ⟨k, i, n, l, ps, x.c⟩ = false ∧ _) ∨ (mayRq ⟨k, i, n, l, ps, x.c⟩ = true ∧ ∃ ao cap, e = .returned (.tuple #[.slice ao (layRq ⟨k, i, n, l, ps, x.c⟩).length cap, .int .i64 0]) ∧ w'.ownsRow w.heap.size 5 1 (.slice ao (layRq ⟨k, i, n, l, ps, x.c⟩).length cap) (layRq ⟨k, i, n, l, ps, x.c⟩).length (u8s (layRq ⟨k, i, n, l, ps, x.c⟩))))
  obtain ⟨⟨xps, xts, xn⟩, xp, xt⟩ := x
  simp only at hx hmy fx hn hb1 hsm ⊢
  obtain ⟨L, hL⟩ : ∃ L, L = layRq ⟨k, i, n, l, ps, ⟨xps, xts, xn⟩⟩ := ⟨_, rfl⟩
  rw [← hL]
  have hmr : RqV.r ⟨k, i, n, l, ps, ⟨⟨xps, xts, xn⟩, xp, xt⟩⟩ = ⟨k, i, n, l, ps, ⟨xps, xts, xn⟩⟩ := rfl
  rw [hmr] at hmy
  have HMY := hide hmy
  have HX := hide hx
  have HL := hide hL
  have HB := hide hb1
  have h1 := heap_alloc_new w (Obj.cells #[.int .i64 k, .int .i64 i, .int .i64 n, .int .i64 l, .bool ps, xp, xt, .string xn] 27)
  have HSM := hide hsm
  clear hmy hx hL hM hn fx hb1 hmr hsm
  generalize mayRq ⟨k, i, n, l, ps, ⟨xps, xts, xn⟩⟩ = m at HMY HSM ⊢
  go_enter Tryd.func12, Tryd.ntmps12
  go_wp2_with fail
  refine HMY.out.mono ?_
  rintro e w2 ⟨rfl, hb⟩
  have c0 := (Chg.of_below0 (S := fun _ => False) hb).cell (cell_of_heap h1 0) (fun h => h)
  have c1 := (Chg.of_below0 (S := fun _ => False) hb).cell (cell_of_heap h1 1) (fun h => h)
  have c2 := (Chg.of_below0 (S := fun _ => False) hb).cell (cell_of_heap h1 2) (fun h => h)
  have c3 := (Chg.of_below0 (S := fun _ => False) hb).cell (cell_of_heap h1 3) (fun h => h)
  have c4 := (Chg.of_below0 (S := fun _ => False) hb).cell (cell_of_heap h1 4) (fun h => h)
  have c5 := (Chg.of_below0 (S := fun _ => False) hb).cell (cell_of_heap h1 5) (fun h => h)
  have c6 := (Chg.of_below0 (S := fun _ => False) hb).cell (cell_of_heap h1 6) (fun h => h)
  have c7 := (Chg.of_below0 (S := fun _ => False) hb).cell (cell_of_heap h1 7) (fun h => h)
  have HB := hide (HB.out.trans (hb.mono HB.out.size))
  clear hb h1 HMY
  cases m with
  | false =>
    go_wp2_with fail
    go_ret2
    first
      | exact ⟨HB.out, .inl ⟨rfl, rfl⟩⟩
      | exact ⟨HB.out, rfl⟩
  | true =>
  obtain ⟨-, -, -, -, hpu, -⟩ := HSM.out rfl
  simp only at hpu
  have HPU := hide hpu
  clear hpu HSM
  go_wp2_with fail
  refine reg_start (Chg (fun _ => False) w2) 14 14 (by rfl) (by kernel_rfl) (Chg.drew _ _) ?_
  intro hS0
  have hSc := hS0
  refine reg_take (i := 0) (v := ?g2v) rfl (by kernel_rfl) (by kernel_rfl) (by kernel_rfl) (by kernel_rfl) (fun _ _ _ h => h) (by rfl) ?g2y (by assumption) ?g2r
  case g2y => (intro W hS; first | (go_simp; done) | (go_simp; with_reducible rfl))
  simp only [Act.put, List.setIfInBounds_toArray, List.set_cons_zero, List.set_cons_succ]
  refine reg_take (i := 1) (v := ?g3v) rfl (by kernel_rfl) (by kernel_rfl) (by kernel_rfl) (by kernel_rfl) (fun _ _ _ h => h) (by rfl) ?g3y (by assumption) ?g3r
  case g3y => (intro W hS; have f0 := hS.cell c0 (fun h => h); have f1 := hS.cell c1 (fun h => h); have f2 := hS.cell c2 (fun h => h); have f3 := hS.cell c3 (fun h => h); have f4 := hS.cell c4 (fun h => h); first | (go_simp; done) | (go_simp; with_reducible rfl))
  simp only [Act.put, List.setIfInBounds_toArray, List.set_cons_zero, List.set_cons_succ]
  refine reg_take (i := 2) (v := ?g4v) rfl (by kernel_rfl) (by kernel_rfl) (by kernel_rfl) (by kernel_rfl) (fun _ _ _ h => h) (by rfl) ?g4y (by assumption) ?g4r
  case g4y => (intro W hS; first | (go_simp; done) | (go_simp; with_reducible rfl))
  simp only [Act.put, List.setIfInBounds_toArray, List.set_cons_zero, List.set_cons_succ]
  refine reg_take (i := 3) (v := ?g5v) rfl (by kernel_rfl) (by kernel_rfl) (by kernel_rfl) (by kernel_rfl) (fun _ _ _ h => h) (by rfl) ?g5y (by assumption) ?g5r
  case g5y => (intro W hS; have f0 := hS.cell c0 (fun h => h); have f1 := hS.cell c1 (fun h => h); have f2 := hS.cell c2 (fun h => h); have f3 := hS.cell c3 (fun h => h); have f4 := hS.cell c4 (fun h => h); first | (go_simp; done) | (go_simp; with_reducible rfl))
  simp only [Act.put, List.setIfInBounds_toArray, List.set_cons_zero, List.set_cons_succ]
  refine reg_take (i := 4) (v := ?g6v) rfl (by kernel_rfl) (by kernel_rfl) (by kernel_rfl) (by kernel_rfl) (fun _ _ _ h => h) (by rfl) ?g6y (by assumption) ?g6r
  case g6y => (intro W hS; first | (go_simp; done) | (go_simp; with_reducible rfl))
  simp only [Act.put, List.setIfInBounds_toArray, List.set_cons_zero, List.set_cons_succ]
  refine reg_take (i := 5) (v := ?g7v) rfl (by kernel_rfl) (by kernel_rfl) (by kernel_rfl) (by kernel_rfl) (fun _ _ _ h => h) (by rfl) ?g7y (by assumption) ?g7r
  case g7y => (intro W hS; have f0 := hS.cell c0 (fun h => h); have f1 := hS.cell c1 (fun h => h); have f2 := hS.cell c2 (fun h => h); have f3 := hS.cell c3 (fun h => h); have f4 := hS.cell c4 (fun h => h); first | (go_simp; done) | (go_simp; with_reducible rfl))
  simp only [Act.put, List.setIfInBounds_toArray, List.set_cons_zero, List.set_cons_succ]
  refine reg_take (i := 6) (v := ?g8v) rfl (by kernel_rfl) (by kernel_rfl) (by kernel_rfl) (by kernel_rfl) (fun _ _ _ h => h) (by rfl) ?g8y (by assumption) ?g8r
  case g8y => (intro W hS; first | (go_simp; done) | (go_simp; with_reducible rfl))
  simp only [Act.put, List.setIfInBounds_toArray, List.set_cons_zero, List.set_cons_succ]
  refine reg_take (i := 7) (v := ?g9v) rfl (by kernel_rfl) (by kernel_rfl) (by kernel_rfl) (by kernel_rfl) (fun _ _ _ h => h) (by rfl) ?g9y (by assumption) ?g9r
  case g9y => (intro W hS; have f0 := hS.cell c0 (fun h => h); have f1 := hS.cell c1 (fun h => h); have f2 := hS.cell c2 (fun h => h); have f3 := hS.cell c3 (fun h => h); have f4 := hS.cell c4 (fun h => h); first | (go_simp; done) | (go_simp; with_reducible rfl))
  simp only [Act.put, List.setIfInBounds_toArray, List.set_cons_zero, List.set_cons_succ]
  refine reg_take (i := 8) (v := ?g10v) rfl (by kernel_rfl) (by kernel_rfl) (by kernel_rfl) (by kernel_rfl) (fun _ _ _ h => h) (by rfl) ?g10y (by assumption) ?g10r
  case g10y => (intro W hS; first | (go_simp; done) | (go_simp; with_reducible rfl))
  simp only [Act.put, List.setIfInBounds_toArray, List.set_cons_zero, List.set_cons_succ]
  refine reg_take (i := 9) (v := ?g11v) rfl (by kernel_rfl) (by kernel_rfl) (by kernel_rfl) (by kernel_rfl) (fun _ _ _ h => h) (by rfl) ?g11y (by assumption) ?g11r
  case g11y => (intro W hS; have f0 := hS.cell c0 (fun h => h); have f1 := hS.cell c1 (fun h => h); have f2 := hS.cell c2 (fun h => h); have f3 := hS.cell c3 (fun h => h); have f4 := hS.cell c4 (fun h => h); first | (go_simp; done) | (go_simp; with_reducible rfl))
  simp only [Act.put, List.setIfInBounds_toArray, List.set_cons_zero, List.set_cons_succ]
  refine reg_one (i := 10) (by kernel_rfl) ?_
  refine op_call (i := 10) (#[.bool ps]) rfl (by rfl) (enters_of Tryd.func34 (by kernel_rfl) rfl) (by first | (simp [Act.eval]; done) | rfl | (simp only [List.map_toArray, List.map_cons, List.map_nil, Act.eval]; rfl) | (simp [Act.eval]; trace_state; done)) ?_
  refine (bit_ok _ ps).mono ?_
  rintro e W3 ⟨rfl, rfl⟩
  refine ⟨_, rfl, hSc, ?_⟩
  simp only [Act.put, List.setIfInBounds_toArray, List.set_cons_zero, List.set_cons_succ]
  refine reg_one (i := 11) (by kernel_rfl) ?_
  refine op_val (i := 11) rfl (by rfl) (v := .slice (some ⟨w2.drew.heap.size, 0, none⟩) 5 5) (w' := w2.drew.alloc (.cells #[.int .i64 k, .int .i64 i, .int .i64 n, .int .i64 l, .int .i64 (bitN ps)] 3)) (by go_simp) ?_
  have hSc := hSc.trans (Chg.alloc (fun _ => False) w2.drew (.cells #[.int .i64 k, .int .i64 i, .int .i64 n, .int .i64 l, .int .i64 (bitN ps)] 3)) (S'' := fun _ => False) (fun _ _ h => h) (fun _ _ h => h)
  refine ⟨hSc, ?_⟩
  simp only [Act.put, List.setIfInBounds_toArray, List.set_cons_zero, List.set_cons_succ]
  refine reg_one (i := 12) (by kernel_rfl) ?_
  refine op_call (i := 12) (#[.slice none 0 0, .slice (some ⟨w2.drew.heap.size, 0, none⟩) 5 5]) rfl (by rfl) (enters_of Tryd.func33 (by kernel_rfl) rfl) (by first | (simp [Act.eval]; done) | rfl | (simp only [List.map_toArray, List.map_cons, List.map_nil, Act.eval]; rfl) | (simp [Act.eval]; trace_state; done)) ?_
  refine (code_Num _ _ _ [] [k, i, n, l, bitN ps] (nums [k, i, n, l, bitN ps]) rfl (Rd.nil _) (Rd_lit w2.drew #[.int .i64 k, .int .i64 i, .int .i64 n, .int .i64 l, .int .i64 (bitN ps)] 3 5) (by simp)).mono ?_
  rintro e W4 ⟨ao4, cap4, rfl, ho4, hb4⟩
  have hSc := hSc.trans (Chg.of_below0 (S := fun _ => False) hb4) (S'' := fun _ => False) (fun _ _ h => h) (fun _ _ h => h)
  have HO4 := hide ho4
  clear ho4 hb4
  refine ⟨_, rfl, hSc, ?_⟩
  simp only [Act.put, List.setIfInBounds_toArray, List.set_cons_zero, List.set_cons_succ]
  refine reg_take (i := 13) (v := ?g12v) rfl (by kernel_rfl) (by kernel_rfl) (by kernel_rfl) (by kernel_rfl) (fun _ _ _ h => h) (by rfl) ?g12y (by assumption) ?g12r
  case g12y => (intro W hS; first | (go_simp; done) | (go_simp; with_reducible rfl))
  simp only [Act.put, List.setIfInBounds_toArray, List.set_cons_zero, List.set_cons_succ]
  refine wpAnyG_done (by kernel_rfl) ?_ _
  have HC4 := hide hSc
  have hb4 := hSc.below (n := w2.heap.size) (Nat.le_refl _) (fun _ _ h => h)
  have HB4 := hide (HB.out.trans (hb4.mono HB.out.size))
  have c0 := hSc.cell c0 (fun h => h)
  have c1 := hSc.cell c1 (fun h => h)
  have c2 := hSc.cell c2 (fun h => h)
  have c3 := hSc.cell c3 (fun h => h)
  have c4 := hSc.cell c4 (fun h => h)
  have c5 := hSc.cell c5 (fun h => h)
  have c6 := hSc.cell c6 (fun h => h)
  have c7 := hSc.cell c7 (fun h => h)
  have hl0 : (nums [k, i, n, l, bitN ps]).length = 40 := by simp [nums_length]
  obtain ⟨z0, hz0⟩ : ∃ z0, z0 = nums [k, i, n, l, bitN ps] := ⟨_, rfl⟩
  rw [← hz0] at hl0
  have HL0 := hide hl0
  rw [← hz0] at HO4 ⊢
  have hL0 : L = z0 ++ (if k = 1 then layC ⟨xps, xts, xn⟩ else []) := by rw [HL.out, hz0]; rfl
  have HL := hide hL0
  have ho4 : W4.ownsRow w.heap.size 5 1 (.slice ao4 z0.length cap4) z0.length (u8s z0) := ownsRow_base HO4.out (fun j hj => by
    have h5 := (ownsRow_lt HO4.out j hj).1
    have h6 := HB.out.size
    simp only [World.size_alloc] at h5
    have : w2.drew.heap.size = w2.heap.size := rfl
    omega)
  have HO4 := hide ho4
  clear hS0 hSc hz0 hL0 hb4 ho4 hl0
  by_cases k1 : k = 1
  · subst k1
    have hpu := HPU.out rfl
    have hps := hpu.ps
    have hts := hpu.ts
    have hnt := hpu.nt
    simp only at hps hts hnt
    have hfs : ∀ f ∈ xts, f.path.size ≤ 60 ∧ f.data.size ≤ 400 := hpu.fs
    have hL1 : L = z0 ++ layC ⟨xps, xts, xn⟩ := HL.out
    have HL := hide hL1
    have HFS := hide hfs
    obtain ⟨z1, hz1⟩ : ∃ z1, z1 = z0 ++ (num8 (xps.length : Int) ++ xps.flatMap num8) := ⟨_, rfl⟩
    obtain ⟨z2, hz2⟩ : ∃ z2, z2 = z1 ++ (num8 (xts.length : Int) ++ xts.flatMap flB) := ⟨_, rfl⟩
    have hL3 : L = z2 ++ txts [xn] := by rw [hL1, hz2, hz1]; simp [layC, nums]
    have hl5 : z1.length ≤ 64 := by
      rw [hz1]
      have h5 := flatMap_le num8 8 xps (fun x _ => Nat.le_of_eq (num8_length x))
      have h6 := HL0.out
      simp only [List.length_append, num8_length]
      omega
    have hl6 : z2.length ≤ 60000 := by
      have h5 := flatMap_le flB 4000 xts (fun x hx => by have := hfs x hx; rw [flB_length]; omega)
      rw [hz2]
      simp only [List.length_append, num8_length]
      omega
    have HL5 := hide hl5
    have HL6 := hide hl6
    have HZ1 := hide hz1
    have HZ2 := hide hz2
    have HLF := hide hL3
    clear HL hl5 hl6 hz1 hz2 hL3
    clear hpu HPU hL1 hfs
    have HSW : Hid (W4.heap.size ≤ W4.drew.heap.size) := hide (Nat.le_refl _)
    go_wp2_with fail
    refine reg_start (Chg (fun _ => False) W4) 10 10 (by rfl) (by kernel_rfl) (Chg.drew _ _) ?_
    intro hS0
    have hSc := hS0
    refine reg_take (i := 0) (v := ?g14v) rfl (by kernel_rfl) (by kernel_rfl) (by kernel_rfl) (by kernel_rfl) (fun _ _ _ h => h) (by rfl) ?g14y (by assumption) ?g14r
    case g14y => (intro W hS; first | (go_simp; done) | (go_simp; with_reducible rfl))
    simp only [Act.put, List.setIfInBounds_toArray, List.set_cons_zero, List.set_cons_succ]
    refine reg_take (i := 1) (v := ?g15v) rfl (by kernel_rfl) (by kernel_rfl) (by kernel_rfl) (by kernel_rfl) (fun _ _ _ h => h) (by rfl) ?g15y (by assumption) ?g15r
    case g15y => (intro W hS; first | (go_simp; done) | (go_simp; with_reducible rfl))
    simp only [Act.put, List.setIfInBounds_toArray, List.set_cons_zero, List.set_cons_succ]
    refine reg_take (i := 2) (v := ?g16v) rfl (by kernel_rfl) (by kernel_rfl) (by kernel_rfl) (by kernel_rfl) (fun _ _ _ h => h) (by rfl) ?g16y (by assumption) ?g16r
    case g16y => (intro W hS; first | (go_simp; done) | (go_simp; with_reducible rfl))
    simp only [Act.put, List.setIfInBounds_toArray, List.set_cons_zero, List.set_cons_succ]
    refine reg_take (i := 3) (v := ?g17v) rfl (by kernel_rfl) (by kernel_rfl) (by kernel_rfl) (by kernel_rfl) (fun _ _ _ h => h) (by rfl) ?g17y (by assumption) ?g17r
    case g17y => (intro W hS; have f5 := hS.cell c5 (fun h => h); have f6 := hS.cell c6 (fun h => h); first | (go_simp; done) | (go_simp; with_reducible rfl))
    simp only [Act.put, List.setIfInBounds_toArray, List.set_cons_zero, List.set_cons_succ]
    refine reg_take (i := 5) (v := ?g18v) rfl (by kernel_rfl) (by kernel_rfl) (by kernel_rfl) (by kernel_rfl) (fun _ _ _ h => h) (by rfl) ?g18y (by assumption) ?g18r
    case g18y => (intro W hS; first | (go_simp; done) | (go_simp; with_reducible rfl))
    simp only [Act.put, List.setIfInBounds_toArray, List.set_cons_zero, List.set_cons_succ]
    refine reg_take (i := 6) (v := ?g19v) rfl (by kernel_rfl) (by kernel_rfl) (by kernel_rfl) (by kernel_rfl) (fun _ _ _ h => h) (by rfl) ?g19y (by assumption) ?g19r
    case g19y => (intro W hS; first | (go_simp; done) | (go_simp; with_reducible rfl))
    simp only [Act.put, List.setIfInBounds_toArray, List.set_cons_zero, List.set_cons_succ]
    refine reg_take (i := 7) (v := ?g20v) rfl (by kernel_rfl) (by kernel_rfl) (by kernel_rfl) (by kernel_rfl) (fun _ _ _ h => h) (by rfl) ?g20y (by assumption) ?g20r
    case g20y => (intro W hS; have f5 := hS.cell c5 (fun h => h); have f6 := hS.cell c6 (fun h => h); first | (go_simp; done) | (go_simp; with_reducible rfl))
    simp only [Act.put, List.setIfInBounds_toArray, List.set_cons_zero, List.set_cons_succ]
    refine reg_one (i := 4) (by kernel_rfl) ?_
    refine op_call (i := 4) (#[.slice ao4 z0.length cap4, xp, .func (.func 37) #[] #[]]) rfl (by rfl) (enters_of Tryd.func36 (by kernel_rfl) rfl) (by first | (simp [Act.eval]; done) | rfl | (simp only [List.map_toArray, List.map_cons, List.map_nil, Act.eval]; rfl) | (simp [Act.eval]; trace_state; done)) ?_
    refine (code_List_I (Value.int .i64) num8 _ _ _ z0 xps z1 HZ1.out ((Rd.of_owns HO4.out).chg hSc (fun _ _ _ h => h)) ((flat_int xps) ▸ ((HX.out.same (Chg.of_below0 HB4.out)).same hSc).ps) (fun _ _ => rfl) 8 (fun x _ => Nat.le_of_eq (num8_length x)) (by have := HL0.out; omega) (by omega) (fun W v c x hW hx hr hm => lay_parent W v c x hr hm)).mono ?_
    rintro e W5 ⟨ao5, cap5, rfl, ho5, hb5⟩
    have hSc := hSc.trans (Chg.of_below0 (S := fun _ => False) hb5) (S'' := fun _ => False) (fun _ _ h => h) (fun _ _ h => h)
    have HO5 := hide ho5
    have HS5 := hide hb5.size
    clear ho5 hb5
    refine ⟨_, rfl, hSc, ?_⟩
    simp only [Act.put, List.setIfInBounds_toArray, List.set_cons_zero, List.set_cons_succ]
    refine reg_one (i := 8) (by kernel_rfl) ?_
    refine op_call (i := 8) (#[.slice ao5 z1.length cap5, xt, .func (.func 38) #[] #[]]) rfl (by rfl) (enters_of Tryd.func35 (by kernel_rfl) rfl) (by first | (simp [Act.eval]; done) | rfl | (simp only [List.map_toArray, List.map_cons, List.map_nil, Act.eval]; rfl) | (simp [Act.eval]; trace_state; done)) ?_
    refine (code_List_F flB _ _ _ z1 xts z2 HZ2.out (Rd.of_owns HO5.out) ((HX.out.same (Chg.of_below0 HB4.out)).same hSc).ts 4000 (fun x hx => by have := HFS.out x hx; rw [flB_length]; omega) (by have := HL5.out; omega) (by omega) (fun W v c x hW hx hr hm => lay_file W v c x hr (by have := HFS.out x hx; omega) hm)).mono ?_
    rintro e W6 ⟨ao6, cap6, rfl, ho6, hb6⟩
    have hSc := hSc.trans (Chg.of_below0 (S := fun _ => False) hb6) (S'' := fun _ => False) (fun _ _ h => h) (fun _ _ h => h)
    have HO6 := hide ho6
    have HS5 := hide (Nat.le_trans HSW.out HS5.out)
    clear ho6 hb6
    refine ⟨_, rfl, hSc, ?_⟩
    simp only [Act.put, List.setIfInBounds_toArray, List.set_cons_zero, List.set_cons_succ]
    refine reg_take (i := 9) (v := ?g21v) rfl (by kernel_rfl) (by kernel_rfl) (by kernel_rfl) (by kernel_rfl) (fun _ _ _ h => h) (by rfl) ?g21y (by assumption) ?g21r
    case g21y => (intro W hS; first | (go_simp; done) | (go_simp; with_reducible rfl))
    simp only [Act.put, List.setIfInBounds_toArray, List.set_cons_zero, List.set_cons_succ]
    refine wpAnyG_done (by kernel_rfl) ?_ _
    have HB6 := hide (HB4.out.trans ((hSc.below (n := W4.heap.size) (Nat.le_refl _) (fun _ _ h => h)).mono HB4.out.size))
    have c7 := hSc.cell c7 (fun h => h)
    have ho6 : W6.ownsRow w.heap.size 5 1 (.slice ao6 z2.length cap6) z2.length (u8s z2) := ownsRow_base HO6.out (fun j hj => by
      have h5 := (ownsRow_lt HO6.out j hj).1
      have h6 := HB4.out.size
      have h7 := HS5.out
      omega)
    have HO6 := hide ho6
    clear hS0 hSc ho6
    go_wp2_with fail
    have h4 := Rd_lit W6 #[.string xn] 9 1
    refine (code_Text _ _ _ z2 [xn] L HLF.out ((Rd.of_owns HO6.out).chg (Chg.alloc (fun _ => False) W6 _) (fun _ _ _ h => h)) h4 60 (fun t ht => by cases List.mem_singleton.1 ht; exact hnt) (by have := HL6.out; simp; omega) (by simp)).mono ?_
    clear h4
    rintro e W7 ⟨ao7, cap7, rfl, ho7, hb7⟩
    have HO7 := hide ho7
    have HB7 := hide hb7
    clear ho7 hb7
    go_wp2_with fail
    go_ret2
    have hb : Below w.heap.size w W7 := (HB6.out.alloc HB6.out.size _).trans (HB7.out.mono (by have := HB6.out.size; simp; omega))
    have ho : W7.ownsRow w.heap.size 5 1 (.slice ao7 L.length cap7) L.length (u8s L) := ownsRow_base HO7.out (fun j hj => by
      have h5 := (ownsRow_lt HO7.out j hj).1
      have h6 := HB6.out.size
      simp only [World.size_alloc] at h5
      omega)
    first
      | exact ⟨hb, .inr ⟨rfl, _, _, rfl, ho⟩⟩
      | exact ⟨hb, _, _, rfl, ho⟩
  · have z1 : (k == 1) = false := by simp [k1]
    have hL1 : L = z0 := by rw [HL.out, if_neg k1, List.append_nil]
    have HL1 := hide hL1
    clear hL1
    go_wp2_with fail
    go_ret2
    rw [HL1.out]
    first
      | exact ⟨HB4.out, .inr ⟨rfl, _, _, rfl, HO4.out⟩⟩
      | exact ⟨HB4.out, _, _, rfl, HO4.out⟩
end Go.Proofs.YtjmmmpnpkialjaaDoor
