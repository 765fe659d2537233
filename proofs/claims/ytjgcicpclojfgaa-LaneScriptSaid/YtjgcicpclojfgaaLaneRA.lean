/- The document's lanes (chapter 20): Add and Close. Conditions: none. -/
import Derived.Test.YtjgcicpclojfgaaLaneR
import Derived.Test.YtjgcicpclojfgaaReg
namespace Go.Proofs.Ytjgcicpclojfgaa
open Go.RowKit Go.Shelf

section
variable {base : Nat} {w w' : World} {rp : Nat} {pend lanes : Int} {ra : Option Addr} {rcap : Nat} {all : List En}
theorem RGrew.refl (h : RefAt base w rp pend lanes ra rcap all) : RGrew base w rp pend lanes ra all w := ⟨ra, rcap, h, Chg.refl _ _, fun _ h => .inl h⟩
theorem ref20_Add_arg (w : World) (x y : Int) (h : RefAt base w rp pend lanes ra rcap all) (hb : x < 1 ∨ y < 0 ∨ y ≥ lanes) : Calls Try.prog 48 #[.pointer (some ⟨rp, 0, none⟩), .int .i64 x, .int .i64 y] w fun e w' => e = .returned (.tuple #[.int .i64 0, .int .i64 2]) ∧ w' = w := by
  have h2 := cell_of_heap h.box 2
  clear h
  by_cases c1 : x < 1
  · clear hb
    go_enter Try.func48, Try.ntmps48
    go_wp2
    refine bodyPost_ret (v := .tuple #[.int .i64 0, .int .i64 2]) (by simp [results, Try.results48, go_sem]) rfl ?_
    exact ⟨rfl, rfl⟩
  · by_cases c2 : y < 0
    · clear hb
      go_enter Try.func48, Try.ntmps48
      go_wp2
      refine bodyPost_ret (v := .tuple #[.int .i64 0, .int .i64 2]) (by simp [results, Try.results48, go_sem]) rfl ?_
      exact ⟨rfl, rfl⟩
    · have c3 : y ≥ lanes := by omega
      clear hb
      go_enter Try.func48, Try.ntmps48
      go_wp2
      refine bodyPost_ret (v := .tuple #[.int .i64 0, .int .i64 2]) (by simp [results, Try.results48, go_sem]) rfl ?_
      exact ⟨rfl, rfl⟩
set_option maxRecDepth 100000 in
set_option maxHeartbeats 2000000 in
theorem ref20_Add_full (w : World) (x y : Int) (h : RefAt base w rp pend lanes ra rcap all) (hb : 1 ≤ x ∧ 0 ≤ y ∧ y < lanes) (hf : ((waitR all).length : Int) ≥ pend ∨ 60 ≤ all.length) :
    Calls Try.prog 48 #[.pointer (some ⟨rp, 0, none⟩), .int .i64 x, .int .i64 y] w fun e w' => e = .returned (.tuple #[.int .i64 0, .int .i64 3]) ∧ Below w.heap.size w w' := by
  have h0 := cell_of_heap h.box 0
  have h1 := cell_of_heap h.box 1
  have h2 := cell_of_heap h.box 2
  have c1 : decide (x < 1) = false := decide_eq_false (by omega)
  have c2 : decide (y < 0) = false := decide_eq_false (by omega)
  have c3 : decide (y ≥ lanes) = false := decide_eq_false (by omega)
  have H := hide h
  have hpl := (h.lt rp (.inl rfl)).2
  obtain ⟨n, hn⟩ : ∃ n, n = (waitR all).length := ⟨_, rfl⟩
  rw [← hn] at hf
  have hW : ∀ W, Chg (fun _ => False) w W → Calls Try.prog 54 #[.pointer (some ⟨rp, 0, none⟩)] W fun e w' => ∃ ao cap, e = .returned (.slice ao n cap) ∧ Below w.heap.size w w' := fun W c => by
    refine (ref20_Waiting W (h.chg c (fun _ _ h => h))).mono ?_
    rintro e w' ⟨ao, cap, rfl, -, hb⟩
    exact ⟨ao, cap, by rw [hn], (c.below (Nat.le_refl _) (fun _ _ h => h)).trans (hb.mono c.size)⟩
  have HW := hide hW
  clear h hb hW hn
  by_cases c4 : (n : Int) ≥ pend
  · have d4 : decide ((n : Int) ≥ pend) = true := decide_eq_true c4
    have HF := hide hf
    clear hf c4
    go_enter Try.func48, Try.ntmps48
    go_wp2_with fail
    refine reg_start (Chg (fun _ => False) w) 16 (by rfl) (by kernel_rfl) (Chg.drew _ _) ?_
    intro hS0
    refine reg_take (i := 0) (v := ?g1v0) rfl (by kernel_rfl) (by kernel_rfl) (by kernel_rfl) (fun _ _ _ h => h) (by rfl) ?g1y0 (by assumption) ?g1r0
    case g1y0 => (intro W hS; first | (go_simp; done) | (go_simp; with_reducible rfl))
    simp only [Act.put, List.setIfInBounds_toArray, List.set_cons_zero, List.set_cons_succ]
    refine reg_take (i := 3) (v := ?g1v3) rfl (by kernel_rfl) (by kernel_rfl) (by kernel_rfl) (fun _ _ _ h => h) (by rfl) ?g1y3 (by assumption) ?g1r3
    case g1y3 => (intro W hS; first | (go_simp; done) | (go_simp; with_reducible rfl))
    simp only [Act.put, List.setIfInBounds_toArray, List.set_cons_zero, List.set_cons_succ]
    refine reg_take (i := 4) (v := ?g1v4) rfl (by kernel_rfl) (by kernel_rfl) (by kernel_rfl) (fun _ _ _ h => h) (by rfl) ?g1y4 (by assumption) ?g1r4
    case g1y4 => (intro W hS; first | (go_simp; done) | (go_simp; with_reducible rfl))
    simp only [Act.put, List.setIfInBounds_toArray, List.set_cons_zero, List.set_cons_succ]
    refine reg_take (i := 5) (v := ?g1v5) rfl (by kernel_rfl) (by kernel_rfl) (by kernel_rfl) (fun _ _ _ h => h) (by rfl) ?g1y5 (by assumption) ?g1r5
    case g1y5 => (intro W hS; first | (go_simp; done) | (go_simp; with_reducible rfl))
    simp only [Act.put, List.setIfInBounds_toArray, List.set_cons_zero, List.set_cons_succ]
    refine reg_take (i := 6) (v := ?g1v6) rfl (by kernel_rfl) (by kernel_rfl) (by kernel_rfl) (fun _ _ _ h => h) (by rfl) ?g1y6 (by assumption) ?g1r6
    case g1y6 => (intro W hS; have f0 := hS.cell h0 (fun h => h); have f1 := hS.cell h1 (fun h => h); first | (go_simp; done) | (go_simp; with_reducible rfl))
    simp only [Act.put, List.setIfInBounds_toArray, List.set_cons_zero, List.set_cons_succ]
    refine reg_call (i := 1) (#[.pointer (some ⟨rp, 0, none⟩)]) rfl (by kernel_rfl) (by rfl) (enters_of Try.func54 (by kernel_rfl) rfl) (by first | (simp [Act.eval]; done) | rfl) ?_
    refine (HW.out _ (by assumption)).mono ?_
    rintro e w5 ⟨ao5, cap5, rfl, hb5⟩
    have HB5 := hide hb5
    have hS5 := Chg.of_below0 (S := fun _ => False) hb5
    clear hb5
    refine ⟨_, rfl, hS5, ?_⟩
    simp only [Act.put, List.setIfInBounds_toArray, List.set_cons_zero, List.set_cons_succ]
    refine reg_take (i := 2) (v := ?g1v2) rfl (by kernel_rfl) (by kernel_rfl) (by kernel_rfl) (fun _ _ _ h => h) (by rfl) ?g1y2 (by assumption) ?g1r2
    case g1y2 => (intro W hS; first | (go_simp; done) | (go_simp; with_reducible rfl))
    simp only [Act.put, List.setIfInBounds_toArray, List.set_cons_zero, List.set_cons_succ]
    refine reg_take (i := 7) (v := ?g1v7) rfl (by kernel_rfl) (by kernel_rfl) (by kernel_rfl) (fun _ _ _ h => h) (by rfl) ?g1y7 (by assumption) ?g1r7
    case g1y7 => (intro W hS; first | (go_simp; done) | (go_simp; with_reducible rfl))
    simp only [Act.put, List.setIfInBounds_toArray, List.set_cons_zero, List.set_cons_succ]
    refine reg_take (i := 8) (v := ?g1v8) rfl (by kernel_rfl) (by kernel_rfl) (by kernel_rfl) (fun _ _ _ h => h) (by rfl) ?g1y8 (by assumption) ?g1r8
    case g1y8 => (intro W hS; first | (go_simp; done) | (go_simp; with_reducible rfl))
    simp only [Act.put, List.setIfInBounds_toArray, List.set_cons_zero, List.set_cons_succ]
    refine reg_skip (i := 9) rfl (by kernel_rfl) (by kernel_rfl) (by kernel_rfl) (fun _ _ _ h => h) (by rfl) (by assumption) ?_
    simp only [Act.put, List.setIfInBounds_toArray, List.set_cons_zero, List.set_cons_succ]
    refine reg_skip (i := 10) rfl (by kernel_rfl) (by kernel_rfl) (by kernel_rfl) (fun _ _ _ h => h) (by rfl) (by assumption) ?_
    simp only [Act.put, List.setIfInBounds_toArray, List.set_cons_zero, List.set_cons_succ]
    refine reg_skip (i := 11) rfl (by kernel_rfl) (by kernel_rfl) (by kernel_rfl) (fun _ _ _ h => h) (by rfl) (by assumption) ?_
    simp only [Act.put, List.setIfInBounds_toArray, List.set_cons_zero, List.set_cons_succ]
    refine reg_skip (i := 12) rfl (by kernel_rfl) (by kernel_rfl) (by kernel_rfl) (fun _ _ _ h => h) (by rfl) (by assumption) ?_
    simp only [Act.put, List.setIfInBounds_toArray, List.set_cons_zero, List.set_cons_succ]
    refine reg_skip (i := 13) rfl (by kernel_rfl) (by kernel_rfl) (by kernel_rfl) (fun _ _ _ h => h) (by rfl) (by assumption) ?_
    simp only [Act.put, List.setIfInBounds_toArray, List.set_cons_zero, List.set_cons_succ]
    refine reg_skip (i := 14) rfl (by kernel_rfl) (by kernel_rfl) (by kernel_rfl) (fun _ _ _ h => h) (by rfl) (by assumption) ?_
    simp only [Act.put, List.setIfInBounds_toArray, List.set_cons_zero, List.set_cons_succ]
    refine reg_take (i := 15) (v := ?g1v15) rfl (by kernel_rfl) (by kernel_rfl) (by kernel_rfl) (fun _ _ _ h => h) (by rfl) ?g1y15 (by assumption) ?g1r15
    case g1y15 => (intro W hS; first | (go_simp; done) | (go_simp; with_reducible rfl))
    simp only [Act.put, List.setIfInBounds_toArray, List.set_cons_zero, List.set_cons_succ]
    refine wpAnyH_done (by kernel_rfl) ?_ _
    all_goals
      go_wp2_with fail
      refine bodyPost_ret (v := .tuple #[.int .i64 0, .int .i64 3]) (by simp [results, Try.results48, go_sem]) rfl ?_
      exact ⟨rfl, HB5.out⟩
  · have hf' : 60 ≤ all.length := by omega
    have c5 : decide ((all.length : Int) ≥ 60) = true := decide_eq_true (by omega)
    have c4' : decide ((n : Int) ≥ pend) = false := decide_eq_false c4
    clear hf hf' c4
    go_enter Try.func48, Try.ntmps48
    go_wp2_with fail
    refine reg_start (Chg (fun _ => False) w) 16 (by rfl) (by kernel_rfl) (Chg.drew _ _) ?_
    intro hS0
    refine reg_take (i := 0) (v := ?g2v0) rfl (by kernel_rfl) (by kernel_rfl) (by kernel_rfl) (fun _ _ _ h => h) (by rfl) ?g2y0 (by assumption) ?g2r0
    case g2y0 => (intro W hS; first | (go_simp; done) | (go_simp; with_reducible rfl))
    simp only [Act.put, List.setIfInBounds_toArray, List.set_cons_zero, List.set_cons_succ]
    refine reg_take (i := 3) (v := ?g2v3) rfl (by kernel_rfl) (by kernel_rfl) (by kernel_rfl) (fun _ _ _ h => h) (by rfl) ?g2y3 (by assumption) ?g2r3
    case g2y3 => (intro W hS; first | (go_simp; done) | (go_simp; with_reducible rfl))
    simp only [Act.put, List.setIfInBounds_toArray, List.set_cons_zero, List.set_cons_succ]
    refine reg_take (i := 4) (v := ?g2v4) rfl (by kernel_rfl) (by kernel_rfl) (by kernel_rfl) (fun _ _ _ h => h) (by rfl) ?g2y4 (by assumption) ?g2r4
    case g2y4 => (intro W hS; first | (go_simp; done) | (go_simp; with_reducible rfl))
    simp only [Act.put, List.setIfInBounds_toArray, List.set_cons_zero, List.set_cons_succ]
    refine reg_take (i := 5) (v := ?g2v5) rfl (by kernel_rfl) (by kernel_rfl) (by kernel_rfl) (fun _ _ _ h => h) (by rfl) ?g2y5 (by assumption) ?g2r5
    case g2y5 => (intro W hS; first | (go_simp; done) | (go_simp; with_reducible rfl))
    simp only [Act.put, List.setIfInBounds_toArray, List.set_cons_zero, List.set_cons_succ]
    refine reg_take (i := 6) (v := ?g2v6) rfl (by kernel_rfl) (by kernel_rfl) (by kernel_rfl) (fun _ _ _ h => h) (by rfl) ?g2y6 (by assumption) ?g2r6
    case g2y6 => (intro W hS; have f0 := hS.cell h0 (fun h => h); have f1 := hS.cell h1 (fun h => h); first | (go_simp; done) | (go_simp; with_reducible rfl))
    simp only [Act.put, List.setIfInBounds_toArray, List.set_cons_zero, List.set_cons_succ]
    refine reg_call (i := 1) (#[.pointer (some ⟨rp, 0, none⟩)]) rfl (by kernel_rfl) (by rfl) (enters_of Try.func54 (by kernel_rfl) rfl) (by first | (simp [Act.eval]; done) | rfl) ?_
    refine (HW.out _ (by assumption)).mono ?_
    rintro e w5 ⟨ao5, cap5, rfl, hb5⟩
    have HB5 := hide hb5
    have hS5 := Chg.of_below0 (S := fun _ => False) hb5
    clear hb5
    refine ⟨_, rfl, hS5, ?_⟩
    simp only [Act.put, List.setIfInBounds_toArray, List.set_cons_zero, List.set_cons_succ]
    refine reg_take (i := 2) (v := ?g2v2) rfl (by kernel_rfl) (by kernel_rfl) (by kernel_rfl) (fun _ _ _ h => h) (by rfl) ?g2y2 (by assumption) ?g2r2
    case g2y2 => (intro W hS; first | (go_simp; done) | (go_simp; with_reducible rfl))
    simp only [Act.put, List.setIfInBounds_toArray, List.set_cons_zero, List.set_cons_succ]
    refine reg_take (i := 7) (v := ?g2v7) rfl (by kernel_rfl) (by kernel_rfl) (by kernel_rfl) (fun _ _ _ h => h) (by rfl) ?g2y7 (by assumption) ?g2r7
    case g2y7 => (intro W hS; first | (go_simp; done) | (go_simp; with_reducible rfl))
    simp only [Act.put, List.setIfInBounds_toArray, List.set_cons_zero, List.set_cons_succ]
    refine reg_take (i := 8) (v := ?g2v8) rfl (by kernel_rfl) (by kernel_rfl) (by kernel_rfl) (fun _ _ _ h => h) (by rfl) ?g2y8 (by assumption) ?g2r8
    case g2y8 => (intro W hS; first | (go_simp; done) | (go_simp; with_reducible rfl))
    simp only [Act.put, List.setIfInBounds_toArray, List.set_cons_zero, List.set_cons_succ]
    refine reg_take (i := 9) (v := ?g2v9) rfl (by kernel_rfl) (by kernel_rfl) (by kernel_rfl) (fun _ _ _ h => h) (by rfl) ?g2y9 (by assumption) ?g2r9
    case g2y9 => (intro W hS; first | (go_simp; done) | (go_simp; with_reducible rfl))
    simp only [Act.put, List.setIfInBounds_toArray, List.set_cons_zero, List.set_cons_succ]
    refine reg_take (i := 10) (v := ?g2v10) rfl (by kernel_rfl) (by kernel_rfl) (by kernel_rfl) (fun _ _ _ h => h) (by rfl) ?g2y10 (by assumption) ?g2r10
    case g2y10 => (intro W hS; first | (go_simp; done) | (go_simp; with_reducible rfl))
    simp only [Act.put, List.setIfInBounds_toArray, List.set_cons_zero, List.set_cons_succ]
    refine reg_take (i := 11) (v := ?g2v11) rfl (by kernel_rfl) (by kernel_rfl) (by kernel_rfl) (fun _ _ _ h => h) (by rfl) ?g2y11 (by assumption) ?g2r11
    case g2y11 => (intro W hS; first | (go_simp; done) | (go_simp; with_reducible rfl))
    simp only [Act.put, List.setIfInBounds_toArray, List.set_cons_zero, List.set_cons_succ]
    refine reg_take (i := 12) (v := ?g2v12) rfl (by kernel_rfl) (by kernel_rfl) (by kernel_rfl) (fun _ _ _ h => h) (by rfl) ?g2y12 (by assumption) ?g2r12
    case g2y12 => (intro W hS; have f0 := hS.cell h0 (fun h => h); have f1 := hS.cell h1 (fun h => h); first | (go_simp; done) | (go_simp; with_reducible rfl))
    simp only [Act.put, List.setIfInBounds_toArray, List.set_cons_zero, List.set_cons_succ]
    refine reg_take (i := 13) (v := ?g2v13) rfl (by kernel_rfl) (by kernel_rfl) (by kernel_rfl) (fun _ _ _ h => h) (by rfl) ?g2y13 (by assumption) ?g2r13
    case g2y13 => (intro W hS; first | (go_simp; done) | (go_simp; with_reducible rfl))
    simp only [Act.put, List.setIfInBounds_toArray, List.set_cons_zero, List.set_cons_succ]
    refine reg_take (i := 14) (v := ?g2v14) rfl (by kernel_rfl) (by kernel_rfl) (by kernel_rfl) (fun _ _ _ h => h) (by rfl) ?g2y14 (by assumption) ?g2r14
    case g2y14 => (intro W hS; first | (go_simp; done) | (go_simp; with_reducible rfl))
    simp only [Act.put, List.setIfInBounds_toArray, List.set_cons_zero, List.set_cons_succ]
    refine reg_take (i := 15) (v := ?g2v15) rfl (by kernel_rfl) (by kernel_rfl) (by kernel_rfl) (fun _ _ _ h => h) (by rfl) ?g2y15 (by assumption) ?g2r15
    case g2y15 => (intro W hS; first | (go_simp; done) | (go_simp; with_reducible rfl))
    simp only [Act.put, List.setIfInBounds_toArray, List.set_cons_zero, List.set_cons_succ]
    refine wpAnyH_done (by kernel_rfl) ?_ _
    all_goals
      go_wp2_with fail
      refine bodyPost_ret (v := .tuple #[.int .i64 0, .int .i64 3]) (by simp [results, Try.results48, go_sem]) rfl ?_
      exact ⟨rfl, HB5.out⟩

set_option maxRecDepth 100000 in
set_option maxHeartbeats 4000000 in
theorem ref20_Add (w : World) (x y : Int) (h : RefAt base w rp pend lanes ra rcap all) (hb : 1 ≤ x ∧ 0 ≤ y ∧ y < lanes) (hf : ((waitR all).length : Int) < pend) (hl : all.length < 60) :
    Calls Try.prog 48 #[.pointer (some ⟨rp, 0, none⟩), .int .i64 x, .int .i64 y] w fun e w' => e = .returned (.tuple #[.int .i64 (all.length + 1), .int .i64 0]) ∧ RGrew base w rp pend lanes ra (all ++ [⟨all.length + 1, x, y, 7⟩]) w' := by
  have h0 := cell_of_heap h.box 0
  have h1 := cell_of_heap h.box 1
  have h2 := cell_of_heap h.box 2
  have c1 : decide (x < 1) = false := decide_eq_false (by omega)
  have c2 : decide (y < 0) = false := decide_eq_false (by omega)
  have c3 : decide (y ≥ lanes) = false := decide_eq_false (by omega)
  have H := hide h
  have hpl := (h.lt rp (.inl rfl)).2
  have HPL := hide hpl
  obtain ⟨n, hn⟩ : ∃ n, n = (waitR all).length := ⟨_, rfl⟩
  rw [← hn] at hf
  have hW : ∀ W, Chg (fun _ => False) w W → Calls Try.prog 54 #[.pointer (some ⟨rp, 0, none⟩)] W fun e w' => ∃ ao cap, e = .returned (.slice ao n cap) ∧ Below w.heap.size w w' := fun W c => by
    refine (ref20_Waiting W (h.chg c (fun _ _ h => h))).mono ?_
    rintro e w' ⟨ao, cap, rfl, -, hb⟩
    exact ⟨ao, cap, by rw [hn], (c.below (Nat.le_refl _) (fun _ _ h => h)).trans (hb.mono c.size)⟩
  have HW := hide hW
  have c4 : decide ((n : Int) ≥ pend) = false := decide_eq_false (by omega)
  have c5 : decide ((all.length : Int) ≥ 60) = false := decide_eq_false (by omega)
  have a1 : IntKind.i64.wrap ((all.length : Int) + 1) = all.length + 1 := IntWalk.i64_in _ (by omega)
  have HF := hide hl
  clear h hb hW hn hf hl
  go_enter Try.func48, Try.ntmps48
  go_wp2_with fail
  refine reg_start (Chg (fun _ => False) w) 16 (by rfl) (by kernel_rfl) (Chg.drew _ _) ?_
  intro hS0
  refine reg_take (i := 0) (v := ?g3v0) rfl (by kernel_rfl) (by kernel_rfl) (by kernel_rfl) (fun _ _ _ h => h) (by rfl) ?g3y0 (by assumption) ?g3r0
  case g3y0 => (intro W hS; first | (go_simp; done) | (go_simp; with_reducible rfl))
  simp only [Act.put, List.setIfInBounds_toArray, List.set_cons_zero, List.set_cons_succ]
  refine reg_take (i := 3) (v := ?g3v3) rfl (by kernel_rfl) (by kernel_rfl) (by kernel_rfl) (fun _ _ _ h => h) (by rfl) ?g3y3 (by assumption) ?g3r3
  case g3y3 => (intro W hS; first | (go_simp; done) | (go_simp; with_reducible rfl))
  simp only [Act.put, List.setIfInBounds_toArray, List.set_cons_zero, List.set_cons_succ]
  refine reg_take (i := 4) (v := ?g3v4) rfl (by kernel_rfl) (by kernel_rfl) (by kernel_rfl) (fun _ _ _ h => h) (by rfl) ?g3y4 (by assumption) ?g3r4
  case g3y4 => (intro W hS; first | (go_simp; done) | (go_simp; with_reducible rfl))
  simp only [Act.put, List.setIfInBounds_toArray, List.set_cons_zero, List.set_cons_succ]
  refine reg_take (i := 5) (v := ?g3v5) rfl (by kernel_rfl) (by kernel_rfl) (by kernel_rfl) (fun _ _ _ h => h) (by rfl) ?g3y5 (by assumption) ?g3r5
  case g3y5 => (intro W hS; first | (go_simp; done) | (go_simp; with_reducible rfl))
  simp only [Act.put, List.setIfInBounds_toArray, List.set_cons_zero, List.set_cons_succ]
  refine reg_take (i := 6) (v := ?g3v6) rfl (by kernel_rfl) (by kernel_rfl) (by kernel_rfl) (fun _ _ _ h => h) (by rfl) ?g3y6 (by assumption) ?g3r6
  case g3y6 => (intro W hS; have f0 := hS.cell h0 (fun h => h); have f1 := hS.cell h1 (fun h => h); first | (go_simp; done) | (go_simp; with_reducible rfl))
  simp only [Act.put, List.setIfInBounds_toArray, List.set_cons_zero, List.set_cons_succ]
  refine reg_call (i := 1) (#[.pointer (some ⟨rp, 0, none⟩)]) rfl (by kernel_rfl) (by rfl) (enters_of Try.func54 (by kernel_rfl) rfl) (by first | (simp [Act.eval]; done) | rfl) ?_
  refine (HW.out _ (by assumption)).mono ?_
  rintro e w5 ⟨ao5, cap5, rfl, hb5⟩
  have hS5 := Chg.of_below0 (S := fun _ => False) hb5
  clear hb5
  refine ⟨_, rfl, hS5, ?_⟩
  simp only [Act.put, List.setIfInBounds_toArray, List.set_cons_zero, List.set_cons_succ]
  refine reg_take (i := 2) (v := ?g3v2) rfl (by kernel_rfl) (by kernel_rfl) (by kernel_rfl) (fun _ _ _ h => h) (by rfl) ?g3y2 (by assumption) ?g3r2
  case g3y2 => (intro W hS; first | (go_simp; done) | (go_simp; with_reducible rfl))
  simp only [Act.put, List.setIfInBounds_toArray, List.set_cons_zero, List.set_cons_succ]
  refine reg_take (i := 7) (v := ?g3v7) rfl (by kernel_rfl) (by kernel_rfl) (by kernel_rfl) (fun _ _ _ h => h) (by rfl) ?g3y7 (by assumption) ?g3r7
  case g3y7 => (intro W hS; first | (go_simp; done) | (go_simp; with_reducible rfl))
  simp only [Act.put, List.setIfInBounds_toArray, List.set_cons_zero, List.set_cons_succ]
  refine reg_take (i := 8) (v := ?g3v8) rfl (by kernel_rfl) (by kernel_rfl) (by kernel_rfl) (fun _ _ _ h => h) (by rfl) ?g3y8 (by assumption) ?g3r8
  case g3y8 => (intro W hS; first | (go_simp; done) | (go_simp; with_reducible rfl))
  simp only [Act.put, List.setIfInBounds_toArray, List.set_cons_zero, List.set_cons_succ]
  refine reg_take (i := 9) (v := ?g3v9) rfl (by kernel_rfl) (by kernel_rfl) (by kernel_rfl) (fun _ _ _ h => h) (by rfl) ?g3y9 (by assumption) ?g3r9
  case g3y9 => (intro W hS; first | (go_simp; done) | (go_simp; with_reducible rfl))
  simp only [Act.put, List.setIfInBounds_toArray, List.set_cons_zero, List.set_cons_succ]
  refine reg_take (i := 10) (v := ?g3v10) rfl (by kernel_rfl) (by kernel_rfl) (by kernel_rfl) (fun _ _ _ h => h) (by rfl) ?g3y10 (by assumption) ?g3r10
  case g3y10 => (intro W hS; first | (go_simp; done) | (go_simp; with_reducible rfl))
  simp only [Act.put, List.setIfInBounds_toArray, List.set_cons_zero, List.set_cons_succ]
  refine reg_take (i := 11) (v := ?g3v11) rfl (by kernel_rfl) (by kernel_rfl) (by kernel_rfl) (fun _ _ _ h => h) (by rfl) ?g3y11 (by assumption) ?g3r11
  case g3y11 => (intro W hS; first | (go_simp; done) | (go_simp; with_reducible rfl))
  simp only [Act.put, List.setIfInBounds_toArray, List.set_cons_zero, List.set_cons_succ]
  refine reg_take (i := 12) (v := ?g3v12) rfl (by kernel_rfl) (by kernel_rfl) (by kernel_rfl) (fun _ _ _ h => h) (by rfl) ?g3y12 (by assumption) ?g3r12
  case g3y12 => (intro W hS; have f0 := hS.cell h0 (fun h => h); have f1 := hS.cell h1 (fun h => h); first | (go_simp; done) | (go_simp; with_reducible rfl))
  simp only [Act.put, List.setIfInBounds_toArray, List.set_cons_zero, List.set_cons_succ]
  refine reg_take (i := 13) (v := ?g3v13) rfl (by kernel_rfl) (by kernel_rfl) (by kernel_rfl) (fun _ _ _ h => h) (by rfl) ?g3y13 (by assumption) ?g3r13
  case g3y13 => (intro W hS; first | (go_simp; done) | (go_simp; with_reducible rfl))
  simp only [Act.put, List.setIfInBounds_toArray, List.set_cons_zero, List.set_cons_succ]
  refine reg_take (i := 14) (v := ?g3v14) rfl (by kernel_rfl) (by kernel_rfl) (by kernel_rfl) (fun _ _ _ h => h) (by rfl) ?g3y14 (by assumption) ?g3r14
  case g3y14 => (intro W hS; first | (go_simp; done) | (go_simp; with_reducible rfl))
  simp only [Act.put, List.setIfInBounds_toArray, List.set_cons_zero, List.set_cons_succ]
  refine reg_take (i := 15) (v := ?g3v15) rfl (by kernel_rfl) (by kernel_rfl) (by kernel_rfl) (fun _ _ _ h => h) (by rfl) ?g3y15 (by assumption) ?g3r15
  case g3y15 => (intro W hS; first | (go_simp; done) | (go_simp; with_reducible rfl))
  simp only [Act.put, List.setIfInBounds_toArray, List.set_cons_zero, List.set_cons_succ]
  refine wpAnyH_done (by kernel_rfl) ?_ _
  have H5 := hide (H.out.chg hS5 (fun _ _ h => h))
  have HS5 := hide hS5
  clear hS5 h0 h1 h2 hpl
  have k0 := cell_of_heap H5.out.box 0
  have hpl := (H5.out.lt rp (.inl rfl)).2
  go_wp2_with (first
    | (at_builtin; refine wpl_append0 rfl (.const (.slice none 0 0)) (.tmp 49) _ rfl pe_slT base (World.ownsRow_nil w5 _ _ _) (Rd.of_owns H5.out.own) rfl rfl (flat_length pe_len all) (flat_one' pe_one all) (by have := HF.out; omega) (by have := HF.out; unfold maxLen; omega) (by have := H5.out.low; omega) ?_; intro ao1 cap1 w6 hown hg hat hnil; have HO6 := hide hown; have HC6 := hide (hg.mono (S' := fun _ => False) (fun k _ e => by cases e)); have HAT6 : Hid (∀ k, (Value.slice ao1 all.length cap1).ownBlock = some k → w5.heap.size ≤ k) := (fun k hk => (hat_of hat k hk).resolve_left (fun e => by cases e)); clear hown hg hat hnil k0 hpl)
    | (at_builtin; refine wpl_append rfl (.tmp 50) (.tmp 55) _ rfl pe_slT base ((Chg.alloc (fun _ => False) w6 _).owns HO6.out (fun _ _ h => h)) (Rd_lit w6 #[.int .i64 (all.length + 1), .int .i64 x, .int .i64 y, .int .i64 7] 71 1) rfl rfl rfl (by exact pe_one ⟨all.length + 1, x, y, 7⟩) (by have := HF.out; unfold maxLen; omega) (by have := HF.out; omega) (by have := H5.out.low; have := HC6.out.size; have := (H5.out.lt rp (.inl rfl)).2; simp; omega) ?_; intro ao2 cap2 w7 hown hg hat hnil; have hc7 := (HC6.out.trans (Chg.alloc (fun _ => False) w6 _) (S'' := fun _ => False) (fun _ _ h => h) (fun _ _ h => h)).trans hg (S'' := fun k => (Value.slice ao1 all.length cap1).ownBlock = some k) (fun _ _ h => h.elim) (fun _ _ h => h); have hbx7 := hc7.heap H5.out.box (fun e => by have := HAT6.out _ e; have := (H5.out.lt rp (.inl rfl)).2; omega); have k7 := cell_of_heap hbx7 0; have f7 := free_of_heap hbx7 0; have l7 := (Array.getElem?_eq_some_iff.1 hbx7).1; have HO7 := hide hown; have HC7 := hide hc7; have HBX7 := hide hbx7; have HAT7 : Hid (∀ k, (Value.slice ao2 (all.length + 1) cap2).ownBlock = some k → w5.heap.size ≤ k) := (fun k hk => (hat_of hat k hk).elim (fun e => HAT6.out k e) (fun h => by have := HC6.out.size; simp at h; omega)); clear hown hg hat hnil hc7 hbx7))
  refine bodyPost_ret (v := .tuple #[.int .i64 (all.length + 1), .int .i64 0]) (by simp [results, Try.results48, go_sem]) rfl ?_
  have hpl5 := (H5.out.lt rp (.inl rfl)).2
  have hz5 := HS5.out.size
  have hc8 := HC7.out.trans (Chg.setCell w7 ⟨rp, 0, none⟩ (.slice ao2 (all.length + 1) cap2)) (S'' := fun k => (Value.slice ao1 all.length cap1).ownBlock = some k ∨ k = rp) (fun _ _ h => .inl h) (fun _ _ h => .inr h)
  have hne : ¬ (Value.slice ao2 (all.length + 1) cap2).ownBlock = some rp := fun e => by have := HAT7.out _ e; omega
  have hfew := HF.out
  refine ⟨rfl, ao2, cap2, ⟨?_, H.out.low, ?_, by simp; omega⟩, ?_, fun k hk => ?_⟩
  · have := heap_setCell_same HBX7.out (i := 0) (.slice ao2 (all.length + 1) cap2)
    simpa using this
  · have := (Chg.setCell w7 ⟨rp, 0, none⟩ (.slice ao2 (all.length + 1) cap2)).owns HO7.out (fun b hb e => by subst e; exact hne hb)
    rw [flat_append, flat_cons, flat_nil, List.append_nil, List.length_append]
    exact this
  · refine HS5.out.trans hc8 (fun _ _ h => h.elim) (fun k hk h => ?_)
    rcases h with h | h
    · have := HAT6.out k h; omega
    · exact .inl h
  · rcases hk with rfl | hk
    · exact .inl (.inl rfl)
    · rw [own_slice ao2 _ _ (all.length + 1) cap2] at hk
      have := HAT7.out k hk
      exact .inr (by omega)

theorem ref20_Close_no (w : World) (n code : Int) (h : RefAt base w rp pend lanes ra rcap all) (hg : GoodAll all) (hno : code = 7 ∨ (waitR all).any (byN n) = false) :
    Calls Try.prog 50 #[.pointer (some ⟨rp, 0, none⟩), .int .i64 n, .int .i64 code] w fun e w' => e = .returned (.bool false) ∧ w' = w := by
  by_cases hr : n < 1 ∨ (all.length : Int) < n
  · have H := hide h
    have HR := hide hr
    clear h hg hno hr
    go_enter Try.func50, Try.ntmps50
    go_wp2_with fail
    refine (ref20_Has_no w n H.out HR.out).mono ?_
    rintro e w1 ⟨rfl, rfl⟩
    go_wp2_with fail
    go_ret
    exact ⟨rfl, rfl⟩
  · obtain ⟨m, rfl⟩ : ∃ m : Nat, n = (m : Int) + 1 := ⟨(n - 1).toNat, by omega⟩
    have hm : m < all.length := by omega
    have H := hide h
    have hfew := h.few
    have h0 := cell_of_heap h.box 0
    obtain ⟨b, rfl, hcs, hbl, hcp⟩ := own_at h.own (by omega)
    obtain ⟨hx0, hx1, hx2, hx3⟩ := pe_cells w b 0 all hcs m hm
    simp only [Nat.zero_add] at hx0 hx1 hx2 hx3
    rw [wait_any hg m hm] at hno
    obtain ⟨x, hxx⟩ : ∃ x, x = all[m] := ⟨_, rfl⟩
    rw [← hxx] at hx0 hx1 hx2 hx3 hno
    have a1 : IntKind.i64.wrap (m : Int) = m := IntWalk.i64_in _ (by omega)
    have a2 : IntKind.i64.wrap ((m : Int) + 1 - 1) = m := by rw [Int.add_sub_cancel]; exact a1
    have HM := hide hm
    clear h hg hcs hxx hr hcp
    by_cases hc : x.code = 7
    · have d1 : (x.code != 7) = false := by simp [hc]
      obtain rfl : code = 7 := by rcases hno with h | h; exact h; simp [hc] at h
      clear hno hc
      go_enter Try.func50, Try.ntmps50
      go_wp2_with fail
      refine (ref20_Has_yes w m H.out HM.out).mono ?_
      rintro e w1 ⟨rfl, rfl⟩
      go_wp2_with fail
      go_ret
      exact ⟨rfl, rfl⟩
    · have d1 : (x.code != 7) = true := by simp [hc]
      clear hno hc
      go_enter Try.func50, Try.ntmps50
      go_wp2_with fail
      refine (ref20_Has_yes w m H.out HM.out).mono ?_
      rintro e w1 ⟨rfl, rfl⟩
      go_wp2_with fail
      go_ret
      exact ⟨rfl, rfl⟩
theorem ref20_Close (w : World) (m : Nat) (code : Int) (h : RefAt base w rp pend lanes ra rcap all) (hc : code ≠ 7) (hm : m < all.length) (hy : all[m].code = 7) :
    Calls Try.prog 50 #[.pointer (some ⟨rp, 0, none⟩), .int .i64 (m + 1), .int .i64 code] w fun e w' => e = .returned (.bool true) ∧ RGrew base w rp pend lanes ra (setCode all m code) w' := by
  have H := hide h
  have h0 := cell_of_heap h.box 0
  have hfew := h.few
  rcases h.own.2 with ⟨e, _⟩ | ⟨b, cap', cur, e, hbb, hgb, hnc, hcm, hcs, ht⟩
  · injection e with _ e2 _; omega
  cases e
  obtain ⟨b', e, hcs', -, -⟩ := own_at h.own (by omega)
  cases e
  obtain ⟨hx0, hx1, hx2, hx3⟩ := pe_cells w b 0 all hcs' m hm
  simp only [Nat.zero_add] at hx0 hx1 hx2 hx3
  rw [hy] at hx3
  have d2 : (code == 7) = false := by simp [hc]
  have hf3 := free_of_heap hgb (m * 4 + 3)
  have hbl := (Array.getElem?_eq_some_iff.1 hgb).1
  have a1 : IntKind.i64.wrap (m : Int) = m := IntWalk.i64_in _ (by omega)
  have a2 : IntKind.i64.wrap ((m : Int) + 1 - 1) = m := by rw [Int.add_sub_cancel]; exact a1
  have HM := hide hm
  have HGB := hide hgb
  have HREST := hide (And.intro hbb (And.intro hnc (And.intro hcm (And.intro hcs ht))))
  clear hx0 hx1 hx2
  clear h hcs' hc hm hy hgb hbb hcm hcs ht hnc
  have hmc : (m : Int) < all.length := by have := HM.out; omega
  go_enter Try.func50, Try.ntmps50
  go_wp2_with fail
  refine (ref20_Has_yes w m H.out HM.out).mono ?_
  rintro e w1 ⟨rfl, rfl⟩
  go_wp2_with fail
  go_ret
  obtain ⟨hbb, hnc, hcm, hcs, ht⟩ := HREST.out
  have c1 := Chg.setCell w1 ⟨b, m * 4 + 3, none⟩ (.int .i64 code)
  have hne : rp ≠ b := fun e => H.out.notr (by rw [e]; rfl)
  refine ⟨rfl, _, _, ⟨by rw [setCode_length]; exact c1.heap H.out.box hne, H.out.low, ⟨?_, .inr ⟨b, rcap, _, rfl, hbb, heap_setCell_same HGB.out _, by rw [setCode_length]; exact hnc, hcm, ?_, ?_⟩⟩, by rw [setCode_length]; exact hfew⟩, c1.mono (fun k _ e => .inr (by rw [e]; rfl)), fun k hk => .inl hk⟩
  · rw [flat_length pe_len]
  · simp [hcs]
  · rw [setCode_length, ← flat_code, ← ht, Array.toList_setIfInBounds, List.take_set]
end
end Go.Proofs.Ytjgcicpclojfgaa
