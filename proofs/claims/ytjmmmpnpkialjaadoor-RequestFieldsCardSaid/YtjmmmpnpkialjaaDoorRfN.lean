/- The document's reader: num, text. Conditions: the bytes read as said. -/
import Derived.Test.YtjmmmpnpkialjaaDoorCodeR
import Derived.Test.YtjmmmpnpkialjaaDoorReg
import Derived.Test.YtjmmmpnpkialjaaDoorSeqA
namespace Go.Proofs.YtjmmmpnpkialjaaDoor
open Go.RowKit
attribute [local go_sem] Oper.semAt_some

/-- The next number; the place; whether there were too few. -/
def numS (b : List UInt8) (at_ : Int) (bad : Bool) : Int × Int × Bool := if (rdNum b at_).2.2 = true ∧ bad = false then ((rdNum b at_).1, (rdNum b at_).2.1, false) else (0, at_, true)
def textS (b : List UInt8) (at_ : Int) (bad : Bool) : ByteArray × Int × Bool := if (rdText b at_).2.2 = true ∧ bad = false then ((rdText b at_).1, (rdText b at_).2.1, false) else (⟨#[]⟩, at_, true)
set_option maxHeartbeats 4000000 in
set_option maxRecDepth 100000 in
theorem reader_num (w : World) (p : Nat) (vb : Value) (b : List UInt8) (at_ : Int) (bad : Bool) (hb : Rd w vb b.length (u8s b)) (hm : b.length ≤ 140737488351232) (hp : w.heap[p]? = some (.cells #[vb, .int .i64 at_, .bool bad] 89 (0, 0))) :
    Calls Tryd.prog 57 #[.pointer (some ⟨p, 0, none⟩)] w fun e w' => e = .returned (Value.int .i64 (numS b at_ bad).1) ∧ w'.heap[p]? = some (.cells #[vb, .int .i64 (numS b at_ bad).2.1, .bool (numS b at_ bad).2.2] 89 (0, 0)) ∧ Chg (fun k => k = p) w w' := by
  obtain ⟨N, at2, ok, hrd⟩ : ∃ N at2 ok, rdNum b at_ = (N, at2, ok) := ⟨_, _, _, rfl⟩
  have HB := hide hb
  have HP := hide hp
  obtain ⟨ab, cb, rfl, -, -⟩ := hb.shape
  have hc := fun W (h : Chg (fun _ => False) w W) => ref_ReadNum W _ b at_ (HB.out.chg h (fun _ _ _ h => h)) hm
  rw [hrd] at hc
  have HC := hide hc
  obtain ⟨R, hR⟩ : ∃ R, R = numS b at_ bad := ⟨_, rfl⟩
  rw [← hR]
  have hR' : R = if ok = true ∧ bad = false then (N, at2, false) else (0, at_, true) := by rw [hR, numS, hrd]
  have HR := hide hR'
  have c0 := cell_of_heap hp 0
  have c1 := cell_of_heap hp 1
  have c2 := cell_of_heap hp 2
  simp at c0 c1 c2
  clear hb hp hc hrd hR hR'
  go_enter Tryd.func57, Tryd.ntmps57
  go_wp2_with fail
  refine reg_start (Chg (fun _ => False) w) 16 16 (by rfl) (by kernel_rfl) (Chg.drew _ _) ?_
  intro hS0
  have hSc := hS0
  refine reg_take (i := 0) (v := ?g2v) rfl (by kernel_rfl) (by kernel_rfl) (by kernel_rfl) (by kernel_rfl) (fun _ _ _ h => h) (by rfl) ?g2y (by assumption) ?g2r
  case g2y => (intro W hS; first | (go_simp; done) | (go_simp; with_reducible rfl))
  simp only [Act.put, List.setIfInBounds_toArray, List.set_cons_zero, List.set_cons_succ]
  refine reg_take (i := 1) (v := ?g3v) rfl (by kernel_rfl) (by kernel_rfl) (by kernel_rfl) (by kernel_rfl) (fun _ _ _ h => h) (by rfl) ?g3y (by assumption) ?g3r
  case g3y => (intro W hS; first | (go_simp; done) | (go_simp; with_reducible rfl))
  simp only [Act.put, List.setIfInBounds_toArray, List.set_cons_zero, List.set_cons_succ]
  refine reg_take (i := 2) (v := ?g4v) rfl (by kernel_rfl) (by kernel_rfl) (by kernel_rfl) (by kernel_rfl) (fun _ _ _ h => h) (by rfl) ?g4y (by assumption) ?g4r
  case g4y => (intro W hS; first | (go_simp; done) | (go_simp; with_reducible rfl))
  simp only [Act.put, List.setIfInBounds_toArray, List.set_cons_zero, List.set_cons_succ]
  refine reg_take (i := 3) (v := ?g5v) rfl (by kernel_rfl) (by kernel_rfl) (by kernel_rfl) (by kernel_rfl) (fun _ _ _ h => h) (by rfl) ?g5y (by assumption) ?g5r
  case g5y => (intro W hS; have f0 := hS.cell c0 (fun h => h); have f1 := hS.cell c1 (fun h => h); first | (go_simp; done) | (go_simp; with_reducible rfl))
  simp only [Act.put, List.setIfInBounds_toArray, List.set_cons_zero, List.set_cons_succ]
  refine reg_take (i := 4) (v := ?g6v) rfl (by kernel_rfl) (by kernel_rfl) (by kernel_rfl) (by kernel_rfl) (fun _ _ _ h => h) (by rfl) ?g6y (by assumption) ?g6r
  case g6y => (intro W hS; first | (go_simp; done) | (go_simp; with_reducible rfl))
  simp only [Act.put, List.setIfInBounds_toArray, List.set_cons_zero, List.set_cons_succ]
  refine reg_take (i := 5) (v := ?g7v) rfl (by kernel_rfl) (by kernel_rfl) (by kernel_rfl) (by kernel_rfl) (fun _ _ _ h => h) (by rfl) ?g7y (by assumption) ?g7r
  case g7y => (intro W hS; first | (go_simp; done) | (go_simp; with_reducible rfl))
  simp only [Act.put, List.setIfInBounds_toArray, List.set_cons_zero, List.set_cons_succ]
  refine reg_take (i := 6) (v := ?g8v) rfl (by kernel_rfl) (by kernel_rfl) (by kernel_rfl) (by kernel_rfl) (fun _ _ _ h => h) (by rfl) ?g8y (by assumption) ?g8r
  case g8y => (intro W hS; first | (go_simp; done) | (go_simp; with_reducible rfl))
  simp only [Act.put, List.setIfInBounds_toArray, List.set_cons_zero, List.set_cons_succ]
  refine reg_take (i := 7) (v := ?g9v) rfl (by kernel_rfl) (by kernel_rfl) (by kernel_rfl) (by kernel_rfl) (fun _ _ _ h => h) (by rfl) ?g9y (by assumption) ?g9r
  case g9y => (intro W hS; have f0 := hS.cell c0 (fun h => h); have f1 := hS.cell c1 (fun h => h); first | (go_simp; done) | (go_simp; with_reducible rfl))
  simp only [Act.put, List.setIfInBounds_toArray, List.set_cons_zero, List.set_cons_succ]
  refine reg_one (i := 8) (by kernel_rfl) ?_
  refine op_call (i := 8) (#[.slice ab b.length cb, .int .i64 at_]) rfl (by rfl) (enters_of Tryd.func79 (by kernel_rfl) rfl) (by first | (simp [Act.eval]; done) | rfl | (simp only [List.map_toArray, List.map_cons, List.map_nil, Act.eval]; rfl) | (simp [Act.eval]; trace_state; done)) ?_
  refine (HC.out _ hSc).mono ?_
  rintro e W1 ⟨rfl, rfl⟩
  refine ⟨_, rfl, hSc, ?_⟩
  simp only [Act.put, List.setIfInBounds_toArray, List.set_cons_zero, List.set_cons_succ]
  refine reg_take (i := 9) (v := ?g10v) rfl (by kernel_rfl) (by kernel_rfl) (by kernel_rfl) (by kernel_rfl) (fun _ _ _ h => h) (by rfl) ?g10y (by assumption) ?g10r
  case g10y => (intro W hS; first | (go_simp; done) | (go_simp; with_reducible rfl))
  simp only [Act.put, List.setIfInBounds_toArray, List.set_cons_zero, List.set_cons_succ]
  refine reg_take (i := 10) (v := ?g11v) rfl (by kernel_rfl) (by kernel_rfl) (by kernel_rfl) (by kernel_rfl) (fun _ _ _ h => h) (by rfl) ?g11y (by assumption) ?g11r
  case g11y => (intro W hS; first | (go_simp; done) | (go_simp; with_reducible rfl))
  simp only [Act.put, List.setIfInBounds_toArray, List.set_cons_zero, List.set_cons_succ]
  refine reg_take (i := 11) (v := ?g12v) rfl (by kernel_rfl) (by kernel_rfl) (by kernel_rfl) (by kernel_rfl) (fun _ _ _ h => h) (by rfl) ?g12y (by assumption) ?g12r
  case g12y => (intro W hS; first | (go_simp; done) | (go_simp; with_reducible rfl))
  simp only [Act.put, List.setIfInBounds_toArray, List.set_cons_zero, List.set_cons_succ]
  refine reg_take (i := 12) (v := ?g13v) rfl (by kernel_rfl) (by kernel_rfl) (by kernel_rfl) (by kernel_rfl) (fun _ _ _ h => h) (by rfl) ?g13y (by assumption) ?g13r
  case g13y => (intro W hS; first | (go_simp; done) | (go_simp; with_reducible rfl))
  simp only [Act.put, List.setIfInBounds_toArray, List.set_cons_zero, List.set_cons_succ]
  refine reg_take (i := 13) (v := ?g14v) rfl (by kernel_rfl) (by kernel_rfl) (by kernel_rfl) (by kernel_rfl) (fun _ _ _ h => h) (by rfl) ?g14y (by assumption) ?g14r
  case g14y => (intro W hS; first | (go_simp; done) | (go_simp; with_reducible rfl))
  simp only [Act.put, List.setIfInBounds_toArray, List.set_cons_zero, List.set_cons_succ]
  refine reg_take (i := 14) (v := ?g15v) rfl (by kernel_rfl) (by kernel_rfl) (by kernel_rfl) (by kernel_rfl) (fun _ _ _ h => h) (by rfl) ?g15y (by assumption) ?g15r
  case g15y => (intro W hS; first | (go_simp; done) | (go_simp; with_reducible rfl))
  simp only [Act.put, List.setIfInBounds_toArray, List.set_cons_zero, List.set_cons_succ]
  refine reg_take (i := 15) (v := ?g16v) rfl (by kernel_rfl) (by kernel_rfl) (by kernel_rfl) (by kernel_rfl) (fun _ _ _ h => h) (by rfl) ?g16y (by assumption) ?g16r
  case g16y => (intro W hS; first | (go_simp; done) | (go_simp; with_reducible rfl))
  simp only [Act.put, List.setIfInBounds_toArray, List.set_cons_zero, List.set_cons_succ]
  refine wpAnyG_done (by kernel_rfl) ?_ _
  have HP2 := hide (hSc.heap HP.out (fun h => h))
  have HS := hide hSc
  clear hS0 hSc c0 c1 c2 HC HP
  generalize w.drew = w1 at HP2 HS ⊢
  have g0 := cell_of_heap HP2.out 0
  have g1 := cell_of_heap HP2.out 1
  have g2 := cell_of_heap HP2.out 2
  have f1 := free_of_heap HP2.out 1
  have f2 := free_of_heap HP2.out 2
  simp at g0 g1 g2 f1 f2
  cases ok with
  | false =>
    have hr : R = (0, at_, true) := by rw [HR.out, if_neg (by simp)]
    subst hr
    go_wp2_with fail
    go_ret
    exact ⟨rfl, heap_setCell_same HP2.out (i := 2) (.bool true), HS.out.trans (Chg.setCell w1 ⟨p, 2, none⟩ _) (fun _ _ h => h.elim) (fun _ _ h => h)⟩
  | true =>
    cases bad with
    | true =>
      have hr : R = (0, at_, true) := by rw [HR.out, if_neg (by simp)]
      subst hr
      go_wp2_with fail
      go_ret
      exact ⟨rfl, heap_setCell_same HP2.out (i := 2) (.bool true), HS.out.trans (Chg.setCell w1 ⟨p, 2, none⟩ _) (fun _ _ h => h.elim) (fun _ _ h => h)⟩
    | false =>
      have hr : R = (N, at2, false) := by rw [HR.out, if_pos ⟨rfl, rfl⟩]
      subst hr
      go_wp2_with fail
      go_ret
      exact ⟨rfl, heap_setCell_same HP2.out (i := 1) (.int .i64 at2), HS.out.trans (Chg.setCell w1 ⟨p, 1, none⟩ _) (fun _ _ h => h.elim) (fun _ _ h => h)⟩
set_option maxHeartbeats 4000000 in
set_option maxRecDepth 100000 in
theorem reader_text (w : World) (p : Nat) (vb : Value) (b : List UInt8) (at_ : Int) (bad : Bool) (hb : Rd w vb b.length (u8s b)) (hm : b.length ≤ 140737488351232) (hp : w.heap[p]? = some (.cells #[vb, .int .i64 at_, .bool bad] 89 (0, 0))) :
    Calls Tryd.prog 58 #[.pointer (some ⟨p, 0, none⟩)] w fun e w' => e = .returned (Value.string (textS b at_ bad).1) ∧ w'.heap[p]? = some (.cells #[vb, .int .i64 (textS b at_ bad).2.1, .bool (textS b at_ bad).2.2] 89 (0, 0)) ∧ Chg (fun k => k = p) w w' := by
  obtain ⟨N, at2, ok, hrd⟩ : ∃ N at2 ok, rdText b at_ = (N, at2, ok) := ⟨_, _, _, rfl⟩
  have HB := hide hb
  have HP := hide hp
  obtain ⟨ab, cb, rfl, -, -⟩ := hb.shape
  have hc := fun W (h : Chg (fun _ => False) w W) => ref_ReadText W _ b at_ (HB.out.chg h (fun _ _ _ h => h)) hm
  rw [hrd] at hc
  have HC := hide hc
  obtain ⟨R, hR⟩ : ∃ R, R = textS b at_ bad := ⟨_, rfl⟩
  rw [← hR]
  have hR' : R = if ok = true ∧ bad = false then (N, at2, false) else (⟨#[]⟩, at_, true) := by rw [hR, textS, hrd]
  have HR := hide hR'
  have c0 := cell_of_heap hp 0
  have c1 := cell_of_heap hp 1
  have c2 := cell_of_heap hp 2
  simp at c0 c1 c2
  clear hb hp hc hrd hR hR'
  go_enter Tryd.func58, Tryd.ntmps58
  go_wp2_with fail
  refine reg_start (Chg (fun _ => False) w) 16 16 (by rfl) (by kernel_rfl) (Chg.drew _ _) ?_
  intro hS0
  have hSc := hS0
  refine reg_take (i := 0) (v := ?g18v) rfl (by kernel_rfl) (by kernel_rfl) (by kernel_rfl) (by kernel_rfl) (fun _ _ _ h => h) (by rfl) ?g18y (by assumption) ?g18r
  case g18y => (intro W hS; first | (go_simp; done) | (go_simp; with_reducible rfl))
  simp only [Act.put, List.setIfInBounds_toArray, List.set_cons_zero, List.set_cons_succ]
  refine reg_take (i := 1) (v := ?g19v) rfl (by kernel_rfl) (by kernel_rfl) (by kernel_rfl) (by kernel_rfl) (fun _ _ _ h => h) (by rfl) ?g19y (by assumption) ?g19r
  case g19y => (intro W hS; first | (go_simp; done) | (go_simp; with_reducible rfl))
  simp only [Act.put, List.setIfInBounds_toArray, List.set_cons_zero, List.set_cons_succ]
  refine reg_take (i := 2) (v := ?g20v) rfl (by kernel_rfl) (by kernel_rfl) (by kernel_rfl) (by kernel_rfl) (fun _ _ _ h => h) (by rfl) ?g20y (by assumption) ?g20r
  case g20y => (intro W hS; first | (go_simp; done) | (go_simp; with_reducible rfl))
  simp only [Act.put, List.setIfInBounds_toArray, List.set_cons_zero, List.set_cons_succ]
  refine reg_take (i := 3) (v := ?g21v) rfl (by kernel_rfl) (by kernel_rfl) (by kernel_rfl) (by kernel_rfl) (fun _ _ _ h => h) (by rfl) ?g21y (by assumption) ?g21r
  case g21y => (intro W hS; have f0 := hS.cell c0 (fun h => h); have f1 := hS.cell c1 (fun h => h); first | (go_simp; done) | (go_simp; with_reducible rfl))
  simp only [Act.put, List.setIfInBounds_toArray, List.set_cons_zero, List.set_cons_succ]
  refine reg_take (i := 4) (v := ?g22v) rfl (by kernel_rfl) (by kernel_rfl) (by kernel_rfl) (by kernel_rfl) (fun _ _ _ h => h) (by rfl) ?g22y (by assumption) ?g22r
  case g22y => (intro W hS; first | (go_simp; done) | (go_simp; with_reducible rfl))
  simp only [Act.put, List.setIfInBounds_toArray, List.set_cons_zero, List.set_cons_succ]
  refine reg_take (i := 5) (v := ?g23v) rfl (by kernel_rfl) (by kernel_rfl) (by kernel_rfl) (by kernel_rfl) (fun _ _ _ h => h) (by rfl) ?g23y (by assumption) ?g23r
  case g23y => (intro W hS; first | (go_simp; done) | (go_simp; with_reducible rfl))
  simp only [Act.put, List.setIfInBounds_toArray, List.set_cons_zero, List.set_cons_succ]
  refine reg_take (i := 6) (v := ?g24v) rfl (by kernel_rfl) (by kernel_rfl) (by kernel_rfl) (by kernel_rfl) (fun _ _ _ h => h) (by rfl) ?g24y (by assumption) ?g24r
  case g24y => (intro W hS; first | (go_simp; done) | (go_simp; with_reducible rfl))
  simp only [Act.put, List.setIfInBounds_toArray, List.set_cons_zero, List.set_cons_succ]
  refine reg_take (i := 7) (v := ?g25v) rfl (by kernel_rfl) (by kernel_rfl) (by kernel_rfl) (by kernel_rfl) (fun _ _ _ h => h) (by rfl) ?g25y (by assumption) ?g25r
  case g25y => (intro W hS; have f0 := hS.cell c0 (fun h => h); have f1 := hS.cell c1 (fun h => h); first | (go_simp; done) | (go_simp; with_reducible rfl))
  simp only [Act.put, List.setIfInBounds_toArray, List.set_cons_zero, List.set_cons_succ]
  refine reg_one (i := 8) (by kernel_rfl) ?_
  refine op_call (i := 8) (#[.slice ab b.length cb, .int .i64 at_]) rfl (by rfl) (enters_of Tryd.func80 (by kernel_rfl) rfl) (by first | (simp [Act.eval]; done) | rfl | (simp only [List.map_toArray, List.map_cons, List.map_nil, Act.eval]; rfl) | (simp [Act.eval]; trace_state; done)) ?_
  refine (HC.out _ hSc).mono ?_
  rintro e W1 ⟨rfl, rfl⟩
  refine ⟨_, rfl, hSc, ?_⟩
  simp only [Act.put, List.setIfInBounds_toArray, List.set_cons_zero, List.set_cons_succ]
  refine reg_take (i := 9) (v := ?g26v) rfl (by kernel_rfl) (by kernel_rfl) (by kernel_rfl) (by kernel_rfl) (fun _ _ _ h => h) (by rfl) ?g26y (by assumption) ?g26r
  case g26y => (intro W hS; first | (go_simp; done) | (go_simp; with_reducible rfl))
  simp only [Act.put, List.setIfInBounds_toArray, List.set_cons_zero, List.set_cons_succ]
  refine reg_take (i := 10) (v := ?g27v) rfl (by kernel_rfl) (by kernel_rfl) (by kernel_rfl) (by kernel_rfl) (fun _ _ _ h => h) (by rfl) ?g27y (by assumption) ?g27r
  case g27y => (intro W hS; first | (go_simp; done) | (go_simp; with_reducible rfl))
  simp only [Act.put, List.setIfInBounds_toArray, List.set_cons_zero, List.set_cons_succ]
  refine reg_take (i := 11) (v := ?g28v) rfl (by kernel_rfl) (by kernel_rfl) (by kernel_rfl) (by kernel_rfl) (fun _ _ _ h => h) (by rfl) ?g28y (by assumption) ?g28r
  case g28y => (intro W hS; first | (go_simp; done) | (go_simp; with_reducible rfl))
  simp only [Act.put, List.setIfInBounds_toArray, List.set_cons_zero, List.set_cons_succ]
  refine reg_take (i := 12) (v := ?g29v) rfl (by kernel_rfl) (by kernel_rfl) (by kernel_rfl) (by kernel_rfl) (fun _ _ _ h => h) (by rfl) ?g29y (by assumption) ?g29r
  case g29y => (intro W hS; first | (go_simp; done) | (go_simp; with_reducible rfl))
  simp only [Act.put, List.setIfInBounds_toArray, List.set_cons_zero, List.set_cons_succ]
  refine reg_take (i := 13) (v := ?g30v) rfl (by kernel_rfl) (by kernel_rfl) (by kernel_rfl) (by kernel_rfl) (fun _ _ _ h => h) (by rfl) ?g30y (by assumption) ?g30r
  case g30y => (intro W hS; first | (go_simp; done) | (go_simp; with_reducible rfl))
  simp only [Act.put, List.setIfInBounds_toArray, List.set_cons_zero, List.set_cons_succ]
  refine reg_take (i := 14) (v := ?g31v) rfl (by kernel_rfl) (by kernel_rfl) (by kernel_rfl) (by kernel_rfl) (fun _ _ _ h => h) (by rfl) ?g31y (by assumption) ?g31r
  case g31y => (intro W hS; first | (go_simp; done) | (go_simp; with_reducible rfl))
  simp only [Act.put, List.setIfInBounds_toArray, List.set_cons_zero, List.set_cons_succ]
  refine reg_take (i := 15) (v := ?g32v) rfl (by kernel_rfl) (by kernel_rfl) (by kernel_rfl) (by kernel_rfl) (fun _ _ _ h => h) (by rfl) ?g32y (by assumption) ?g32r
  case g32y => (intro W hS; first | (go_simp; done) | (go_simp; with_reducible rfl))
  simp only [Act.put, List.setIfInBounds_toArray, List.set_cons_zero, List.set_cons_succ]
  refine wpAnyG_done (by kernel_rfl) ?_ _
  have HP2 := hide (hSc.heap HP.out (fun h => h))
  have HS := hide hSc
  clear hS0 hSc c0 c1 c2 HC HP
  generalize w.drew = w1 at HP2 HS ⊢
  have g0 := cell_of_heap HP2.out 0
  have g1 := cell_of_heap HP2.out 1
  have g2 := cell_of_heap HP2.out 2
  have f1 := free_of_heap HP2.out 1
  have f2 := free_of_heap HP2.out 2
  simp at g0 g1 g2 f1 f2
  cases ok with
  | false =>
    have hr : R = (⟨#[]⟩, at_, true) := by rw [HR.out, if_neg (by simp)]
    subst hr
    go_wp2_with fail
    go_ret
    exact ⟨rfl, heap_setCell_same HP2.out (i := 2) (.bool true), HS.out.trans (Chg.setCell w1 ⟨p, 2, none⟩ _) (fun _ _ h => h.elim) (fun _ _ h => h)⟩
  | true =>
    cases bad with
    | true =>
      have hr : R = (⟨#[]⟩, at_, true) := by rw [HR.out, if_neg (by simp)]
      subst hr
      go_wp2_with fail
      go_ret
      exact ⟨rfl, heap_setCell_same HP2.out (i := 2) (.bool true), HS.out.trans (Chg.setCell w1 ⟨p, 2, none⟩ _) (fun _ _ h => h.elim) (fun _ _ h => h)⟩
    | false =>
      have hr : R = (N, at2, false) := by rw [HR.out, if_pos ⟨rfl, rfl⟩]
      subst hr
      go_wp2_with fail
      go_ret
      exact ⟨rfl, heap_setCell_same HP2.out (i := 1) (.int .i64 at2), HS.out.trans (Chg.setCell w1 ⟨p, 1, none⟩ _) (fun _ _ h => h.elim) (fun _ _ h => h)⟩
end Go.Proofs.YtjmmmpnpkialjaaDoor
