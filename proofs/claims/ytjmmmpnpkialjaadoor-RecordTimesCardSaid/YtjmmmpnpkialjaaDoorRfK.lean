/- The document's reader: num, text. What the document reads of bytes, before it lays it again. No program is named. Conditions: the bytes read as said. -/
import Derived.Test.YtjmmmpnpkialjaaDoorCodeR
import Derived.Test.YtjmmmpnpkialjaaDoorReg
import Derived.Test.YtjmmmpnpkialjaaDoorSeqA
import Derived.Test.YtjmmmpnpkialjaaDoorRqM
namespace Go.Proofs.YtjmmmpnpkialjaaDoor
open Go.RowKit
attribute [local go_sem] Oper.semAt_some

/-- The next number; the place; whether there were too few. -/
def numS (b : List UInt8) (at_ : Int) (bad : Bool) : Int × Int × Bool := if (rdNum b at_).2.2 = true ∧ bad = false then ((rdNum b at_).1, (rdNum b at_).2.1, false) else (0, at_, true)
def textS (b : List UInt8) (at_ : Int) (bad : Bool) : ByteArray × Int × Bool := if (rdText b at_).2.2 = true ∧ bad = false then ((rdText b at_).1, (rdText b at_).2.1, false) else (⟨#[]⟩, at_, true)
set_option maxHeartbeats 4000000 in
set_option maxRecDepth 100000 in
theorem reader_num (w : World) (p : Nat) (vb : Value) (b : List UInt8) (at_ : Int) (bad : Bool) (hb : Rd w vb b.length (u8s b)) (hm : b.length ≤ 140737488351232) (hp : w.heap[p]? = some (.cells #[vb, .int .i64 at_, .bool bad] 89 (0, 0))) :
    Calls Tryd.prog 57 #[.pointer (some ⟨p, 0, none⟩)] w fun e w' => e = .returned (Value.int .i64 (numS b at_ bad).1) ∧ w'.heap[p]? = some (.cells #[vb, .int .i64 (numS b at_ bad).2.1, .bool (numS b at_ bad).2.2] 89 (0, 0)) ∧ Chg (fun k => k = p) w w' := by
  obtain ⟨N, at2, ok, hrd⟩ : ∃ N at2 ok, rdNum b at_ = (N, at2, ok) := ⟨_, _, _, rfl⟩
  have HB := hide hb
  have HP := hide hp
  obtain ⟨ab, cb, rfl, -, -⟩ := hb.shape
  have hc := fun W (h : Chg (fun _ => False) w W) => ref_ReadNum W _ b at_ (HB.out.chg h (fun _ _ _ h => h)) hm
  rw [hrd] at hc
  have HC := hide hc
  obtain ⟨R, hR⟩ : ∃ R, R = numS b at_ bad := ⟨_, rfl⟩
  rw [← hR]
  have hR' : R = if ok = true ∧ bad = false then (N, at2, false) else (0, at_, true) := by rw [hR, numS, hrd]
  have HR := hide hR'
  have c0 := cell_of_heap hp 0
  have c1 := cell_of_heap hp 1
  have c2 := cell_of_heap hp 2
  simp at c0 c1 c2
  clear hb hp hc hrd hR hR'
  go_enter Tryd.func57, Tryd.ntmps57
  go_wp2_with fail
  refine reg_start (Chg (fun _ => False) w) 16 16 (by rfl) (by kernel_rfl) (Chg.drew _ _) ?_
  intro hS0
  have hSc := hS0
  refine reg_take (i := 0) (v := ?g2v) rfl (by kernel_rfl) (by kernel_rfl) (by kernel_rfl) (by kernel_rfl) (fun _ _ _ h => h) (by rfl) ?g2y (by assumption) ?g2r
  case g2y => (intro W hS; first | (go_simp; done) | (go_simp; with_reducible rfl))
  simp only [Act.put, List.setIfInBounds_toArray, List.set_cons_zero, List.set_cons_succ]
  refine reg_take (i := 1) (v := ?g3v) rfl (by kernel_rfl) (by kernel_rfl) (by kernel_rfl) (by kernel_rfl) (fun _ _ _ h => h) (by rfl) ?g3y (by assumption) ?g3r
  case g3y => (intro W hS; first | (go_simp; done) | (go_simp; with_reducible rfl))
  simp only [Act.put, List.setIfInBounds_toArray, List.set_cons_zero, List.set_cons_succ]
  refine reg_take (i := 2) (v := ?g4v) rfl (by kernel_rfl) (by kernel_rfl) (by kernel_rfl) (by kernel_rfl) (fun _ _ _ h => h) (by rfl) ?g4y (by assumption) ?g4r
  case g4y => (intro W hS; first | (go_simp; done) | (go_simp; with_reducible rfl))
  simp only [Act.put, List.setIfInBounds_toArray, List.set_cons_zero, List.set_cons_succ]
  refine reg_take (i := 3) (v := ?g5v) rfl (by kernel_rfl) (by kernel_rfl) (by kernel_rfl) (by kernel_rfl) (fun _ _ _ h => h) (by rfl) ?g5y (by assumption) ?g5r
  case g5y => (intro W hS; have f0 := hS.cell c0 (fun h => h); have f1 := hS.cell c1 (fun h => h); first | (go_simp; done) | (go_simp; with_reducible rfl))
  simp only [Act.put, List.setIfInBounds_toArray, List.set_cons_zero, List.set_cons_succ]
  refine reg_take (i := 4) (v := ?g6v) rfl (by kernel_rfl) (by kernel_rfl) (by kernel_rfl) (by kernel_rfl) (fun _ _ _ h => h) (by rfl) ?g6y (by assumption) ?g6r
  case g6y => (intro W hS; first | (go_simp; done) | (go_simp; with_reducible rfl))
  simp only [Act.put, List.setIfInBounds_toArray, List.set_cons_zero, List.set_cons_succ]
  refine reg_take (i := 5) (v := ?g7v) rfl (by kernel_rfl) (by kernel_rfl) (by kernel_rfl) (by kernel_rfl) (fun _ _ _ h => h) (by rfl) ?g7y (by assumption) ?g7r
  case g7y => (intro W hS; first | (go_simp; done) | (go_simp; with_reducible rfl))
  simp only [Act.put, List.setIfInBounds_toArray, List.set_cons_zero, List.set_cons_succ]
  refine reg_take (i := 6) (v := ?g8v) rfl (by kernel_rfl) (by kernel_rfl) (by kernel_rfl) (by kernel_rfl) (fun _ _ _ h => h) (by rfl) ?g8y (by assumption) ?g8r
  case g8y => (intro W hS; first | (go_simp; done) | (go_simp; with_reducible rfl))
  simp only [Act.put, List.setIfInBounds_toArray, List.set_cons_zero, List.set_cons_succ]
  refine reg_take (i := 7) (v := ?g9v) rfl (by kernel_rfl) (by kernel_rfl) (by kernel_rfl) (by kernel_rfl) (fun _ _ _ h => h) (by rfl) ?g9y (by assumption) ?g9r
  case g9y => (intro W hS; have f0 := hS.cell c0 (fun h => h); have f1 := hS.cell c1 (fun h => h); first | (go_simp; done) | (go_simp; with_reducible rfl))
  simp only [Act.put, List.setIfInBounds_toArray, List.set_cons_zero, List.set_cons_succ]
  refine reg_one (i := 8) (by kernel_rfl) ?_
  refine op_call (i := 8) (#[.slice ab b.length cb, .int .i64 at_]) rfl (by rfl) (enters_of Tryd.func79 (by kernel_rfl) rfl) (by first | (simp [Act.eval]; done) | rfl | (simp only [List.map_toArray, List.map_cons, List.map_nil, Act.eval]; rfl) | (simp [Act.eval]; trace_state; done)) ?_
  refine (HC.out _ hSc).mono ?_
  rintro e W1 ⟨rfl, rfl⟩
  refine ⟨_, rfl, hSc, ?_⟩
  simp only [Act.put, List.setIfInBounds_toArray, List.set_cons_zero, List.set_cons_succ]
  refine reg_take (i := 9) (v := ?g10v) rfl (by kernel_rfl) (by kernel_rfl) (by kernel_rfl) (by kernel_rfl) (fun _ _ _ h => h) (by rfl) ?g10y (by assumption) ?g10r
  case g10y => (intro W hS; first | (go_simp; done) | (go_simp; with_reducible rfl))
  simp only [Act.put, List.setIfInBounds_toArray, List.set_cons_zero, List.set_cons_succ]
  refine reg_take (i := 10) (v := ?g11v) rfl (by kernel_rfl) (by kernel_rfl) (by kernel_rfl) (by kernel_rfl) (fun _ _ _ h => h) (by rfl) ?g11y (by assumption) ?g11r
  case g11y => (intro W hS; first | (go_simp; done) | (go_simp; with_reducible rfl))
  simp only [Act.put, List.setIfInBounds_toArray, List.set_cons_zero, List.set_cons_succ]
  refine reg_take (i := 11) (v := ?g12v) rfl (by kernel_rfl) (by kernel_rfl) (by kernel_rfl) (by kernel_rfl) (fun _ _ _ h => h) (by rfl) ?g12y (by assumption) ?g12r
  case g12y => (intro W hS; first | (go_simp; done) | (go_simp; with_reducible rfl))
  simp only [Act.put, List.setIfInBounds_toArray, List.set_cons_zero, List.set_cons_succ]
  refine reg_take (i := 12) (v := ?g13v) rfl (by kernel_rfl) (by kernel_rfl) (by kernel_rfl) (by kernel_rfl) (fun _ _ _ h => h) (by rfl) ?g13y (by assumption) ?g13r
  case g13y => (intro W hS; first | (go_simp; done) | (go_simp; with_reducible rfl))
  simp only [Act.put, List.setIfInBounds_toArray, List.set_cons_zero, List.set_cons_succ]
  refine reg_take (i := 13) (v := ?g14v) rfl (by kernel_rfl) (by kernel_rfl) (by kernel_rfl) (by kernel_rfl) (fun _ _ _ h => h) (by rfl) ?g14y (by assumption) ?g14r
  case g14y => (intro W hS; first | (go_simp; done) | (go_simp; with_reducible rfl))
  simp only [Act.put, List.setIfInBounds_toArray, List.set_cons_zero, List.set_cons_succ]
  refine reg_take (i := 14) (v := ?g15v) rfl (by kernel_rfl) (by kernel_rfl) (by kernel_rfl) (by kernel_rfl) (fun _ _ _ h => h) (by rfl) ?g15y (by assumption) ?g15r
  case g15y => (intro W hS; first | (go_simp; done) | (go_simp; with_reducible rfl))
  simp only [Act.put, List.setIfInBounds_toArray, List.set_cons_zero, List.set_cons_succ]
  refine reg_take (i := 15) (v := ?g16v) rfl (by kernel_rfl) (by kernel_rfl) (by kernel_rfl) (by kernel_rfl) (fun _ _ _ h => h) (by rfl) ?g16y (by assumption) ?g16r
  case g16y => (intro W hS; first | (go_simp; done) | (go_simp; with_reducible rfl))
  simp only [Act.put, List.setIfInBounds_toArray, List.set_cons_zero, List.set_cons_succ]
  refine wpAnyG_done (by kernel_rfl) ?_ _
  have HP2 := hide (hSc.heap HP.out (fun h => h))
  have HS := hide hSc
  clear hS0 hSc c0 c1 c2 HC HP
  generalize w.drew = w1 at HP2 HS ⊢
  have g0 := cell_of_heap HP2.out 0
  have g1 := cell_of_heap HP2.out 1
  have g2 := cell_of_heap HP2.out 2
  have f1 := free_of_heap HP2.out 1
  have f2 := free_of_heap HP2.out 2
  simp at g0 g1 g2 f1 f2
  cases ok with
  | false =>
    have hr : R = (0, at_, true) := by rw [HR.out, if_neg (by simp)]
    subst hr
    go_wp2_with fail
    go_ret
    exact ⟨rfl, heap_setCell_same HP2.out (i := 2) (.bool true), HS.out.trans (Chg.setCell w1 ⟨p, 2, none⟩ _) (fun _ _ h => h.elim) (fun _ _ h => h)⟩
  | true =>
    cases bad with
    | true =>
      have hr : R = (0, at_, true) := by rw [HR.out, if_neg (by simp)]
      subst hr
      go_wp2_with fail
      go_ret
      exact ⟨rfl, heap_setCell_same HP2.out (i := 2) (.bool true), HS.out.trans (Chg.setCell w1 ⟨p, 2, none⟩ _) (fun _ _ h => h.elim) (fun _ _ h => h)⟩
    | false =>
      have hr : R = (N, at2, false) := by rw [HR.out, if_pos ⟨rfl, rfl⟩]
      subst hr
      go_wp2_with fail
      go_ret
      exact ⟨rfl, heap_setCell_same HP2.out (i := 1) (.int .i64 at2), HS.out.trans (Chg.setCell w1 ⟨p, 1, none⟩ _) (fun _ _ h => h.elim) (fun _ _ h => h)⟩
set_option maxHeartbeats 4000000 in
set_option maxRecDepth 100000 in
theorem reader_text (w : World) (p : Nat) (vb : Value) (b : List UInt8) (at_ : Int) (bad : Bool) (hb : Rd w vb b.length (u8s b)) (hm : b.length ≤ 140737488351232) (hp : w.heap[p]? = some (.cells #[vb, .int .i64 at_, .bool bad] 89 (0, 0))) :
    Calls Tryd.prog 58 #[.pointer (some ⟨p, 0, none⟩)] w fun e w' => e = .returned (Value.string (textS b at_ bad).1) ∧ w'.heap[p]? = some (.cells #[vb, .int .i64 (textS b at_ bad).2.1, .bool (textS b at_ bad).2.2] 89 (0, 0)) ∧ Chg (fun k => k = p) w w' := by
  obtain ⟨N, at2, ok, hrd⟩ : ∃ N at2 ok, rdText b at_ = (N, at2, ok) := ⟨_, _, _, rfl⟩
  have HB := hide hb
  have HP := hide hp
  obtain ⟨ab, cb, rfl, -, -⟩ := hb.shape
  have hc := fun W (h : Chg (fun _ => False) w W) => ref_ReadText W _ b at_ (HB.out.chg h (fun _ _ _ h => h)) hm
  rw [hrd] at hc
  have HC := hide hc
  obtain ⟨R, hR⟩ : ∃ R, R = textS b at_ bad := ⟨_, rfl⟩
  rw [← hR]
  have hR' : R = if ok = true ∧ bad = false then (N, at2, false) else (⟨#[]⟩, at_, true) := by rw [hR, textS, hrd]
  have HR := hide hR'
  have c0 := cell_of_heap hp 0
  have c1 := cell_of_heap hp 1
  have c2 := cell_of_heap hp 2
  simp at c0 c1 c2
  clear hb hp hc hrd hR hR'
  go_enter Tryd.func58, Tryd.ntmps58
  go_wp2_with fail
  refine reg_start (Chg (fun _ => False) w) 16 16 (by rfl) (by kernel_rfl) (Chg.drew _ _) ?_
  intro hS0
  have hSc := hS0
  refine reg_take (i := 0) (v := ?g18v) rfl (by kernel_rfl) (by kernel_rfl) (by kernel_rfl) (by kernel_rfl) (fun _ _ _ h => h) (by rfl) ?g18y (by assumption) ?g18r
  case g18y => (intro W hS; first | (go_simp; done) | (go_simp; with_reducible rfl))
  simp only [Act.put, List.setIfInBounds_toArray, List.set_cons_zero, List.set_cons_succ]
  refine reg_take (i := 1) (v := ?g19v) rfl (by kernel_rfl) (by kernel_rfl) (by kernel_rfl) (by kernel_rfl) (fun _ _ _ h => h) (by rfl) ?g19y (by assumption) ?g19r
  case g19y => (intro W hS; first | (go_simp; done) | (go_simp; with_reducible rfl))
  simp only [Act.put, List.setIfInBounds_toArray, List.set_cons_zero, List.set_cons_succ]
  refine reg_take (i := 2) (v := ?g20v) rfl (by kernel_rfl) (by kernel_rfl) (by kernel_rfl) (by kernel_rfl) (fun _ _ _ h => h) (by rfl) ?g20y (by assumption) ?g20r
  case g20y => (intro W hS; first | (go_simp; done) | (go_simp; with_reducible rfl))
  simp only [Act.put, List.setIfInBounds_toArray, List.set_cons_zero, List.set_cons_succ]
  refine reg_take (i := 3) (v := ?g21v) rfl (by kernel_rfl) (by kernel_rfl) (by kernel_rfl) (by kernel_rfl) (fun _ _ _ h => h) (by rfl) ?g21y (by assumption) ?g21r
  case g21y => (intro W hS; have f0 := hS.cell c0 (fun h => h); have f1 := hS.cell c1 (fun h => h); first | (go_simp; done) | (go_simp; with_reducible rfl))
  simp only [Act.put, List.setIfInBounds_toArray, List.set_cons_zero, List.set_cons_succ]
  refine reg_take (i := 4) (v := ?g22v) rfl (by kernel_rfl) (by kernel_rfl) (by kernel_rfl) (by kernel_rfl) (fun _ _ _ h => h) (by rfl) ?g22y (by assumption) ?g22r
  case g22y => (intro W hS; first | (go_simp; done) | (go_simp; with_reducible rfl))
  simp only [Act.put, List.setIfInBounds_toArray, List.set_cons_zero, List.set_cons_succ]
  refine reg_take (i := 5) (v := ?g23v) rfl (by kernel_rfl) (by kernel_rfl) (by kernel_rfl) (by kernel_rfl) (fun _ _ _ h => h) (by rfl) ?g23y (by assumption) ?g23r
  case g23y => (intro W hS; first | (go_simp; done) | (go_simp; with_reducible rfl))
  simp only [Act.put, List.setIfInBounds_toArray, List.set_cons_zero, List.set_cons_succ]
  refine reg_take (i := 6) (v := ?g24v) rfl (by kernel_rfl) (by kernel_rfl) (by kernel_rfl) (by kernel_rfl) (fun _ _ _ h => h) (by rfl) ?g24y (by assumption) ?g24r
  case g24y => (intro W hS; first | (go_simp; done) | (go_simp; with_reducible rfl))
  simp only [Act.put, List.setIfInBounds_toArray, List.set_cons_zero, List.set_cons_succ]
  refine reg_take (i := 7) (v := ?g25v) rfl (by kernel_rfl) (by kernel_rfl) (by kernel_rfl) (by kernel_rfl) (fun _ _ _ h => h) (by rfl) ?g25y (by assumption) ?g25r
  case g25y => (intro W hS; have f0 := hS.cell c0 (fun h => h); have f1 := hS.cell c1 (fun h => h); first | (go_simp; done) | (go_simp; with_reducible rfl))
  simp only [Act.put, List.setIfInBounds_toArray, List.set_cons_zero, List.set_cons_succ]
  refine reg_one (i := 8) (by kernel_rfl) ?_
  refine op_call (i := 8) (#[.slice ab b.length cb, .int .i64 at_]) rfl (by rfl) (enters_of Tryd.func80 (by kernel_rfl) rfl) (by first | (simp [Act.eval]; done) | rfl | (simp only [List.map_toArray, List.map_cons, List.map_nil, Act.eval]; rfl) | (simp [Act.eval]; trace_state; done)) ?_
  refine (HC.out _ hSc).mono ?_
  rintro e W1 ⟨rfl, rfl⟩
  refine ⟨_, rfl, hSc, ?_⟩
  simp only [Act.put, List.setIfInBounds_toArray, List.set_cons_zero, List.set_cons_succ]
  refine reg_take (i := 9) (v := ?g26v) rfl (by kernel_rfl) (by kernel_rfl) (by kernel_rfl) (by kernel_rfl) (fun _ _ _ h => h) (by rfl) ?g26y (by assumption) ?g26r
  case g26y => (intro W hS; first | (go_simp; done) | (go_simp; with_reducible rfl))
  simp only [Act.put, List.setIfInBounds_toArray, List.set_cons_zero, List.set_cons_succ]
  refine reg_take (i := 10) (v := ?g27v) rfl (by kernel_rfl) (by kernel_rfl) (by kernel_rfl) (by kernel_rfl) (fun _ _ _ h => h) (by rfl) ?g27y (by assumption) ?g27r
  case g27y => (intro W hS; first | (go_simp; done) | (go_simp; with_reducible rfl))
  simp only [Act.put, List.setIfInBounds_toArray, List.set_cons_zero, List.set_cons_succ]
  refine reg_take (i := 11) (v := ?g28v) rfl (by kernel_rfl) (by kernel_rfl) (by kernel_rfl) (by kernel_rfl) (fun _ _ _ h => h) (by rfl) ?g28y (by assumption) ?g28r
  case g28y => (intro W hS; first | (go_simp; done) | (go_simp; with_reducible rfl))
  simp only [Act.put, List.setIfInBounds_toArray, List.set_cons_zero, List.set_cons_succ]
  refine reg_take (i := 12) (v := ?g29v) rfl (by kernel_rfl) (by kernel_rfl) (by kernel_rfl) (by kernel_rfl) (fun _ _ _ h => h) (by rfl) ?g29y (by assumption) ?g29r
  case g29y => (intro W hS; first | (go_simp; done) | (go_simp; with_reducible rfl))
  simp only [Act.put, List.setIfInBounds_toArray, List.set_cons_zero, List.set_cons_succ]
  refine reg_take (i := 13) (v := ?g30v) rfl (by kernel_rfl) (by kernel_rfl) (by kernel_rfl) (by kernel_rfl) (fun _ _ _ h => h) (by rfl) ?g30y (by assumption) ?g30r
  case g30y => (intro W hS; first | (go_simp; done) | (go_simp; with_reducible rfl))
  simp only [Act.put, List.setIfInBounds_toArray, List.set_cons_zero, List.set_cons_succ]
  refine reg_take (i := 14) (v := ?g31v) rfl (by kernel_rfl) (by kernel_rfl) (by kernel_rfl) (by kernel_rfl) (fun _ _ _ h => h) (by rfl) ?g31y (by assumption) ?g31r
  case g31y => (intro W hS; first | (go_simp; done) | (go_simp; with_reducible rfl))
  simp only [Act.put, List.setIfInBounds_toArray, List.set_cons_zero, List.set_cons_succ]
  refine reg_take (i := 15) (v := ?g32v) rfl (by kernel_rfl) (by kernel_rfl) (by kernel_rfl) (by kernel_rfl) (fun _ _ _ h => h) (by rfl) ?g32y (by assumption) ?g32r
  case g32y => (intro W hS; first | (go_simp; done) | (go_simp; with_reducible rfl))
  simp only [Act.put, List.setIfInBounds_toArray, List.set_cons_zero, List.set_cons_succ]
  refine wpAnyG_done (by kernel_rfl) ?_ _
  have HP2 := hide (hSc.heap HP.out (fun h => h))
  have HS := hide hSc
  clear hS0 hSc c0 c1 c2 HC HP
  generalize w.drew = w1 at HP2 HS ⊢
  have g0 := cell_of_heap HP2.out 0
  have g1 := cell_of_heap HP2.out 1
  have g2 := cell_of_heap HP2.out 2
  have f1 := free_of_heap HP2.out 1
  have f2 := free_of_heap HP2.out 2
  simp at g0 g1 g2 f1 f2
  cases ok with
  | false =>
    have hr : R = (⟨#[]⟩, at_, true) := by rw [HR.out, if_neg (by simp)]
    subst hr
    go_wp2_with fail
    go_ret
    exact ⟨rfl, heap_setCell_same HP2.out (i := 2) (.bool true), HS.out.trans (Chg.setCell w1 ⟨p, 2, none⟩ _) (fun _ _ h => h.elim) (fun _ _ h => h)⟩
  | true =>
    cases bad with
    | true =>
      have hr : R = (⟨#[]⟩, at_, true) := by rw [HR.out, if_neg (by simp)]
      subst hr
      go_wp2_with fail
      go_ret
      exact ⟨rfl, heap_setCell_same HP2.out (i := 2) (.bool true), HS.out.trans (Chg.setCell w1 ⟨p, 2, none⟩ _) (fun _ _ h => h.elim) (fun _ _ h => h)⟩
    | false =>
      have hr : R = (N, at2, false) := by rw [HR.out, if_pos ⟨rfl, rfl⟩]
      subst hr
      go_wp2_with fail
      go_ret
      exact ⟨rfl, heap_setCell_same HP2.out (i := 1) (.int .i64 at2), HS.out.trans (Chg.setCell w1 ⟨p, 1, none⟩ _) (fun _ _ h => h.elim) (fun _ _ h => h)⟩
end Go.Proofs.YtjmmmpnpkialjaaDoor
namespace Go.Proofs.YtjmmmpnpkialjaaDoor
open Go.RowKit Go.Shelf

section
variable {τ : Type}
/-- A loop that reads things as long as there may be more, and all went well. -/
def loopR (step : Int → Bool → τ × Int × Bool) (n : Int) : Nat → Nat → Int → Bool → List τ → List τ × Int × Bool
  | 0, _, a, d, l => (l, a, d)
  | f + 1, i, a, d, l => if (i : Int) < n ∧ d = false then loopR step n f (i + 1) (step a d).2.1 (step a d).2.2 (l ++ [(step a d).1]) else (l, a, d)
theorem loopR_len (step : Int → Bool → τ × Int × Bool) (n : Int) : ∀ (f i : Nat) (a : Int) (d : Bool) (l : List τ), (loopR step n f i a d l).1.length ≤ l.length + f
  | 0, _, _, _, l => by rw [loopR]; exact Nat.le_refl _
  | f + 1, i, a, d, l => by
    rw [loopR]
    split
    · have h := loopR_len step n f (i + 1) (step a d).2.1 (step a d).2.2 (l ++ [(step a d).1])
      rw [List.length_append, List.length_singleton] at h
      omega
    · show l.length ≤ _
      omega
theorem loopR_all (p : τ → Prop) (step : Int → Bool → τ × Int × Bool) (hp : ∀ a d, p (step a d).1) (n : Int) : ∀ (f i : Nat) (a : Int) (d : Bool) (l : List τ), (∀ x ∈ l, p x) → ∀ x ∈ (loopR step n f i a d l).1, p x
  | 0, _, _, _, l, h => by rw [loopR]; exact h
  | f + 1, i, a, d, l, h => by
    rw [loopR]
    split
    · refine loopR_all p step hp n f (i + 1) _ _ _ (fun x hx => ?_)
      rcases List.mem_append.1 hx with hx | hx
      · exact h x hx
      · rw [List.mem_singleton.1 hx]; exact hp a d
    · exact h
def StepAs (step : List UInt8 → Int → Bool → τ × Int × Bool) (lay : τ → List UInt8) (ok : τ → Prop) : Prop :=
  ∀ x pre post, ok x → step (pre ++ (lay x ++ post)) (pre.length : Int) false = (x, (pre.length : Int) + (lay x).length, false)
theorem loopR_laid {step : List UInt8 → Int → Bool → τ × Int × Bool} {lay : τ → List UInt8} {ok : τ → Prop} (h : StepAs step lay ok) : ∀ (xs : List τ) (f i : Nat) (l : List τ) (pre post : List UInt8), (∀ x ∈ xs, ok x) → xs.length ≤ f →
    loopR (step (pre ++ (xs.flatMap lay ++ post))) ((i + xs.length : Nat) : Int) f i (pre.length : Int) false l = (l ++ xs, (pre.length : Int) + (xs.flatMap lay).length, false)
  | [], f, i, l, pre, post, _, _ => by
    cases f with
    | zero => simp [loopR]
    | succ f => rw [loopR, if_neg (by simp)]; simp
  | x :: xs, f, i, l, pre, post, hx, hf => by
    cases f with
    | zero => simp at hf
    | succ f =>
      have h1 := h x pre (xs.flatMap lay ++ post) (hx x (by simp))
      have e1 : pre ++ ((x :: xs).flatMap lay ++ post) = pre ++ (lay x ++ (xs.flatMap lay ++ post)) := by simp
      have e2 : pre ++ (lay x ++ (xs.flatMap lay ++ post)) = (pre ++ lay x) ++ (xs.flatMap lay ++ post) := by simp
      have h2 := loopR_laid h xs f (i + 1) (l ++ [x]) (pre ++ lay x) post (fun y hy => hx y (by simp [hy])) (by simpa using hf)
      have e3 : ((pre ++ lay x).length : Int) = (pre.length : Int) + (lay x).length := by simp
      rw [← e2, e3] at h2
      rw [e1, loopR, if_pos ⟨by simp; omega, rfl⟩, h1]
      have e4 : ((i + (x :: xs).length : Nat) : Int) = ((i + 1 + xs.length : Nat) : Int) := by simp; omega
      rw [e4, h2]
      simp
      omega
end
theorem numS_laid : StepAs numS num8 (fun n => (Lit.int .i64 n).wf = true) := fun n pre post h => by
  rw [numS, rds_num n pre post h, if_pos ⟨rfl, rfl⟩]
theorem textS_laid : StepAs textS (fun s => txts [s]) (fun s => s.size ≤ 9223372036854775807) := fun s pre post h => by
  rw [textS, rds_text s pre post h, if_pos ⟨rfl, rfl⟩]
def fileS (b : List UInt8) (a : Int) (d : Bool) : Fl × Int × Bool :=
  (⟨(textS b a d).1, (textS b (textS b a d).2.1 (textS b a d).2.2).1⟩, (textS b (textS b a d).2.1 (textS b a d).2.2).2.1, (textS b (textS b a d).2.1 (textS b a d).2.2).2.2)
theorem fileS_laid : StepAs fileS flB (fun f => f.path.size ≤ 9223372036854775807 ∧ f.data.size ≤ 9223372036854775807) := fun f pre post h => by
  have e : flB f ++ post = txts [f.path] ++ (txts [f.data] ++ post) := by simp [flB, txts]
  have h1 := textS_laid f.path pre (txts [f.data] ++ post) h.1
  have h2 := textS_laid f.data (pre ++ txts [f.path]) post h.2
  have e2 : (pre ++ txts [f.path]) ++ (txts [f.data] ++ post) = pre ++ (txts [f.path] ++ (txts [f.data] ++ post)) := by simp
  have e3 : ((pre ++ txts [f.path]).length : Int) = (pre.length : Int) + (txts [f.path]).length := by simp
  rw [e2, e3] at h2
  have e4 : (flB f).length = (txts [f.path]).length + (txts [f.data]).length := by simp [flB, txts]; omega
  rw [e]
  simp only [fileS, h1, h2, e4]
  simp only [Prod.mk.injEq, and_true, true_and]
  omega
theorem textS_len (b : List UInt8) (a : Int) (d : Bool) : (textS b a d).1.size ≤ b.length := by
  unfold textS
  split
  · exact rdText_len b a
  · exact Nat.zero_le _
/-- The commit. -/
def psR (b : List UInt8) (a : Int) (d : Bool) : List Int × Int × Bool := loopR (numS b) (numS b a d).1 3 0 (numS b a d).2.1 (numS b a d).2.2 []
def fsR (b : List UInt8) (a : Int) (d : Bool) : List Fl × Int × Bool := loopR (fileS b) (numS b a d).1 13 0 (numS b a d).2.1 (numS b a d).2.2 []
def cmR (b : List UInt8) (a : Int) (d : Bool) : Cm × Int × Bool :=
  (⟨(psR b a d).1, (fsR b (psR b a d).2.1 (psR b a d).2.2).1, (textS b (fsR b (psR b a d).2.1 (psR b a d).2.2).2.1 (fsR b (psR b a d).2.1 (psR b a d).2.2).2.2).1⟩, (textS b (fsR b (psR b a d).2.1 (psR b a d).2.2).2.1 (fsR b (psR b a d).2.1 (psR b a d).2.2).2.2).2)
/-- The five numbers, one by one. -/
def stR (b : List UInt8) : Nat → Int × Int × Bool
  | 0 => numS b 0 false
  | k + 1 => numS b (stR b k).2.1 (stR b k).2.2
def candR (b : List UInt8) : Rq × Bool :=
  if (stR b 0).1 = 1 then (⟨1, (stR b 1).1, (stR b 2).1, (stR b 3).1, (stR b 4).1 == 1, (cmR b (stR b 4).2.1 (stR b 4).2.2).1⟩, (cmR b (stR b 4).2.1 (stR b 4).2.2).2.2)
  else (⟨(stR b 0).1, (stR b 1).1, (stR b 2).1, (stR b 3).1, (stR b 4).1 == 1, cmZ⟩, (stR b 4).2.2)
theorem psR_len (b : List UInt8) (a : Int) (d : Bool) : (psR b a d).1.length ≤ 3 := by have h := loopR_len (numS b) (numS b a d).1 3 0 (numS b a d).2.1 (numS b a d).2.2 []; simpa [psR] using h
theorem fsR_len (b : List UInt8) (a : Int) (d : Bool) : (fsR b a d).1.length ≤ 13 := by have h := loopR_len (fileS b) (numS b a d).1 13 0 (numS b a d).2.1 (numS b a d).2.2 []; simpa [fsR] using h
theorem fsR_path (b : List UInt8) (a : Int) (d : Bool) : ∀ f ∈ (fsR b a d).1, f.path.size ≤ b.length := by
  unfold fsR
  exact loopR_all (fun f : Fl => f.path.size ≤ b.length) (fileS b) (fun a d => textS_len b a d) _ 13 0 _ _ [] (fun x h => by cases h)
theorem cmR_few (b : List UInt8) (a : Int) (d : Bool) : Few (cmR b a d).1 := ⟨Nat.le_trans (psR_len b a d) (by decide), Nat.le_trans (fsR_len b _ _) (by decide)⟩
theorem cmR_laid {c : Cm} (h : SmallC c) (pre post : List UInt8) : cmR (pre ++ (layC c ++ post)) (pre.length : Int) false = (c, (pre.length : Int) + (layC c).length, false) := by
  have hp : ∀ x ∈ c.parents, (Lit.int .i64 x).wf = true := fun x hx => WalkArith.wf_i64 (by have := h.pid x hx; omega)
  have hf : ∀ f ∈ c.tree, f.path.size ≤ 9223372036854775807 ∧ f.data.size ≤ 9223372036854775807 := fun f hf => by have := h.fs f hf; omega
  obtain ⟨B, hB⟩ : ∃ B, B = pre ++ (layC c ++ post) := ⟨_, rfl⟩
  have h1 := numS_laid (c.parents.length : Int) pre (nums c.parents ++ (num8 (c.tree.length : Int) ++ (c.tree.flatMap flB ++ (txts [c.note] ++ post)))) (wf_nat _ (by have := h.ps; omega))
  have h2 := loopR_laid numS_laid c.parents 3 0 [] (pre ++ num8 (c.parents.length : Int)) (num8 (c.tree.length : Int) ++ (c.tree.flatMap flB ++ (txts [c.note] ++ post))) hp (by have := h.ps; omega)
  have h3 := numS_laid (c.tree.length : Int) (pre ++ (num8 (c.parents.length : Int) ++ nums c.parents)) (c.tree.flatMap flB ++ (txts [c.note] ++ post)) (wf_nat _ (by have := h.ts; omega))
  have h4 := loopR_laid fileS_laid c.tree 13 0 [] (pre ++ (num8 (c.parents.length : Int) ++ (nums c.parents ++ num8 (c.tree.length : Int)))) (txts [c.note] ++ post) hf (by have := h.ts; omega)
  have h5 := textS_laid c.note (pre ++ (num8 (c.parents.length : Int) ++ (nums c.parents ++ (num8 (c.tree.length : Int) ++ c.tree.flatMap flB)))) post (by have := h.nt; omega)
  have e1 : pre ++ (num8 (c.parents.length : Int) ++ (nums c.parents ++ (num8 (c.tree.length : Int) ++ (c.tree.flatMap flB ++ (txts [c.note] ++ post))))) = B := by rw [hB]; simp [layC]
  have e2 : pre ++ num8 (c.parents.length : Int) ++ (c.parents.flatMap num8 ++ (num8 (c.tree.length : Int) ++ (c.tree.flatMap flB ++ (txts [c.note] ++ post)))) = B := by rw [hB]; simp [layC, nums]
  have e3 : pre ++ (num8 (c.parents.length : Int) ++ nums c.parents) ++ (num8 (c.tree.length : Int) ++ (c.tree.flatMap flB ++ (txts [c.note] ++ post))) = B := by rw [hB]; simp [layC]
  have e4 : pre ++ (num8 (c.parents.length : Int) ++ (nums c.parents ++ num8 (c.tree.length : Int))) ++ (c.tree.flatMap flB ++ (txts [c.note] ++ post)) = B := by rw [hB]; simp [layC]
  have e5 : pre ++ (num8 (c.parents.length : Int) ++ (nums c.parents ++ (num8 (c.tree.length : Int) ++ c.tree.flatMap flB))) ++ (txts [c.note] ++ post) = B := by rw [hB]; simp [layC]
  rw [e1, num8_length] at h1
  rw [e2] at h2
  rw [e3, num8_length] at h3
  rw [e4] at h4
  rw [e5] at h5
  have l2 : ((pre ++ num8 (c.parents.length : Int)).length : Int) = (pre.length : Int) + (8 : Nat) := by simp [num8_length]
  have l3 : ((pre ++ (num8 (c.parents.length : Int) ++ nums c.parents)).length : Int) = (pre.length : Int) + (8 : Nat) + (c.parents.flatMap num8).length := by simp [num8_length, nums]; omega
  have l4 : ((pre ++ (num8 (c.parents.length : Int) ++ (nums c.parents ++ num8 (c.tree.length : Int)))).length : Int) = (pre.length : Int) + (8 : Nat) + (c.parents.flatMap num8).length + (8 : Nat) := by simp [num8_length, nums]; omega
  have l5 : ((pre ++ (num8 (c.parents.length : Int) ++ (nums c.parents ++ (num8 (c.tree.length : Int) ++ c.tree.flatMap flB)))).length : Int) = (pre.length : Int) + (8 : Nat) + (c.parents.flatMap num8).length + (8 : Nat) + (c.tree.flatMap flB).length := by simp [num8_length, nums]; omega
  rw [l2, Nat.zero_add, List.nil_append] at h2
  rw [l3] at h3
  rw [l4, Nat.zero_add, List.nil_append] at h4
  rw [l5] at h5
  rw [← hB]
  have l6 : ((layC c).length : Int) = (8 : Nat) + (c.parents.flatMap num8).length + (8 : Nat) + (c.tree.flatMap flB).length + (txts [c.note]).length := by simp [layC, num8_length, nums]; omega
  simp only [cmR, psR, fsR, h1, h2, h3, h4, h5, l6]
  simp only [Prod.mk.injEq, and_true, true_and]
  omega
theorem candR_laid {r : Rq} (h : SmallR r) : candR (layRq r) = (r, false) := by
  obtain ⟨k, i, n, l, ps, c⟩ := r
  obtain ⟨hk, hi, hn, hl, hpu, hot⟩ := h
  simp only at hk hi hn hl hpu hot
  obtain ⟨rest, hrest⟩ : ∃ rest, rest = (if k = 1 then layC c else []) := ⟨_, rfl⟩
  have e : layRq ⟨k, i, n, l, ps, c⟩ = num8 k ++ (num8 i ++ (num8 n ++ (num8 l ++ (num8 (bitN ps) ++ rest)))) := by rw [hrest]; simp [layRq, nums]
  have hb : 0 ≤ bitN ps ∧ bitN ps ≤ 1 := by unfold bitN; split <;> omega
  have n0 := numS_laid k [] (num8 i ++ (num8 n ++ (num8 l ++ (num8 (bitN ps) ++ rest)))) (WalkArith.wf_i64 (by omega))
  have n1 := numS_laid i (num8 k) (num8 n ++ (num8 l ++ (num8 (bitN ps) ++ rest))) (WalkArith.wf_i64 (by omega))
  have n2 := numS_laid n (num8 k ++ num8 i) (num8 l ++ (num8 (bitN ps) ++ rest)) (WalkArith.wf_i64 (by omega))
  have n3 := numS_laid l (num8 k ++ (num8 i ++ num8 n)) (num8 (bitN ps) ++ rest) (WalkArith.wf_i64 (by omega))
  have n4 := numS_laid (bitN ps) (num8 k ++ (num8 i ++ (num8 n ++ num8 l))) rest (WalkArith.wf_i64 (by omega))
  simp only [List.nil_append, List.append_assoc, List.length_append, num8_length, List.length_nil] at n0 n1 n2 n3 n4
  rw [e]
  generalize hB : num8 k ++ (num8 i ++ (num8 n ++ (num8 l ++ (num8 (bitN ps) ++ rest)))) = B at n0 n1 n2 n3 n4
  have s0 : stR B 0 = (k, 8, false) := by rw [stR]; exact n0
  have s1 : stR B 1 = (i, 16, false) := by rw [stR, s0]; exact n1
  have s2 : stR B 2 = (n, 24, false) := by rw [stR, s1]; exact n2
  have s3 : stR B 3 = (l, 32, false) := by rw [stR, s2]; exact n3
  have s4 : stR B 4 = (bitN ps, 40, false) := by rw [stR, s3]; exact n4
  have hps : (bitN ps == 1) = ps := by cases ps <;> rfl
  simp only [candR, s0, s1, s2, s3, s4, hps]
  by_cases hk1 : k = 1
  · have h1 := cmR_laid (hpu hk1) (num8 k ++ (num8 i ++ (num8 n ++ (num8 l ++ num8 (bitN ps))))) []
    have e2 : (num8 k ++ (num8 i ++ (num8 n ++ (num8 l ++ num8 (bitN ps))))) ++ (layC c ++ []) = B := by rw [← hB, hrest, if_pos hk1]; simp
    have e3 : ((num8 k ++ (num8 i ++ (num8 n ++ (num8 l ++ num8 (bitN ps))))).length : Int) = 40 := by simp [num8_length]
    rw [e2, e3] at h1
    rw [if_pos hk1, h1, hk1]
  · rw [if_neg hk1, hot hk1]
/-- What the document refuses the program refuses. -/
theorem rd_bad {b : List UInt8} (h : (candR b).2 = true) : rdRq b = none := by
  cases hr : rdRq b with
  | none => rfl
  | some r =>
    obtain ⟨h1, h2⟩ := rdRq_some.1 hr
    have h3 := candR_laid (mayRq_small h1)
    rw [h2] at h3
    rw [h3] at h
    cases h
theorem rdR_may {b : List UInt8} (hm : mayRq (candR b).1 = false) : rdRq b = none := by
  cases hr : rdRq b with
  | none => rfl
  | some r =>
    obtain ⟨h1, h2⟩ := rdRq_some.1 hr
    have h3 := candR_laid (mayRq_small h1)
    rw [h2] at h3
    rw [h3, h1] at hm
    cases hm
theorem rdR_other {b : List UInt8} (hm : ¬ layRq (candR b).1 = b) : rdRq b = none := by
  cases hr : rdRq b with
  | none => rfl
  | some r =>
    obtain ⟨h1, h2⟩ := rdRq_some.1 hr
    have h3 := candR_laid (mayRq_small h1)
    rw [h2] at h3
    rw [h3] at hm
    exact absurd h2 hm
end Go.Proofs.YtjmmmpnpkialjaaDoor
