/- Records as a statement is handed them; GreatRecords, SameRecords. SameRecords of alike ones. Conditions: the bytes read as said. -/
import Derived.Test.YtjmmmpnpkialjaaDoorRcA
import Derived.Test.YtjmmmpnpkialjaaDoorReg
namespace Go.Proofs.YtjmmmpnpkialjaaDoor
open Go.RowKit Go.Shelf
attribute [local go_sem] Oper.semAt_some

section
variable {H : Type} {enc : TypeId × Value → H} {W : World}
def InI (n : Int) : Prop := -9223372036854775808 ≤ n ∧ n ≤ 9223372036854775807
theorem record_of_readable {cs : List Value} (h : Readable enc Tryd.prog W 54 cs) : ∃ x : RcV, cs = rc_enc x ∧ CmAt W x.q.x ∧ Wf x.q.x.c ∧ InI x.at_ := by
  obtain ⟨hl, hf⟩ := h.struct Tryd.underlying54
  have hl9 : cs.length = 9 := by rw [hl]; kernel_rfl
  obtain ⟨t, ht, wt⟩ := (hf 0 3 0 1 (by kernel_rfl) (by kernel_rfl)).int Tryd.underlying3
  obtain ⟨q, hq, qat, qwf, -⟩ := request_of_readable (hf 1 27 1 8 (by kernel_rfl) (by kernel_rfl))
  match cs, hl9 with
  | [c0, c1, c2, c3, c4, c5, c6, c7, c8], _ =>
    simp at ht hq
    obtain ⟨h1, h2, h3, h4, h5, h6, h7, h8⟩ := hq
    subst ht h1 h2 h3 h4 h5 h6 h7 h8
    exact ⟨⟨t, q⟩, rfl, qat, qwf, wf_range wt⟩
theorem records_of_readable {v : Value} (h : Readable enc Tryd.prog W 50 v.cells.toList) (hv : v.cells = #[v]) : ∃ (l : List RcV), Rd W v l.length (flat rc_enc l) ∧ l.length ≤ maxLen ∧ (∀ b, v.ownBlock = some b → l ≠ [] → b < W.heap.size) ∧ (∀ x ∈ l, CmAt W x.q.x ∧ Wf x.q.x.c ∧ InI x.at_) := by
  obtain ⟨v', n, css, e, hr, hl, hm, hc, hb⟩ := h.slice Tryd.underlying50 (k := 9) (by kernel_rfl) (by decide)
  obtain ⟨xs, rfl, hx⟩ := exists_map (f := rc_enc) (p := fun x => CmAt W x.q.x ∧ Wf x.q.x.c ∧ InI x.at_) (l := css) (fun c hcc => record_of_readable (hc c hcc).2)
  rw [hv] at e
  obtain rfl : v = v' := by simpa using e
  rw [flatten_flat] at hr hb
  simp only [List.length_map] at hl
  subst hl
  refine ⟨xs, hr, hm, fun b h1 h2 => hb b h1 ?_, hx⟩
  cases xs with
  | nil => exact absurd rfl h2
  | cons x xs => simp [flat_cons, rc_enc]
end
def greatR (most : Nat) (l : List RcV) : Bool := decide (most < l.length) || l.any fun x => greatC x.q.x.c
theorem great_rc {most : Nat} {l : List RcV} (h : greatR most l = false) : l.length ≤ most ∧ ∀ x ∈ l, greatC x.q.x.c = false := by
  simp only [greatR, Bool.or_eq_false_iff, decide_eq_false_iff_not, List.any_eq_false, Bool.not_eq_true] at h
  exact ⟨by omega, h.2⟩
set_option maxHeartbeats 4000000 in
set_option maxRecDepth 100000 in
theorem GreatRecords_ok (w : World) (v : Value) (l : List RcV) (most : Nat) (hv : Rd w v l.length (flat rc_enc l)) (hm : l.length ≤ maxLen) (hmo : most ≤ 1000) (hx : ∀ x ∈ l, CmAt w x.q.x ∧ Wf x.q.x.c) :
    Calls Tryd.prog 26 #[v, .int .i64 most] w fun e w' => e = .returned (.bool (greatR most l)) ∧ Below w.heap.size w w' := by
  have HV := hide hv
  have HX := hide hx
  have hml : maxLen = 9223372036854775807 := rfl
  obtain ⟨av, cv, rfl, -, -⟩ := hv.shape
  obtain ⟨r, hr⟩ : ∃ r, r = greatR most l := ⟨_, rfl⟩
  rw [← hr]
  have HR := hide hr
  have HML := hide hml
  clear hv hx hr hml
  go_enter Tryd.func26, Tryd.ntmps26
  go_wp2_with fail
  by_cases hbig : most < l.length
  · have hr1 : r = true := by rw [HR.out, greatR, decide_eq_true hbig]; rfl
    have HR1 := hide hr1
    have d2 : decide ((l.length : Int) ≤ (most : Int)) = false := decide_eq_false (by omega)
    have d3 : decide ((l.length : Int) > (most : Int)) = true := decide_eq_true (by omega)
    have d1 : decide ((0 : Int) < (l.length : Int)) = true := decide_eq_true (by omega)
    have hlm : l.length ≤ 9223372036854775807 := by have := HML.out; omega
    clear hr1
    go_loop [5] (fun i => i = .int .i64 0) (fun _ => 1)
    case atStart => rfl
    case round =>
      subst hrel
      go_wp2_with fail
      go_ret
      exact ⟨ret_bool HR1.out.symm, Below.refl _ _⟩
  · have d2 : decide ((l.length : Int) ≤ (most : Int)) = true := decide_eq_true (by omega)
    have d3 : decide ((l.length : Int) > (most : Int)) = false := decide_eq_false (by omega)
    go_loopw [5] (fun i wr => ∃ j : Nat, j ≤ l.length ∧ i = .int .i64 j ∧ Hid (∀ x ∈ l.take j, greatC x.q.x.c = false) ∧ Hid (Below w.heap.size w wr)) (fun i _ => l.length - (intOf i).toNat)
    case atStart => exact ⟨0, Nat.zero_le _, rfl, fun x h => by simp at h, Below.refl _ _⟩
    case round =>
      obtain ⟨j, hj, rfl, HA, HB⟩ := hrel
      by_cases hlt : j < l.length
      · have d1 : decide ((j : Int) < (l.length : Int)) = true := decide_eq_true (by omega)
        obtain ⟨b, off, rfl, hcs⟩ := rd_at (HV.out.chg (Chg.of_below0 (S := fun _ => False) HB.out) (fun _ _ _ h => h)) (by omega)
        have hc := rc_cells _ _ _ _ hcs j hlt
        have hxr := HX.out l[j] (List.getElem_mem hlt)
        obtain ⟨x, hxe⟩ : ∃ x, x = l[j] := ⟨_, rfl⟩
        rw [← hxe] at hc hxr
        have HXE := hide hxe
        obtain ⟨t, q⟩ := x
        have c6 := hc 6 _ (by decide) rfl
        have c7 := hc 7 _ (by decide) rfl
        have c8 := hc 8 _ (by decide) rfl
        have hg := GreatCommit_ok wr q.x (hxr.1.same (Chg.of_below0 HB.out)) hxr.2
        obtain ⟨k, i, n, rl, p, ⟨⟨xps, xts, xn⟩, xp, xt⟩⟩ := q
        unfold CmV.val at hg
        simp only at hg c6 c7 c8
        obtain ⟨g9, hg9⟩ : ∃ g, g = greatC ⟨xps, xts, xn⟩ := ⟨_, rfl⟩
        rw [← hg9] at hg
        have HG := hide hg
        have HG9 := hide hg9
        clear hcs hc hxr hxe hg hg9
        go_wp2_with fail
        refine HG.out.mono ?_
        rintro e w2 ⟨rfl, hb2⟩
        have HB2 := hide (HB.out.trans (hb2.mono HB.out.size))
        clear hb2 c6 c7 c8
        cases g9 with
        | true =>
          have hr1 : r = true := by
            rw [HR.out, greatR, Bool.or_eq_true]
            exact .inr (List.any_eq_true.2 ⟨l[j], List.getElem_mem hlt, by rw [← HXE.out]; exact HG9.out.symm⟩)
          have HR1 := hide hr1
          clear hr1
          go_wp2_with fail
          go_ret
          exact ⟨ret_bool HR1.out.symm, HB2.out⟩
        | false =>
          go_wp2_with fail
          go_roundw
          case rel =>
            refine ⟨j + 1, by omega, by go_num, fun y hy => ?_, HB2.out⟩
            rw [take_succ_get l j hlt] at hy
            rcases List.mem_append.1 hy with hy | hy
            · exact HA.out y hy
            · rw [List.mem_singleton.1 hy, ← HXE.out]; exact HG9.out.symm
          case measure => simp [intOf]; omega
      · obtain rfl : j = l.length := by omega
        have d1 : decide ((l.length : Int) < (l.length : Int)) = false := decide_eq_false (by omega)
        have hr1 : r = false := by
          rw [HR.out, greatR, decide_eq_false hbig, Bool.false_or, List.any_eq_false]
          intro x hx
          rw [HA.out x (by rw [List.take_length]; exact hx)]
          simp
        have HR1 := hide hr1
        clear hr1
        go_wp2_with fail
        go_ret
        exact ⟨ret_bool HR1.out.symm, HB.out⟩
end Go.Proofs.YtjmmmpnpkialjaaDoor
namespace Go.Proofs.YtjmmmpnpkialjaaDoor
open Go.RowKit Go.Shelf
attribute [local go_sem] Oper.semAt_some

set_option maxHeartbeats 4000000 in
set_option maxRecDepth 100000 in
theorem SameRecords_yes (w : World) (va vb : Value) (xs ys : List RcV) (ha : Rd w va xs.length (flat rc_enc xs)) (hb : Rd w vb ys.length (flat rc_enc ys)) (he : rcs xs = rcs ys) (hl : xs.length ≤ 100000) (hxa : ∀ x ∈ xs, CmAt w x.q.x ∧ Few x.q.x.c) (hxb : ∀ x ∈ ys, CmAt w x.q.x) :
    Calls Tryd.prog 30 #[va, vb] w fun e w' => e = .returned (.bool true) ∧ Below w.heap.size w w' := by
  have hll : xs.length = ys.length := by have h5 := congrArg List.length he; simpa [rcs] using h5
  have HEQ : Hid (∀ (j : Nat) (h1 : j < xs.length) (h2 : j < ys.length), xs[j].rc = ys[j].rc) := hide (fun j h1 h2 => by
    have h5 := congrArg (fun t => t[j]?) he
    simpa [rcs, h1, h2] using h5)
  have HA := hide ha
  have HBB := hide hb
  have HXA := hide hxa
  have HXB := hide hxb
  have HLL := hide hll
  rw [← hll] at hb
  obtain ⟨aa, ca, rfl, -, -⟩ := ha.shape
  obtain ⟨ab, cb, rfl, -, -⟩ := hb.shape
  have HB2 := hide hb
  clear ha hb he hxa hxb hll
  go_enter Tryd.func30, Tryd.ntmps30
  go_wp2_with fail
  go_loopw [5] (fun i wr => ∃ j : Nat, j ≤ xs.length ∧ i = .int .i64 j ∧ Hid (Below w.heap.size w wr)) (fun i _ => xs.length - (intOf i).toNat)
  case atStart => exact ⟨0, Nat.zero_le _, rfl, Below.refl _ _⟩
  case round =>
    obtain ⟨j, hj, rfl, HB⟩ := hrel
    by_cases hlt : j < xs.length
    · have d1 : decide ((j : Int) < (xs.length : Int)) = true := decide_eq_true (by omega)
      have hltb : j < ys.length := by rw [← HLL.out]; exact hlt
      obtain ⟨ba, ofa, rfl, hcsa⟩ := rd_at (HA.out.chg (Chg.of_below0 (S := fun _ => False) HB.out) (fun _ _ _ h => h)) (by omega)
      obtain ⟨bb, ofb, rfl, hcsb⟩ := rd_at (HB2.out.chg (Chg.of_below0 (S := fun _ => False) HB.out) (fun _ _ _ h => h)) (by omega)
      have hca := rc_cells _ _ _ _ hcsa j hlt
      have hcb := rc_cells _ _ _ _ hcsb j hltb
      have hxa := HXA.out xs[j] (List.getElem_mem hlt)
      have hxb := HXB.out ys[j] (List.getElem_mem hltb)
      have heq := HEQ.out j hlt hltb
      generalize xs[j] = x at hca hxa heq
      generalize ys[j] = y at hcb hxb heq
      obtain ⟨ta, ⟨ka, ia, na, la, pa, ⟨⟨psa, tsa, xna⟩, xpa, xta⟩⟩⟩ := x
      obtain ⟨tb, ⟨kb, ib, nb, lb, pb, ⟨⟨psb, tsb, xnb⟩, xpb, xtb⟩⟩⟩ := y
      obtain rfl : ta = tb := congrArg Rc.at_ heq
      have hr : RqV.r ⟨ka, ia, na, la, pa, ⟨⟨psa, tsa, xna⟩, xpa, xta⟩⟩ = RqV.r ⟨kb, ib, nb, lb, pb, ⟨⟨psb, tsb, xnb⟩, xpb, xtb⟩⟩ := congrArg Rc.r heq
      have hfb : Few ⟨psb, tsb, xnb⟩ := by
        have h5 : (⟨psa, tsa, xna⟩ : Cm) = ⟨psb, tsb, xnb⟩ := congrArg Rq.c hr
        rw [← h5]; exact hxa.2
      have ca0 := hca 0 _ (by decide) rfl
      have ca1 := hca 1 _ (by decide) rfl
      have ca2 := hca 2 _ (by decide) rfl
      have ca3 := hca 3 _ (by decide) rfl
      have ca4 := hca 4 _ (by decide) rfl
      have ca5 := hca 5 _ (by decide) rfl
      have ca6 := hca 6 _ (by decide) rfl
      have ca7 := hca 7 _ (by decide) rfl
      have ca8 := hca 8 _ (by decide) rfl
      rw [Nat.add_zero] at ca0
      have cb0 := hcb 0 _ (by decide) rfl
      have cb1 := hcb 1 _ (by decide) rfl
      have cb2 := hcb 2 _ (by decide) rfl
      have cb3 := hcb 3 _ (by decide) rfl
      have cb4 := hcb 4 _ (by decide) rfl
      have cb5 := hcb 5 _ (by decide) rfl
      have cb6 := hcb 6 _ (by decide) rfl
      have cb7 := hcb 7 _ (by decide) rfl
      have cb8 := hcb 8 _ (by decide) rfl
      rw [Nat.add_zero] at cb0
      have HSM := hide (fun W (h : Chg (fun _ => False) wr W) => law_SameRequest W ⟨ka, ia, na, la, pa, ⟨⟨psa, tsa, xna⟩, xpa, xta⟩⟩ ⟨kb, ib, nb, lb, pb, ⟨⟨psb, tsb, xnb⟩, xpb, xtb⟩⟩ ((hxa.1.same (Chg.of_below0 HB.out)).same h) ((hxb.same (Chg.of_below0 HB.out)).same h) hxa.2 hfb)
      have HR := hide hr
      have hwj : IntKind.i64.wrap ((j : Nat) : Int) = j := IntWalk.i64_in _ (by omega)
      have hji : (j : Int) < (xs.length : Int) := by omega
      clear hcsa hcsb hca hcb hxa hxb heq hr hfb
      go_wp2_with fail
      refine reg_start (Chg (fun _ => False) wr) 25 25 (by rfl) (by kernel_rfl) (Chg.drew _ _) ?_
      intro hS0
      have hSc := hS0
      refine reg_take (i := 0) (v := ?g2v) rfl (by kernel_rfl) (by kernel_rfl) (by kernel_rfl) (by kernel_rfl) (fun _ _ _ h => h) (by rfl) ?g2y (by assumption) ?g2r
      case g2y => (intro W hS; first | (go_simp; done) | (go_simp; with_reducible rfl))
      simp only [Act.put, List.setIfInBounds_toArray, List.set_cons_zero, List.set_cons_succ]
      refine reg_take (i := 1) (v := ?g3v) rfl (by kernel_rfl) (by kernel_rfl) (by kernel_rfl) (by kernel_rfl) (fun _ _ _ h => h) (by rfl) ?g3y (by assumption) ?g3r
      case g3y => (intro W hS; first | (go_simp; done) | (go_simp; with_reducible rfl))
      simp only [Act.put, List.setIfInBounds_toArray, List.set_cons_zero, List.set_cons_succ]
      refine reg_take (i := 2) (v := ?g4v) rfl (by kernel_rfl) (by kernel_rfl) (by kernel_rfl) (by kernel_rfl) (fun _ _ _ h => h) (by rfl) ?g4y (by assumption) ?g4r
      case g4y => (intro W hS; first | (go_simp; done) | (go_simp; with_reducible rfl))
      simp only [Act.put, List.setIfInBounds_toArray, List.set_cons_zero, List.set_cons_succ]
      refine reg_take (i := 3) (v := ?g5v) rfl (by kernel_rfl) (by kernel_rfl) (by kernel_rfl) (by kernel_rfl) (fun _ _ _ h => h) (by rfl) ?g5y (by assumption) ?g5r
      case g5y => (intro W hS; first | (go_simp; done) | (go_simp; with_reducible rfl))
      simp only [Act.put, List.setIfInBounds_toArray, List.set_cons_zero, List.set_cons_succ]
      refine reg_take (i := 4) (v := ?g6v) rfl (by kernel_rfl) (by kernel_rfl) (by kernel_rfl) (by kernel_rfl) (fun _ _ _ h => h) (by rfl) ?g6y (by assumption) ?g6r
      case g6y => (intro W hS; have fca0 := hS.cell ca0 (fun h => h); have fca1 := hS.cell ca1 (fun h => h); have fca2 := hS.cell ca2 (fun h => h); have fca3 := hS.cell ca3 (fun h => h); have fca4 := hS.cell ca4 (fun h => h); have fca5 := hS.cell ca5 (fun h => h); have fca6 := hS.cell ca6 (fun h => h); have fca7 := hS.cell ca7 (fun h => h); have fca8 := hS.cell ca8 (fun h => h); have fcb0 := hS.cell cb0 (fun h => h); have fcb1 := hS.cell cb1 (fun h => h); have fcb2 := hS.cell cb2 (fun h => h); have fcb3 := hS.cell cb3 (fun h => h); have fcb4 := hS.cell cb4 (fun h => h); have fcb5 := hS.cell cb5 (fun h => h); have fcb6 := hS.cell cb6 (fun h => h); have fcb7 := hS.cell cb7 (fun h => h); have fcb8 := hS.cell cb8 (fun h => h); first | (go_simp; done) | (go_simp; with_reducible rfl))
      simp only [Act.put, List.setIfInBounds_toArray, List.set_cons_zero, List.set_cons_succ]
      refine reg_take (i := 5) (v := ?g7v) rfl (by kernel_rfl) (by kernel_rfl) (by kernel_rfl) (by kernel_rfl) (fun _ _ _ h => h) (by rfl) ?g7y (by assumption) ?g7r
      case g7y => (intro W hS; first | (go_simp; done) | (go_simp; with_reducible rfl))
      simp only [Act.put, List.setIfInBounds_toArray, List.set_cons_zero, List.set_cons_succ]
      refine reg_take (i := 6) (v := ?g8v) rfl (by kernel_rfl) (by kernel_rfl) (by kernel_rfl) (by kernel_rfl) (fun _ _ _ h => h) (by rfl) ?g8y (by assumption) ?g8r
      case g8y => (intro W hS; first | (go_simp; done) | (go_simp; with_reducible rfl))
      simp only [Act.put, List.setIfInBounds_toArray, List.set_cons_zero, List.set_cons_succ]
      refine reg_take (i := 7) (v := ?g9v) rfl (by kernel_rfl) (by kernel_rfl) (by kernel_rfl) (by kernel_rfl) (fun _ _ _ h => h) (by rfl) ?g9y (by assumption) ?g9r
      case g9y => (intro W hS; first | (go_simp; done) | (go_simp; with_reducible rfl))
      simp only [Act.put, List.setIfInBounds_toArray, List.set_cons_zero, List.set_cons_succ]
      refine reg_take (i := 8) (v := ?g10v) rfl (by kernel_rfl) (by kernel_rfl) (by kernel_rfl) (by kernel_rfl) (fun _ _ _ h => h) (by rfl) ?g10y (by assumption) ?g10r
      case g10y => (intro W hS; first | (go_simp; done) | (go_simp; with_reducible rfl))
      simp only [Act.put, List.setIfInBounds_toArray, List.set_cons_zero, List.set_cons_succ]
      refine reg_take (i := 9) (v := ?g11v) rfl (by kernel_rfl) (by kernel_rfl) (by kernel_rfl) (by kernel_rfl) (fun _ _ _ h => h) (by rfl) ?g11y (by assumption) ?g11r
      case g11y => (intro W hS; have fca0 := hS.cell ca0 (fun h => h); have fca1 := hS.cell ca1 (fun h => h); have fca2 := hS.cell ca2 (fun h => h); have fca3 := hS.cell ca3 (fun h => h); have fca4 := hS.cell ca4 (fun h => h); have fca5 := hS.cell ca5 (fun h => h); have fca6 := hS.cell ca6 (fun h => h); have fca7 := hS.cell ca7 (fun h => h); have fca8 := hS.cell ca8 (fun h => h); have fcb0 := hS.cell cb0 (fun h => h); have fcb1 := hS.cell cb1 (fun h => h); have fcb2 := hS.cell cb2 (fun h => h); have fcb3 := hS.cell cb3 (fun h => h); have fcb4 := hS.cell cb4 (fun h => h); have fcb5 := hS.cell cb5 (fun h => h); have fcb6 := hS.cell cb6 (fun h => h); have fcb7 := hS.cell cb7 (fun h => h); have fcb8 := hS.cell cb8 (fun h => h); first | (go_simp; done) | (go_simp; with_reducible rfl))
      simp only [Act.put, List.setIfInBounds_toArray, List.set_cons_zero, List.set_cons_succ]
      refine reg_take (i := 10) (v := ?g12v) rfl (by kernel_rfl) (by kernel_rfl) (by kernel_rfl) (by kernel_rfl) (fun _ _ _ h => h) (by rfl) ?g12y (by assumption) ?g12r
      case g12y => (intro W hS; first | (go_simp; done) | (go_simp; with_reducible rfl))
      simp only [Act.put, List.setIfInBounds_toArray, List.set_cons_zero, List.set_cons_succ]
      refine reg_take (i := 11) (v := ?g13v) rfl (by kernel_rfl) (by kernel_rfl) (by kernel_rfl) (by kernel_rfl) (fun _ _ _ h => h) (by rfl) ?g13y (by assumption) ?g13r
      case g13y => (intro W hS; first | (go_simp; done) | (go_simp; with_reducible rfl))
      simp only [Act.put, List.setIfInBounds_toArray, List.set_cons_zero, List.set_cons_succ]
      refine reg_take (i := 12) (v := ?g14v) rfl (by kernel_rfl) (by kernel_rfl) (by kernel_rfl) (by kernel_rfl) (fun _ _ _ h => h) (by rfl) ?g14y (by assumption) ?g14r
      case g14y => (intro W hS; first | (go_simp; done) | (go_simp; with_reducible rfl))
      simp only [Act.put, List.setIfInBounds_toArray, List.set_cons_zero, List.set_cons_succ]
      refine reg_take (i := 13) (v := ?g15v) rfl (by kernel_rfl) (by kernel_rfl) (by kernel_rfl) (by kernel_rfl) (fun _ _ _ h => h) (by rfl) ?g15y (by assumption) ?g15r
      case g15y => (intro W hS; first | (go_simp; done) | (go_simp; with_reducible rfl))
      simp only [Act.put, List.setIfInBounds_toArray, List.set_cons_zero, List.set_cons_succ]
      refine reg_take (i := 14) (v := ?g16v) rfl (by kernel_rfl) (by kernel_rfl) (by kernel_rfl) (by kernel_rfl) (fun _ _ _ h => h) (by rfl) ?g16y (by assumption) ?g16r
      case g16y => (intro W hS; first | (go_simp; done) | (go_simp; with_reducible rfl))
      simp only [Act.put, List.setIfInBounds_toArray, List.set_cons_zero, List.set_cons_succ]
      refine reg_take (i := 15) (v := ?g17v) rfl (by kernel_rfl) (by kernel_rfl) (by kernel_rfl) (by kernel_rfl) (fun _ _ _ h => h) (by rfl) ?g17y (by assumption) ?g17r
      case g17y => (intro W hS; first | (go_simp; done) | (go_simp; with_reducible rfl))
      simp only [Act.put, List.setIfInBounds_toArray, List.set_cons_zero, List.set_cons_succ]
      refine reg_take (i := 16) (v := ?g18v) rfl (by kernel_rfl) (by kernel_rfl) (by kernel_rfl) (by kernel_rfl) (fun _ _ _ h => h) (by rfl) ?g18y (by assumption) ?g18r
      case g18y => (intro W hS; have fca0 := hS.cell ca0 (fun h => h); have fca1 := hS.cell ca1 (fun h => h); have fca2 := hS.cell ca2 (fun h => h); have fca3 := hS.cell ca3 (fun h => h); have fca4 := hS.cell ca4 (fun h => h); have fca5 := hS.cell ca5 (fun h => h); have fca6 := hS.cell ca6 (fun h => h); have fca7 := hS.cell ca7 (fun h => h); have fca8 := hS.cell ca8 (fun h => h); have fcb0 := hS.cell cb0 (fun h => h); have fcb1 := hS.cell cb1 (fun h => h); have fcb2 := hS.cell cb2 (fun h => h); have fcb3 := hS.cell cb3 (fun h => h); have fcb4 := hS.cell cb4 (fun h => h); have fcb5 := hS.cell cb5 (fun h => h); have fcb6 := hS.cell cb6 (fun h => h); have fcb7 := hS.cell cb7 (fun h => h); have fcb8 := hS.cell cb8 (fun h => h); first | (go_simp; done) | (go_simp; with_reducible rfl))
      simp only [Act.put, List.setIfInBounds_toArray, List.set_cons_zero, List.set_cons_succ]
      refine reg_take (i := 17) (v := ?g19v) rfl (by kernel_rfl) (by kernel_rfl) (by kernel_rfl) (by kernel_rfl) (fun _ _ _ h => h) (by rfl) ?g19y (by assumption) ?g19r
      case g19y => (intro W hS; first | (go_simp; done) | (go_simp; with_reducible rfl))
      simp only [Act.put, List.setIfInBounds_toArray, List.set_cons_zero, List.set_cons_succ]
      refine reg_take (i := 18) (v := ?g20v) rfl (by kernel_rfl) (by kernel_rfl) (by kernel_rfl) (by kernel_rfl) (fun _ _ _ h => h) (by rfl) ?g20y (by assumption) ?g20r
      case g20y => (intro W hS; first | (go_simp; done) | (go_simp; with_reducible rfl))
      simp only [Act.put, List.setIfInBounds_toArray, List.set_cons_zero, List.set_cons_succ]
      refine reg_take (i := 19) (v := ?g21v) rfl (by kernel_rfl) (by kernel_rfl) (by kernel_rfl) (by kernel_rfl) (fun _ _ _ h => h) (by rfl) ?g21y (by assumption) ?g21r
      case g21y => (intro W hS; first | (go_simp; done) | (go_simp; with_reducible rfl))
      simp only [Act.put, List.setIfInBounds_toArray, List.set_cons_zero, List.set_cons_succ]
      refine reg_take (i := 20) (v := ?g22v) rfl (by kernel_rfl) (by kernel_rfl) (by kernel_rfl) (by kernel_rfl) (fun _ _ _ h => h) (by rfl) ?g22y (by assumption) ?g22r
      case g22y => (intro W hS; first | (go_simp; done) | (go_simp; with_reducible rfl))
      simp only [Act.put, List.setIfInBounds_toArray, List.set_cons_zero, List.set_cons_succ]
      refine reg_take (i := 21) (v := ?g23v) rfl (by kernel_rfl) (by kernel_rfl) (by kernel_rfl) (by kernel_rfl) (fun _ _ _ h => h) (by rfl) ?g23y (by assumption) ?g23r
      case g23y => (intro W hS; have fca0 := hS.cell ca0 (fun h => h); have fca1 := hS.cell ca1 (fun h => h); have fca2 := hS.cell ca2 (fun h => h); have fca3 := hS.cell ca3 (fun h => h); have fca4 := hS.cell ca4 (fun h => h); have fca5 := hS.cell ca5 (fun h => h); have fca6 := hS.cell ca6 (fun h => h); have fca7 := hS.cell ca7 (fun h => h); have fca8 := hS.cell ca8 (fun h => h); have fcb0 := hS.cell cb0 (fun h => h); have fcb1 := hS.cell cb1 (fun h => h); have fcb2 := hS.cell cb2 (fun h => h); have fcb3 := hS.cell cb3 (fun h => h); have fcb4 := hS.cell cb4 (fun h => h); have fcb5 := hS.cell cb5 (fun h => h); have fcb6 := hS.cell cb6 (fun h => h); have fcb7 := hS.cell cb7 (fun h => h); have fcb8 := hS.cell cb8 (fun h => h); first | (go_simp; done) | (go_simp; with_reducible rfl))
      simp only [Act.put, List.setIfInBounds_toArray, List.set_cons_zero, List.set_cons_succ]
      refine reg_one (i := 22) (by kernel_rfl) ?_
      refine op_call (i := 22) (#[.agg #[.int .i64 ka, .int .i64 ia, .int .i64 na, .int .i64 la, .bool pa, xpa, xta, .string xna], .agg #[.int .i64 kb, .int .i64 ib, .int .i64 nb, .int .i64 lb, .bool pb, xpb, xtb, .string xnb]]) rfl (by rfl) (enters_of Tryd.func24 (by kernel_rfl) rfl) (by first | (simp [Act.eval]; done) | rfl | (simp only [List.map_toArray, List.map_cons, List.map_nil, Act.eval]; rfl) | (simp [Act.eval]; trace_state; done)) ?_
      refine (HSM.out _ hSc).mono ?_
      rintro e W6 ⟨rfl, hb6⟩
      have hSc := hSc.trans (Chg.of_below0 (S := fun _ => False) hb6) (S'' := fun _ => False) (fun _ _ h => h) (fun _ _ h => h)
      rw [HR.out, rqEq_refl]
      clear hb6
      refine ⟨_, rfl, hSc, ?_⟩
      simp only [Act.put, List.setIfInBounds_toArray, List.set_cons_zero, List.set_cons_succ]
      refine reg_take (i := 23) (v := ?g24v) rfl (by kernel_rfl) (by kernel_rfl) (by kernel_rfl) (by kernel_rfl) (fun _ _ _ h => h) (by rfl) ?g24y (by assumption) ?g24r
      case g24y => (intro W hS; first | (go_simp; done) | (go_simp; with_reducible rfl))
      simp only [Act.put, List.setIfInBounds_toArray, List.set_cons_zero, List.set_cons_succ]
      refine reg_take (i := 24) (v := ?g25v) rfl (by kernel_rfl) (by kernel_rfl) (by kernel_rfl) (by kernel_rfl) (fun _ _ _ h => h) (by rfl) ?g25y (by assumption) ?g25r
      case g25y => (intro W hS; first | (go_simp; done) | (go_simp; with_reducible rfl))
      simp only [Act.put, List.setIfInBounds_toArray, List.set_cons_zero, List.set_cons_succ]
      refine wpAnyG_done (by kernel_rfl) ?_ _
      have HBS := hide (HB.out.trans (hSc.below (n := w.heap.size) HB.out.size (fun _ _ h => h)))
      clear hS0 hSc
      go_wp2_with fail
      go_roundw
      case rel => exact ⟨j + 1, by omega, by go_num, HBS.out⟩
      case measure => simp [intOf]; omega
    · obtain rfl : j = xs.length := by omega
      have d1 : decide ((xs.length : Int) < (xs.length : Int)) = false := decide_eq_false (by omega)
      go_wp2_with fail
      go_ret
      exact ⟨rfl, HB.out⟩
end Go.Proofs.YtjmmmpnpkialjaaDoor
