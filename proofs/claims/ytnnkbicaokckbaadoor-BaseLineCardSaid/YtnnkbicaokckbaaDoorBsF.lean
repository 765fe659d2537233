/- slices.Reverse, seq.Filter at ints. Conditions: none. -/
import Derived.Test.YtnnkbicaokckbaaDoorBsM
namespace Go.Proofs.YtnnkbicaokckbaaDoor
open Go.RowKit Go.Shelf
attribute [local go_sem] Oper.semAt_some

/-- The first k and the last k have changed places. -/
def rvL (xs : List Int) : Nat → List Int
  | 0 => xs
  | k + 1 => ((rvL xs k).set k (xs.getD (xs.length - 1 - k) 0)).set (xs.length - 1 - k) (xs.getD k 0)
theorem rvL_length (xs : List Int) : ∀ k, (rvL xs k).length = xs.length
  | 0 => rfl
  | k + 1 => by rw [rvL, List.length_set, List.length_set, rvL_length xs k]
theorem getD_set' (l : List Int) (i j : Nat) (v : Int) (hi : i < l.length) : (l.set i v).getD j 0 = if i = j then v else l.getD j 0 := by
  rw [List.getD_eq_getElem?_getD, List.getElem?_set]
  by_cases e : i = j
  · rw [if_pos e, if_pos e, if_pos hi]; rfl
  · rw [if_neg e, if_neg e, ← List.getD_eq_getElem?_getD]
theorem rvL_get (xs : List Int) : ∀ k, 2 * k ≤ xs.length → ∀ j, j < xs.length → (rvL xs k).getD j 0 = if j < k ∨ xs.length - 1 - j < k then xs.getD (xs.length - 1 - j) 0 else xs.getD j 0
  | 0, _, j, hj => by rw [if_neg (by omega)]; rfl
  | k + 1, hk, j, hj => by
    rw [rvL, getD_set' _ _ _ _ (by rw [List.length_set, rvL_length]; omega), getD_set' _ _ _ _ (by rw [rvL_length]; omega), rvL_get xs k (by omega) j hj]
    by_cases h1 : xs.length - 1 - k = j
    · rw [if_pos h1, if_pos (by omega), show xs.length - 1 - j = k by omega]
    · rw [if_neg h1]
      by_cases h2 : k = j
      · rw [if_pos h2, if_pos (by omega), h2]
      · rw [if_neg h2]
        by_cases h3 : j < k ∨ xs.length - 1 - j < k
        · rw [if_pos h3, if_pos (by omega)]
        · rw [if_neg h3, if_neg (by omega)]
theorem rvL_end (xs : List Int) {k : Nat} (h1 : 2 * k ≤ xs.length) (h2 : xs.length ≤ 2 * k + 1) : rvL xs k = xs.reverse := by
  apply List.ext_getElem
  · rw [rvL_length, List.length_reverse]
  · intro j h3 h4
    have hj : j < xs.length := by rw [rvL_length] at h3; exact h3
    have := rvL_get xs k h1 j hj
    rw [List.getD_eq_getElem?_getD, List.getElem?_eq_getElem h3] at this
    rw [List.getElem_reverse]
    have e : ∀ i (h : i < xs.length), xs.getD i 0 = xs[i] := fun i h => by rw [List.getD_eq_getElem?_getD, List.getElem?_eq_getElem h]; rfl
    rw [e _ (by omega), e _ hj] at this
    have h5 : (rvL xs k)[j] = if j < k ∨ xs.length - 1 - j < k then xs[xs.length - 1 - j] else xs[j] := this
    rw [h5]
    split
    · rfl
    · have : xs.length - 1 - j = j := by omega
      simp only [this]
set_option maxRecDepth 100000 in
set_option maxHeartbeats 4000000 in
theorem reverse_ok {base : Nat} (w : World) (v : Value) (xs : List Int) (h : w.ownsRow base 3 1 v xs.length (xs.map (Value.int .i64))) (hm : xs.length ≤ 1000000) :
    Calls Tryd.prog 83 #[v] w fun e w' => (∃ u, e = .returned u) ∧ w'.ownsRow base 3 1 v xs.length (xs.reverse.map (Value.int .i64)) ∧ Chg (fun k => v.ownBlock = some k) w w' := by
  obtain ⟨ao, cap, rfl⟩ := ownsRow_shape h
  have HO := hide h
  have hwn : IntKind.i64.wrap ((xs.length : Int) - 1) = (xs.length : Int) - 1 := IntWalk.i64_in _ (by omega)
  clear h
  go_enter Tryd.func83, Tryd.ntmps83
  go_wp2_with fail
  go_loopw [2, 3] (fun i j wr => ∃ k : Nat, 2 * k ≤ xs.length ∧ i = .int .i64 k ∧ j = .int .i64 ((xs.length : Int) - 1 - k) ∧ Hid (wr.ownsRow base 3 1 (.slice ao xs.length cap) xs.length ((rvL xs k).map (Value.int .i64))) ∧ Hid (Chg (fun k => (Value.slice ao xs.length cap).ownBlock = some k) w wr)) (fun i _ _ => xs.length - (intOf i).toNat)
  case atStart => exact ⟨0, by omega, rfl, by show Value.int .i64 _ = Value.int .i64 _; congr 1; omega, HO.out, Chg.refl _ _⟩
  case round =>
    obtain ⟨k, hk, rfl, rfl, HR, HC⟩ := hrel
    obtain ⟨wo, rfl⟩ : ∃ wo : World, wo = wr := ⟨_, rfl⟩
    by_cases hlt : 2 * k + 1 < xs.length
    · obtain ⟨m, hmm⟩ : ∃ m : Nat, m = xs.length - 1 - k := ⟨_, rfl⟩
      have hme : (xs.length : Int) - 1 - (k : Int) = (m : Int) := by omega
      have hkm : k < m := by omega
      have hml : m < xs.length := by omega
      have hrl := rvL_length xs k
      rcases HR.out.2 with ⟨e, _⟩ | ⟨g, cap', cur, e, hbg, hgg, hnc, hcm, hcs, ht⟩
      · exfalso; injection e with _ e2; omega
      · cases e
        have hce : ∀ i, i < xs.length → wo.cell? ⟨g, i, none⟩ = some (.int .i64 ((rvL xs k).getD i 0)) := fun i hi => by
          have := (Rd.of_owns HR.out).add i (.int .i64 ((rvL xs k).getD i 0)) (by rw [List.getElem?_map, List.getElem?_eq_getElem (by omega), List.getD_eq_getElem?_getD, List.getElem?_eq_getElem (by omega)]; rfl)
          rw [Addr.add_lit, Nat.zero_add] at this
          exact this
        have c1 := hce k (by omega)
        have c2 := hce m hml
        have e1 : (rvL xs k).getD k 0 = xs.getD k 0 := by rw [rvL_get xs k hk k (by omega), if_neg (by omega)]
        have e2 : (rvL xs k).getD m 0 = xs.getD m 0 := by rw [rvL_get xs k hk m hml, if_neg (by omega)]
        rw [e1] at c1
        rw [e2] at c2
        have f1 := free_of_heap hgg k
        have hst1 := HR.out.stored k (.int .i64 (xs.getD m 0))
        have hst2 := hst1.1.stored m (.int .i64 (xs.getD k 0))
        have HST : Hid (((wo.setCell ⟨g, k, none⟩ (.int .i64 (xs.getD m 0))).setCell ⟨g, m, none⟩ (.int .i64 (xs.getD k 0))).ownsRow base 3 1 (.slice (some ⟨g, 0, none⟩) xs.length cap) xs.length ((rvL xs (k + 1)).map (Value.int .i64))) := hide (by
          rw [rvL, ← hmm, List.map_set, List.map_set]; exact hst2.1)
        have hh1 := heap_setCell_same hgg (i := k) (.int .i64 (xs.getD m 0))
        have f2 := free_of_heap hh1 m
        obtain ⟨u2, c3⟩ := cell_some hh1 m (by simp; omega)
        have hki : (k : Int) < (xs.length : Int) := by omega
        have hmi : (m : Int) < (xs.length : Int) := by omega
        have hkm' : (k : Int) < (m : Int) := by omega
        have hwm : IntKind.i64.wrap ((m : Int) - 1) = (m : Int) - 1 := IntWalk.i64_in _ (by omega)
        have hwk : IntKind.i64.wrap ((k : Int) + 1) = (k : Int) + 1 := IntWalk.i64_in _ (by omega)
        have d1 : decide ((k : Int) < (m : Int)) = true := decide_eq_true hkm'
        have HME := hide hme
        have HMM := hide hmm
        rw [hme]
        generalize xs.getD m 0 = xm at *
        generalize xs.getD k 0 = xk at *
        clear hce e1 e2 hst1 hst2 hh1 hgg hnc hcm hcs ht hme hmm hrl
        go_wp2_with fail
        refine reg_start (fun _ => True) 16 16 (by rfl) (by kernel_rfl) (trivial) ?_
        intro hS0
        have hSc := hS0
        refine reg_take (i := 0) (v := ?g2v) rfl (by kernel_rfl) (by kernel_rfl) (by kernel_rfl) (by kernel_rfl) (fun _ _ _ h => h) (by rfl) ?g2y (by assumption) ?g2r
        case g2y => (intro W hS; first | (go_simp; done) | (go_simp; with_reducible rfl))
        simp only [Act.put, List.setIfInBounds_toArray, List.set_cons_zero, List.set_cons_succ]
        refine reg_take (i := 1) (v := ?g3v) rfl (by kernel_rfl) (by kernel_rfl) (by kernel_rfl) (by kernel_rfl) (fun _ _ _ h => h) (by rfl) ?g3y (by assumption) ?g3r
        case g3y => (intro W hS; first | (go_simp; done) | (go_simp; with_reducible rfl))
        simp only [Act.put, List.setIfInBounds_toArray, List.set_cons_zero, List.set_cons_succ]
        refine reg_take (i := 2) (v := ?g4v) rfl (by kernel_rfl) (by kernel_rfl) (by kernel_rfl) (by kernel_rfl) (fun _ _ _ h => h) (by rfl) ?g4y (by assumption) ?g4r
        case g4y => (intro W hS; first | (go_simp; done) | (go_simp; with_reducible rfl))
        simp only [Act.put, List.setIfInBounds_toArray, List.set_cons_zero, List.set_cons_succ]
        refine reg_take (i := 3) (v := ?g5v) rfl (by kernel_rfl) (by kernel_rfl) (by kernel_rfl) (by kernel_rfl) (fun _ _ _ h => h) (by rfl) ?g5y (by assumption) ?g5r
        case g5y => (intro W hS; first | (go_simp; done) | (go_simp; with_reducible rfl))
        simp only [Act.put, List.setIfInBounds_toArray, List.set_cons_zero, List.set_cons_succ]
        refine reg_take (i := 4) (v := ?g6v) rfl (by kernel_rfl) (by kernel_rfl) (by kernel_rfl) (by kernel_rfl) (fun _ _ _ h => h) (by rfl) ?g6y (by assumption) ?g6r
        case g6y => (intro W hS; first | (go_simp; done) | (go_simp; with_reducible rfl))
        simp only [Act.put, List.setIfInBounds_toArray, List.set_cons_zero, List.set_cons_succ]
        refine reg_take (i := 5) (v := ?g7v) rfl (by kernel_rfl) (by kernel_rfl) (by kernel_rfl) (by kernel_rfl) (fun _ _ _ h => h) (by rfl) ?g7y (by assumption) ?g7r
        case g7y => (intro W hS; first | (go_simp; done) | (go_simp; with_reducible rfl))
        simp only [Act.put, List.setIfInBounds_toArray, List.set_cons_zero, List.set_cons_succ]
        refine reg_take (i := 6) (v := ?g8v) rfl (by kernel_rfl) (by kernel_rfl) (by kernel_rfl) (by kernel_rfl) (fun _ _ _ h => h) (by rfl) ?g8y (by assumption) ?g8r
        case g8y => (intro W hS; first | (go_simp; done) | (go_simp; with_reducible rfl))
        simp only [Act.put, List.setIfInBounds_toArray, List.set_cons_zero, List.set_cons_succ]
        refine reg_take (i := 8) (v := ?g9v) rfl (by kernel_rfl) (by kernel_rfl) (by kernel_rfl) (by kernel_rfl) (fun _ _ _ h => h) (by rfl) ?g9y (by assumption) ?g9r
        case g9y => (intro W hS; first | (go_simp; done) | (go_simp; with_reducible rfl))
        simp only [Act.put, List.setIfInBounds_toArray, List.set_cons_zero, List.set_cons_succ]
        refine reg_take (i := 9) (v := ?g10v) rfl (by kernel_rfl) (by kernel_rfl) (by kernel_rfl) (by kernel_rfl) (fun _ _ _ h => h) (by rfl) ?g10y (by assumption) ?g10r
        case g10y => (intro W hS; first | (go_simp; done) | (go_simp; with_reducible rfl))
        simp only [Act.put, List.setIfInBounds_toArray, List.set_cons_zero, List.set_cons_succ]
        refine reg_take (i := 10) (v := ?g11v) rfl (by kernel_rfl) (by kernel_rfl) (by kernel_rfl) (by kernel_rfl) (fun _ _ _ h => h) (by rfl) ?g11y (by assumption) ?g11r
        case g11y => (intro W hS; first | (go_simp; done) | (go_simp; with_reducible rfl))
        simp only [Act.put, List.setIfInBounds_toArray, List.set_cons_zero, List.set_cons_succ]
        refine reg_two (i := 7) (j := 11) (by kernel_rfl) ?_ ?_
        · refine op_val (i := 7) rfl (by rfl) (v := .int .i64 xm) (w' := wo.drew) (by go_simp) ?_
          refine ⟨trivial, ?_⟩
          simp only [Act.put, List.setIfInBounds_toArray, List.set_cons_zero, List.set_cons_succ]
          refine reg_one (i := 11) (by kernel_rfl) ?_
          refine op_val (i := 11) rfl (by rfl) (v := .int .i64 xk) (w' := wo.drew) (by go_simp) ?_
          refine ⟨trivial, ?_⟩
          simp only [Act.put, List.setIfInBounds_toArray, List.set_cons_zero, List.set_cons_succ]
          refine reg_take (i := 12) (v := ?g12v) rfl (by kernel_rfl) (by kernel_rfl) (by kernel_rfl) (by kernel_rfl) (fun _ _ _ h => h) (by rfl) ?g12y (by assumption) ?g12r
          case g12y => (intro W hS; first | (go_simp; done) | (go_simp; with_reducible rfl))
          simp only [Act.put, List.setIfInBounds_toArray, List.set_cons_zero, List.set_cons_succ]
          refine reg_one (i := 13) (by kernel_rfl) ?_
          refine op_store (i := 13) rfl (by rfl) (w' := wo.drew.setCell ⟨g, k, none⟩ (.int .i64 xm)) (by go_simp) ?_
          refine ⟨trivial, ?_⟩
          simp only [Act.put]
          refine reg_take (i := 14) (v := ?g13v) rfl (by kernel_rfl) (by kernel_rfl) (by kernel_rfl) (by kernel_rfl) (fun _ _ _ h => h) (by rfl) ?g13y (by assumption) ?g13r
          case g13y => (intro W hS; first | (go_simp; done) | (go_simp; with_reducible rfl))
          simp only [Act.put, List.setIfInBounds_toArray, List.set_cons_zero, List.set_cons_succ]
          refine reg_one (i := 15) (by kernel_rfl) ?_
          refine op_store (i := 15) rfl (by rfl) (w' := (wo.drew.setCell ⟨g, k, none⟩ (.int .i64 xm)).setCell ⟨g, m, none⟩ (.int .i64 xk)) (by go_simp) ?_
          refine ⟨trivial, ?_⟩
          simp only [Act.put]
          refine wpAnyG_done (by kernel_rfl) ?_ _
          go_wp2_with fail
          go_roundw
          case rel => (refine ⟨k + 1, by omega, by go_num, by (show Value.int .i64 _ = Value.int .i64 _; congr 1; have := HME.out; omega), HST.out, ?_⟩; exact ((HC.out.trans (Chg.setCell wo ⟨g, k, none⟩ (.int .i64 xm)) (S'' := fun j => (Value.slice (some ⟨g, 0, none⟩) xs.length cap).ownBlock = some j) (fun _ _ h => h) (fun j _ h => by cases h; rfl)).trans (Chg.setCell _ ⟨g, m, none⟩ (.int .i64 xk)) (S'' := fun j => (Value.slice (some ⟨g, 0, none⟩) xs.length cap).ownBlock = some j) (fun _ _ h => h) (fun j _ h => by cases h; rfl)).trans (Chg.drew (fun _ => False) _) (fun _ _ h => h) (fun _ _ h => h.elim))
          case measure => simp [intOf]; omega
        · refine op_val (i := 11) rfl (by rfl) (v := .int .i64 xk) (w' := wo.drew) (by go_simp) ?_
          refine ⟨trivial, ?_⟩
          simp only [Act.put, List.setIfInBounds_toArray, List.set_cons_zero, List.set_cons_succ]
          refine reg_one (i := 7) (by kernel_rfl) ?_
          refine op_val (i := 7) rfl (by rfl) (v := .int .i64 xm) (w' := wo.drew) (by go_simp) ?_
          refine ⟨trivial, ?_⟩
          simp only [Act.put, List.setIfInBounds_toArray, List.set_cons_zero, List.set_cons_succ]
          refine reg_take (i := 12) (v := ?g14v) rfl (by kernel_rfl) (by kernel_rfl) (by kernel_rfl) (by kernel_rfl) (fun _ _ _ h => h) (by rfl) ?g14y (by assumption) ?g14r
          case g14y => (intro W hS; first | (go_simp; done) | (go_simp; with_reducible rfl))
          simp only [Act.put, List.setIfInBounds_toArray, List.set_cons_zero, List.set_cons_succ]
          refine reg_one (i := 13) (by kernel_rfl) ?_
          refine op_store (i := 13) rfl (by rfl) (w' := wo.drew.setCell ⟨g, k, none⟩ (.int .i64 xm)) (by go_simp) ?_
          refine ⟨trivial, ?_⟩
          simp only [Act.put]
          refine reg_take (i := 14) (v := ?g15v) rfl (by kernel_rfl) (by kernel_rfl) (by kernel_rfl) (by kernel_rfl) (fun _ _ _ h => h) (by rfl) ?g15y (by assumption) ?g15r
          case g15y => (intro W hS; first | (go_simp; done) | (go_simp; with_reducible rfl))
          simp only [Act.put, List.setIfInBounds_toArray, List.set_cons_zero, List.set_cons_succ]
          refine reg_one (i := 15) (by kernel_rfl) ?_
          refine op_store (i := 15) rfl (by rfl) (w' := (wo.drew.setCell ⟨g, k, none⟩ (.int .i64 xm)).setCell ⟨g, m, none⟩ (.int .i64 xk)) (by go_simp) ?_
          refine ⟨trivial, ?_⟩
          simp only [Act.put]
          refine wpAnyG_done (by kernel_rfl) ?_ _
          go_wp2_with fail
          go_roundw
          case rel => (refine ⟨k + 1, by omega, by go_num, by (show Value.int .i64 _ = Value.int .i64 _; congr 1; have := HME.out; omega), HST.out, ?_⟩; exact ((HC.out.trans (Chg.setCell wo ⟨g, k, none⟩ (.int .i64 xm)) (S'' := fun j => (Value.slice (some ⟨g, 0, none⟩) xs.length cap).ownBlock = some j) (fun _ _ h => h) (fun j _ h => by cases h; rfl)).trans (Chg.setCell _ ⟨g, m, none⟩ (.int .i64 xk)) (S'' := fun j => (Value.slice (some ⟨g, 0, none⟩) xs.length cap).ownBlock = some j) (fun _ _ h => h) (fun j _ h => by cases h; rfl)).trans (Chg.drew (fun _ => False) _) (fun _ _ h => h) (fun _ _ h => h.elim))
          case measure => simp [intOf]; omega
    · have HE := hide (rvL_end xs hk (by omega))
      have d1 : decide ((k : Int) < (xs.length : Int) - 1 - (k : Int)) = false := decide_eq_false (by omega)
      go_wp2_with fail
      go_end0
      exact ⟨⟨_, rfl⟩, by rw [← HE.out]; exact HR.out, HC.out⟩
end Go.Proofs.YtnnkbicaokckbaaDoor
