/- Two commits are compared; a commit is copied. Conditions: none. -/
import Derived.Test.YtjmmmpnpkialjaaDoorCmE
import Derived.Laws.AppendOwnNone
namespace Go.Proofs.YtjmmmpnpkialjaaDoor
open Go.RowKit Go.Shelf

set_option maxHeartbeats 1000000 in
/-- Two lists, element by element. -/
theorem law_SameInts (w : World) (va vb : Value) (xs ys : List (Int)) (ha : Rd w va xs.length (flat (fun x : Int => [Value.int .i64 x]) xs)) (hb : Rd w vb ys.length (flat (fun x : Int => [Value.int .i64 x]) ys)) (hm : xs.length ≤ 140737488351232) (hm' : ys.length ≤ 140737488351232) :
    Calls Tryd.prog 81 #[va, vb] w fun e w' => e = .returned (.bool (eqv intEq xs ys)) ∧ ∃ n, w' = w.drewN n := by
  obtain ⟨ao, ca, rfl, -, ha⟩ := ha.shape
  obtain ⟨bo, cb, rfl, -, hb⟩ := hb.shape
  by_cases hl : xs.length = ys.length
  · have hl1 : ((xs.length : Int) != (ys.length : Int)) = false := by simp [hl]
    have HL := hide hl; clear hl
    have HA := hide ha; clear ha
    have HB := hide hb; clear hb
    go_enter Tryd.func81, Tryd.ntmps81
    go_wp2_with fail
    go_loopw [5] (fun i wr => ∃ k : Nat, k ≤ xs.length ∧ i = .int .i64 k ∧ Hid (∀ j (h : j < xs.length) (h' : j < ys.length), j < k → intEq xs[j] ys[j] = true) ∧ (∃ n, wr = w.drewN n)) (fun i _ => xs.length - (intOf i).toNat)
    case atStart => exact ⟨0, Nat.zero_le _, rfl, (fun j _ _ h => by omega), 0, rfl⟩
    case round =>
      obtain ⟨k, hk, rfl, HE, n, rfl⟩ := hrel
      by_cases hlt : k < xs.length
      · have hlt2 : k < ys.length := HL.out ▸ hlt
        obtain ⟨a, oa, rfl, hcx⟩ := HA.out (by omega)
        obtain ⟨b, ob, rfl, hcy⟩ := HB.out (by omega)
        have hx := hcx k (.int .i64 xs[k]) (by rw [flat_one (fun x : Int => Value.int .i64 x)]; simp [hlt]); have hy := hcy k (.int .i64 ys[k]) (by rw [flat_one (fun x : Int => Value.int .i64 x)]; simp [hlt2])
        have HQ : Hid (∀ b, intEq xs[k] ys[k] = b → intEq xs[k] ys[k] = b) := hide (fun _ h => h)
        have HLT2 := hide hlt2
        cases hq : intEq xs[k] ys[k] with
        | false =>
          have HF := hide (eqv_diff intEq k hlt hlt2 hq)
          have hne := intEq_ne hq; simp only [Bool.not_false] at hne
          clear hcx hcy hq HQ
          generalize xs[k] = x at *
          generalize ys[k] = y at *
          go_wp2_with fail
          refine wp_region_quiet_lit (by kernel_rfl) (by kernel_rfl) ?_
          repeat (go_big_quiet_step (fail))
          refine wpQuiet_nil ?_
          intro _ hw'
          obtain ⟨nq, hw''⟩ := hw'
          subst hw''
          go_wp2_with fail
          go_ret
          exact ⟨ret_bool HF.out.symm, n + nq, by simp⟩
        | true =>
          have HT := hide (show ∀ j (h : j < xs.length) (h' : j < ys.length), j < k + 1 → intEq xs[j] ys[j] = true from fun j h h' hj => by
            by_cases e : j = k
            · subst e; exact hq
            · exact HE.out j h h' (by omega))
          have hne := intEq_ne hq; simp only [Bool.not_true] at hne
          clear hcx hcy hq HQ
          generalize xs[k] = x at *
          generalize ys[k] = y at *
          go_wp2_with fail
          refine wp_region_quiet_lit (by kernel_rfl) (by kernel_rfl) ?_
          repeat (go_big_quiet_step (fail))
          refine wpQuiet_nil ?_
          intro _ hw'
          obtain ⟨nq, hw''⟩ := hw'
          subst hw''
          go_wp2_with fail
          go_roundw
          case rel => exact ⟨k + 1, by omega, by go_num, HT, n + nq, by simp⟩
          case measure => simp [intOf]; omega
      · obtain rfl : k = xs.length := by omega
        have HF := hide (eqv_all intEq HL.out (fun j h h' => HE.out j h h' h))
        clear HE
        go_wp2_with fail
        go_ret
        exact ⟨ret_bool HF.out.symm, n, rfl⟩
  · have hl1 : ((xs.length : Int) != (ys.length : Int)) = true := by simp; omega
    have HL := hide (eqv_len intEq hl); clear hl
    clear ha hb
    go_enter Tryd.func81, Tryd.ntmps81
    go_wp2_with fail
    go_ret
    exact ⟨ret_bool HL.out.symm, 0, rfl⟩
set_option maxHeartbeats 1000000 in
/-- Two lists, element by element. -/
theorem law_SameFiles (w : World) (va vb : Value) (xs ys : List (Fl)) (ha : Rd w va xs.length (flat (fl_enc) xs)) (hb : Rd w vb ys.length (flat (fl_enc) ys)) (hm : xs.length ≤ 140737488351232) (hm' : ys.length ≤ 140737488351232) :
    Calls Tryd.prog 82 #[va, vb] w fun e w' => e = .returned (.bool (eqv flEq xs ys)) ∧ ∃ n, w' = w.drewN n := by
  obtain ⟨ao, ca, rfl, -, ha⟩ := ha.shape
  obtain ⟨bo, cb, rfl, -, hb⟩ := hb.shape
  by_cases hl : xs.length = ys.length
  · have hl1 : ((xs.length : Int) != (ys.length : Int)) = false := by simp [hl]
    have HL := hide hl; clear hl
    have HA := hide ha; clear ha
    have HB := hide hb; clear hb
    go_enter Tryd.func82, Tryd.ntmps82
    go_wp2_with fail
    go_loopw [5] (fun i wr => ∃ k : Nat, k ≤ xs.length ∧ i = .int .i64 k ∧ Hid (∀ j (h : j < xs.length) (h' : j < ys.length), j < k → flEq xs[j] ys[j] = true) ∧ (∃ n, wr = w.drewN n)) (fun i _ => xs.length - (intOf i).toNat)
    case atStart => exact ⟨0, Nat.zero_le _, rfl, (fun j _ _ h => by omega), 0, rfl⟩
    case round =>
      obtain ⟨k, hk, rfl, HE, n, rfl⟩ := hrel
      by_cases hlt : k < xs.length
      · have hlt2 : k < ys.length := HL.out ▸ hlt
        obtain ⟨a, oa, rfl, hcx⟩ := HA.out (by omega)
        obtain ⟨b, ob, rfl, hcy⟩ := HB.out (by omega)
        obtain ⟨hx0, hx1⟩ := fl_cells w a oa xs hcx k hlt; obtain ⟨hy0, hy1⟩ := fl_cells w b ob ys hcy k hlt2
        have HQ : Hid (∀ b, flEq xs[k] ys[k] = b → flEq xs[k] ys[k] = b) := hide (fun _ h => h)
        have HLT2 := hide hlt2
        cases hq : flEq xs[k] ys[k] with
        | false =>
          have HF := hide (eqv_diff flEq k hlt hlt2 hq)
          have hne := fl_neq' hq; simp only [Bool.not_false] at hne
          clear hcx hcy hq HQ
          generalize xs[k] = x at *
          generalize ys[k] = y at *
          go_wp2_with fail
          refine wp_region_quiet_lit (by kernel_rfl) (by kernel_rfl) ?_
          repeat (go_big_quiet_step (fail))
          refine wpQuiet_nil ?_
          intro _ hw'
          obtain ⟨nq, hw''⟩ := hw'
          subst hw''
          go_wp2_with fail
          go_ret
          exact ⟨ret_bool HF.out.symm, n + nq, by simp⟩
        | true =>
          have HT := hide (show ∀ j (h : j < xs.length) (h' : j < ys.length), j < k + 1 → flEq xs[j] ys[j] = true from fun j h h' hj => by
            by_cases e : j = k
            · subst e; exact hq
            · exact HE.out j h h' (by omega))
          have hne := fl_neq' hq; simp only [Bool.not_true] at hne
          clear hcx hcy hq HQ
          generalize xs[k] = x at *
          generalize ys[k] = y at *
          go_wp2_with fail
          refine wp_region_quiet_lit (by kernel_rfl) (by kernel_rfl) ?_
          repeat (go_big_quiet_step (fail))
          refine wpQuiet_nil ?_
          intro _ hw'
          obtain ⟨nq, hw''⟩ := hw'
          subst hw''
          go_wp2_with fail
          go_roundw
          case rel => exact ⟨k + 1, by omega, by go_num, HT, n + nq, by simp⟩
          case measure => simp [intOf]; omega
      · obtain rfl : k = xs.length := by omega
        have HF := hide (eqv_all flEq HL.out (fun j h h' => HE.out j h h' h))
        clear HE
        go_wp2_with fail
        go_ret
        exact ⟨ret_bool HF.out.symm, n, rfl⟩
  · have hl1 : ((xs.length : Int) != (ys.length : Int)) = true := by simp; omega
    have HL := hide (eqv_len flEq hl); clear hl
    clear ha hb
    go_enter Tryd.func82, Tryd.ntmps82
    go_wp2_with fail
    go_ret
    exact ⟨ret_bool HL.out.symm, 0, rfl⟩
theorem tree_Same (w : World) (va vb : Value) (xs ys : List Fl) (ha : Rd w va xs.length (flat fl_enc xs)) (hb : Rd w vb ys.length (flat fl_enc ys)) (hm : xs.length ≤ 140737488351232) (hm' : ys.length ≤ 140737488351232) :
    Calls Tryd.prog 52 #[va, vb] w fun e w' => e = .returned (.bool (eqv flEq xs ys)) ∧ ∃ n, w' = w.drewN n := by
  have HC := hide (fl_equal w va vb xs ys ha hb hm hm')
  clear ha hb hm hm'
  go_enter Tryd.func52, Tryd.ntmps52
  go_wp2_with fail
  refine HC.out.mono ?_
  rintro e w1 ⟨rfl, n, rfl⟩
  go_wp2_with fail
  go_ret
  exact ⟨rfl, n, rfl⟩

/-- A commit; a commit with the values that stand for its lists. -/
structure Cm where
  parents : List Int
  tree : List Fl
  note : ByteArray
structure CmV where
  c : Cm
  vp : Value
  vt : Value
def int_enc (x : Int) : List Value := [Value.int .i64 x]
theorem int_len (x : Int) : (int_enc x).length = 1 := rfl
theorem int_one (x : Int) : ∀ u ∈ int_enc x, u.oneCell' = true := by simp [int_enc, Value.oneCell']
theorem flat_int (l : List Int) : flat int_enc l = l.map (Value.int .i64) := flat_one (Value.int .i64) l
def cv_enc (x : CmV) : List Value := [x.vp, x.vt, .string x.c.note]
theorem cv_len (x : CmV) : (cv_enc x).length = 3 := rfl
/-- The commit lies in memory so. -/
structure CmAt (w : World) (x : CmV) : Prop where
  ps : Rd w x.vp x.c.parents.length (flat int_enc x.c.parents)
  ts : Rd w x.vt x.c.tree.length (flat fl_enc x.c.tree)
  pb : ∀ b, x.vp.ownBlock = some b → x.c.parents ≠ [] → b < w.heap.size
  tb : ∀ b, x.vt.ownBlock = some b → x.c.tree ≠ [] → b < w.heap.size
theorem Rd.one {w : World} {v : Value} {n : Nat} {cs : List Value} (h : Rd w v n cs) : v.oneCell' = true := by
  obtain ⟨ao, cap, rfl, -⟩ := h.shape
  rfl
theorem CmAt.one {w : World} {x : CmV} (h : CmAt w x) : ∀ u ∈ cv_enc x, u.oneCell' = true := by
  intro u hu
  simp only [cv_enc, List.mem_cons, List.not_mem_nil, or_false] at hu
  rcases hu with rfl | rfl | rfl
  · exact h.ps.one
  · exact h.ts.one
  · rfl
theorem flat_ne {α : Type} {enc : α → List Value} {l : List α} (h : flat enc l ≠ []) : l ≠ [] := by rintro rfl; exact h rfl
theorem CmAt.chg {S : Nat → Prop} {w w' : World} {x : CmV} (h : CmAt w x) (c : Chg S w w') (hp : ∀ b, x.vp.ownBlock = some b → x.c.parents ≠ [] → ¬ S b) (ht : ∀ b, x.vt.ownBlock = some b → x.c.tree ≠ [] → ¬ S b) : CmAt w' x :=
  ⟨h.ps.chg c (fun b hb hn => hp b hb (flat_ne hn)), h.ts.chg c (fun b hb hn => ht b hb (flat_ne hn)), fun b hb hn => Nat.lt_of_lt_of_le (h.pb b hb hn) c.size, fun b hb hn => Nat.lt_of_lt_of_le (h.tb b hb hn) c.size⟩
theorem CmAt.same {w w' : World} {x : CmV} (h : CmAt w x) (c : Chg (fun _ => False) w w') : CmAt w' x := h.chg c (fun _ _ _ h => h) (fun _ _ _ h => h)
def CmV.val (x : CmV) : Value := .agg #[x.vp, x.vt, .string x.c.note]
def cmEq (a b : Cm) : Bool := eqv intEq a.parents b.parents && eqv flEq a.tree b.tree && baEq a.note b.note
theorem cmEq_iff (a b : Cm) : cmEq a b = true ↔ a = b := by
  cases a; cases b
  rw [cmEq, Bool.and_eq_true, Bool.and_eq_true, eqv_iff intEq_iff, eqv_iff flEq_iff, baEq_iff]
  simp [and_assoc]
/-- Small lists. -/
def Few (c : Cm) : Prop := c.parents.length ≤ 1000000 ∧ c.tree.length ≤ 1000000

set_option maxHeartbeats 1000000 in
set_option maxRecDepth 100000 in
theorem law_SameCommit (w : World) (x y : CmV) (hx : CmAt w x) (hy : CmAt w y) (fx : Few x.c) (fy : Few y.c) :
    Calls Tryd.prog 59 #[x.val, y.val] w fun e w' => e = .returned (.bool (cmEq x.c y.c)) ∧ Below w.heap.size w w' := by
  obtain ⟨xc, xp, xt⟩ := x
  obtain ⟨yc, yp, yt⟩ := y
  obtain ⟨xps, xts, xn⟩ := xc
  obtain ⟨yps, yts, yn⟩ := yc
  unfold CmV.val
  obtain ⟨r, hr⟩ : ∃ r, r = cmEq ⟨xps, xts, xn⟩ ⟨yps, yts, yn⟩ := ⟨_, rfl⟩
  have hrr : r = (eqv intEq xps yps && eqv flEq xts yts && (xn.toList == yn.toList)) := hr
  show Calls _ _ _ _ fun e w' => e = .returned (.bool (cmEq ⟨xps, xts, xn⟩ ⟨yps, yts, yn⟩)) ∧ _
  rw [← hr]
  have HX := hide hx
  have HY := hide hy
  have HW2 := hide (((Below.refl w.heap.size w).alloc (Nat.le_refl _) (.cells #[xp, xt, .string xn] 25)).alloc (by simp) (.cells #[yp, yt, .string yn] 25))
  have h1 : xps.length ≤ 1000000 := fx.1
  have h2 : xts.length ≤ 1000000 := fx.2
  have h3 : yps.length ≤ 1000000 := fy.1
  have h4 : yts.length ≤ 1000000 := fy.2
  have HPC := fun W (hW : Below w.heap.size w W) => hide (law_SameInts W xp yp xps yps (HX.out.same (Chg.of_below0 hW)).ps (HY.out.same (Chg.of_below0 hW)).ps (by omega) (by omega))
  have HTC := fun W (hW : Below w.heap.size w W) => hide (law_SameFiles W xt yt xts yts (HX.out.same (Chg.of_below0 hW)).ts (HY.out.same (Chg.of_below0 hW)).ts (by omega) (by omega))
  clear hx hy hr fx fy h1 h2 h3 h4
  generalize eqv intEq xps yps = qp at HPC hrr
  generalize eqv flEq xts yts = qt at HTC hrr
  cases qp <;> cases qt <;> cases hn : (xn.toList == yn.toList)
  · have HR : Hid (r = false) := hide (by rw [hrr, hn]; rfl)
    clear hrr
    go_enter Tryd.func59, Tryd.ntmps59
    go_wp2_with fail
    go_ret
    exact ⟨ret_bool HR.out.symm, HW2.out⟩
  · have HR : Hid (r = false) := hide (by rw [hrr, hn]; rfl)
    clear hrr
    go_enter Tryd.func59, Tryd.ntmps59
    go_wp2_with fail
    refine (HPC _ HW2.out).out.mono ?_
    rintro e W3 ⟨rfl, n3, rfl⟩
    have HW3 := hide (bdrewN HW2.out n3)
    go_wp2_with fail
    go_ret
    exact ⟨ret_bool HR.out.symm, HW3.out⟩
  · have HR : Hid (r = false) := hide (by rw [hrr, hn]; rfl)
    clear hrr
    go_enter Tryd.func59, Tryd.ntmps59
    go_wp2_with fail
    go_ret
    exact ⟨ret_bool HR.out.symm, HW2.out⟩
  · have HR : Hid (r = false) := hide (by rw [hrr, hn]; rfl)
    clear hrr
    go_enter Tryd.func59, Tryd.ntmps59
    go_wp2_with fail
    refine (HPC _ HW2.out).out.mono ?_
    rintro e W3 ⟨rfl, n3, rfl⟩
    have HW3 := hide (bdrewN HW2.out n3)
    go_wp2_with fail
    go_ret
    exact ⟨ret_bool HR.out.symm, HW3.out⟩
  · have HR : Hid (r = false) := hide (by rw [hrr, hn]; rfl)
    clear hrr
    go_enter Tryd.func59, Tryd.ntmps59
    go_wp2_with fail
    go_ret
    exact ⟨ret_bool HR.out.symm, HW2.out⟩
  · have HR : Hid (r = false) := hide (by rw [hrr, hn]; rfl)
    clear hrr
    go_enter Tryd.func59, Tryd.ntmps59
    go_wp2_with fail
    refine (HPC _ HW2.out).out.mono ?_
    rintro e W3 ⟨rfl, n3, rfl⟩
    have HW3 := hide (bdrewN HW2.out n3)
    go_wp2_with fail
    refine (HTC _ HW3.out).out.mono ?_
    rintro e W4 ⟨rfl, n4, rfl⟩
    have HW4 := hide (bdrewN HW3.out n4)
    go_wp2_with fail
    go_ret
    exact ⟨ret_bool HR.out.symm, by simpa using HW4.out⟩
  · have HR : Hid (r = false) := hide (by rw [hrr, hn]; rfl)
    clear hrr
    go_enter Tryd.func59, Tryd.ntmps59
    go_wp2_with fail
    go_ret
    exact ⟨ret_bool HR.out.symm, HW2.out⟩
  · have HR : Hid (r = true) := hide (by rw [hrr, hn]; rfl)
    clear hrr
    go_enter Tryd.func59, Tryd.ntmps59
    go_wp2_with fail
    refine (HPC _ HW2.out).out.mono ?_
    rintro e W3 ⟨rfl, n3, rfl⟩
    have HW3 := hide (bdrewN HW2.out n3)
    go_wp2_with fail
    refine (HTC _ HW3.out).out.mono ?_
    rintro e W4 ⟨rfl, n4, rfl⟩
    have HW4 := hide (bdrewN HW3.out n4)
    go_wp2_with fail
    go_ret
    exact ⟨ret_bool HR.out.symm, by simpa using HW4.out⟩
end Go.Proofs.YtjmmmpnpkialjaaDoor
