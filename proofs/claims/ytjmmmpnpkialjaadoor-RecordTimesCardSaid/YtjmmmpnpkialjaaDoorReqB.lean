/- request.number, field, bare, odd, bit. request.May. Conditions: the bytes read as said. -/
import Derived.Test.YtjmmmpnpkialjaaDoorRqL
import Derived.Test.YtjmmmpnpkialjaaDoorCmS
import Derived.Test.YtjmmmpnpkialjaaDoorCmO
namespace Go.Proofs.YtjmmmpnpkialjaaDoor
open Go.RowKit Go.Shelf
attribute [local go_sem] Oper.semAt_some

/-- A request, as it lies in cells. -/
structure RqV where
  kind : Int
  id : Int
  number : Int
  lane : Int
  pass : Bool
  x : CmV
def RqV.r (q : RqV) : Rq := ⟨q.kind, q.id, q.number, q.lane, q.pass, q.x.c⟩
def RqV.val (q : RqV) : Value := .agg #[.int .i64 q.kind, .int .i64 q.id, .int .i64 q.number, .int .i64 q.lane, .bool q.pass, q.x.vp, q.x.vt, .string q.x.c.note]

theorem number_ok (w : World) (n : Int) : Calls Tryd.prog 42 #[.int .i64 n] w fun e w' => e = .returned (.bool (okId n)) ∧ w' = w := by
  by_cases h1 : 1 ≤ n
  · have d1 : decide (n ≥ 1) = true := decide_eq_true h1
    have hr : okId n = decide (n ≤ 2147483647) := by simp [okId, h1]
    go_enter Tryd.func42, Tryd.ntmps42
    go_wp2_with fail
    go_ret
    exact ⟨ret_bool hr.symm, rfl⟩
  · have d1 : decide (n ≥ 1) = false := decide_eq_false h1
    have hr : okId n = false := by simp [okId, h1]
    have HR := hide hr
    clear hr
    go_enter Tryd.func42, Tryd.ntmps42
    go_wp2_with fail
    go_ret
    exact ⟨ret_bool HR.out.symm, rfl⟩
theorem field_ok (w : World) (p : Bool) (n : Int) : Calls Tryd.prog 43 #[.bool p, .int .i64 n] w fun e w' => e = .returned (.bool (fieldB p n)) ∧ w' = w := by
  cases p with
  | true =>
    cases hq : okId n with
    | true =>
      have hr : fieldB true n = true := by simp [fieldB, hq]
      have hc := number_ok w n
      rw [hq] at hc
      go_enter Tryd.func43, Tryd.ntmps43
      go_wp2_with fail
      refine hc.mono ?_
      rintro e w1 ⟨rfl, rfl⟩
      go_wp2_with fail
      go_ret
      exact ⟨ret_bool hr.symm, rfl⟩
    | false =>
      have hr : fieldB true n = false := by simp [fieldB, hq]
      have hc := number_ok w n
      rw [hq] at hc
      go_enter Tryd.func43, Tryd.ntmps43
      go_wp2_with fail
      refine hc.mono ?_
      rintro e w1 ⟨rfl, rfl⟩
      go_wp2_with fail
      go_ret
      exact ⟨ret_bool hr.symm, rfl⟩
  | false =>
    have hr : fieldB false n = (n == 0) := by simp [fieldB]; rfl
    go_enter Tryd.func43, Tryd.ntmps43
    go_wp2_with fail
    go_ret
    exact ⟨ret_bool hr.symm, rfl⟩
theorem odd_ok (w : World) (n : Int) : Calls Tryd.prog 47 #[.int .i64 n] w fun e w' => e = .returned (.bool (!okId n)) ∧ w' = w := by
  have hc := number_ok w n
  go_enter Tryd.func47, Tryd.ntmps47
  go_wp2_with fail
  refine hc.mono ?_
  rintro e w1 ⟨rfl, rfl⟩
  go_wp2_with fail
  go_ret
  exact ⟨rfl, rfl⟩
theorem bit_ok (w : World) (b : Bool) : Calls Tryd.prog 34 #[.bool b] w fun e w' => e = .returned (.int .i64 (bitN b)) ∧ w' = w := by
  cases b with
  | true =>
    go_enter Tryd.func34, Tryd.ntmps34
    go_wp2_with fail
    go_ret
    exact ⟨rfl, rfl⟩
  | false =>
    go_enter Tryd.func34, Tryd.ntmps34
    go_wp2_with fail
    go_ret
    exact ⟨rfl, rfl⟩
theorem bare_ok (w : World) (x : CmV) (hx : CmAt w x) (fx : Few x.c) (hn : x.c.note.size ≤ 140737488351232) : Calls Tryd.prog 44 #[x.val] w fun e w' => e = .returned (.bool (zeroC x.c)) ∧ Below w.heap.size w w' := by
  obtain ⟨⟨xps, xts, xn⟩, xp, xt⟩ := x
  unfold CmV.val
  have hxp : Rd w xp xps.length (flat int_enc xps) := hx.ps
  have hxt : Rd w xt xts.length (flat fl_enc xts) := hx.ts
  clear hx
  obtain ⟨po, pc, rfl, -, -⟩ := hxp.shape
  obtain ⟨to, tc, rfl, -, -⟩ := hxt.shape
  have h1 : xps.length ≤ 1000000 := fx.1
  have h2 : xts.length ≤ 1000000 := fx.2
  simp only at hn
  have e1 : IntKind.i64.wrap ((xps.length : Int) + xts.length) = (xps.length : Int) + xts.length := IntWalk.i64_in _ (by omega)
  have hr : zeroC ⟨xps, xts, xn⟩ = (((xps.length : Int) + xts.length + xn.size) == 0) := by
    simp only [zeroC]
    by_cases g1 : xps.length = 0
    · by_cases g2 : xts.length = 0
      · by_cases g3 : xn.size = 0
        · simp [g1, g2, g3]
        · simp [g1, g2, g3]
      · have : ¬ ((xps.length : Int) + xts.length + xn.size = 0) := by omega
        simp [g2, this]
    · have : ¬ ((xps.length : Int) + xts.length + xn.size = 0) := by omega
      simp [g1, this]
  have hb : Below w.heap.size w (w.alloc (.cells #[.slice po xps.length pc, .slice to xts.length tc, .string xn] 25)) := (Below.refl _ w).alloc (Nat.le_refl _) _
  show Calls _ _ _ _ fun e w' => e = .returned (.bool (zeroC ⟨xps, xts, xn⟩)) ∧ _
  have HB := hide hb
  clear hxp hxt fx hb
  go_enter Tryd.func44, Tryd.ntmps44
  go_wp2_with fail
  go_ret
  exact ⟨ret_bool hr.symm, HB.out⟩
end Go.Proofs.YtjmmmpnpkialjaaDoor
namespace Go.Proofs.YtjmmmpnpkialjaaDoor
open Go.RowKit Go.Shelf
attribute [local go_sem] Oper.semAt_some

set_option maxHeartbeats 4000000 in
set_option maxRecDepth 100000 in
theorem request_May (w : World) (q : RqV) (hx : CmAt w q.x) (fx : Few q.x.c) (hn : q.x.c.note.size ≤ 140737488351232) (hM : Mx w) :
    Calls Tryd.prog 16 #[q.val] w fun e w' => e = .returned (.bool (mayRq q.r)) ∧ Below w.heap.size w w' := by
  obtain ⟨k, i, n, l, ps, x⟩ := q
  unfold RqV.val
  show Calls _ _ _ _ fun e w' => e = .returned (.bool (mayRq ⟨k, i, n, l, ps, x.c⟩)) ∧ _
  obtain ⟨r, hr⟩ : ∃ r, r = mayRq ⟨k, i, n, l, ps, x.c⟩ := ⟨_, rfl⟩
  rw [← hr]
  rw [mayRq_eq] at hr
  simp only [head3, laneB, cmB] at hr
  have HR := hide hr
  clear hr
  simp only at hx fx hn
  obtain ⟨⟨xps, xts, xn⟩, xp, xt⟩ := x
  simp only at fx hn HR ⊢
  have hBR := fun W (c : Below w.heap.size w W) => hide (bare_ok W ⟨⟨xps, xts, xn⟩, xp, xt⟩ (hx.same (Chg.of_below0 c)) fx hn)
  have hMA := fun W (c : Below w.heap.size w W) => hide (repo_May W ⟨⟨xps, xts, xn⟩, xp, xt⟩ (hx.same (Chg.of_below0 c)) fx (hM.below c hM.pos))
  have hAN := fun W (c : Below w.heap.size w W) => hide (int_containsFunc W xp xps (hx.same (Chg.of_below0 c)).ps (fun b hb hn => (hx.same (Chg.of_below0 c)).pb b hb hn) (by have h := fx.1; simp only at h; omega) 47 #[] (fun n => !okId n) (fun _ => True) (by intro args w; rfl)
    (fun W x _ _ => by
      refine (odd_ok W x).mono ?_
      rintro e w' ⟨rfl, rfl⟩
      exact ⟨rfl, Below.refl _ _⟩) (fun _ _ _ _ => trivial) trivial)
  unfold CmV.val at hBR hMA
  simp only at hBR hMA
  have HB := hide ((Below.refl _ w).alloc (Nat.le_refl _) (Obj.cells #[.int .i64 k, .int .i64 i, .int .i64 n, .int .i64 l, .bool ps, xp, xt, .string xn] 27))
  have h1 := heap_alloc_new w (.cells #[.int .i64 k, .int .i64 i, .int .i64 n, .int .i64 l, .bool ps, xp, xt, .string xn] 27)
  clear hx fx hn hM
  generalize hw1 : w.alloc (.cells #[.int .i64 k, .int .i64 i, .int .i64 n, .int .i64 l, .bool ps, xp, xt, .string xn] 27) = w1 at HB h1
  have HW1 := hide hw1
  clear hw1
  go_enter Tryd.func16, Tryd.ntmps16
  go_wp2_with fail
  rw [HW1.out]
  have c0 := cell_of_heap h1 0
  have c1 := cell_of_heap h1 1
  have c2 := cell_of_heap h1 2
  have c3 := cell_of_heap h1 3
  have c4 := cell_of_heap h1 4
  have c5 := cell_of_heap h1 5
  have c6 := cell_of_heap h1 6
  have c7 := cell_of_heap h1 7
  go_quiet (fail)
  have hb := bdrewN (Below.refl w1.heap.size w1) nq
  have HB := hide (HB.out.trans (hb.mono HB.out.size))
  have c0 := (Chg.of_below0 (S := fun _ => False) hb).cell c0 (fun h => h)
  have c1 := (Chg.of_below0 (S := fun _ => False) hb).cell c1 (fun h => h)
  have c2 := (Chg.of_below0 (S := fun _ => False) hb).cell c2 (fun h => h)
  have c3 := (Chg.of_below0 (S := fun _ => False) hb).cell c3 (fun h => h)
  have c4 := (Chg.of_below0 (S := fun _ => False) hb).cell c4 (fun h => h)
  have c5 := (Chg.of_below0 (S := fun _ => False) hb).cell c5 (fun h => h)
  have c6 := (Chg.of_below0 (S := fun _ => False) hb).cell c6 (fun h => h)
  have c7 := (Chg.of_below0 (S := fun _ => False) hb).cell c7 (fun h => h)
  generalize w1.drewN nq = w2 at HB c0 c1 c2 c3 c4 c5 c6 c7 ⊢
  clear hb
  by_cases a1 : k < 1
  · have d1 : decide (k < 1) = true := decide_eq_true a1
    have e1 : decide (1 ≤ k) = false := decide_eq_false (by omega)
    go_wp2_with fail
    go_ret
    exact ⟨ret_bool (by rw [HR.out, e1]; rfl), HB.out⟩
  have d1 : decide (k < 1) = false := decide_eq_false a1
  have e1 : decide (1 ≤ k) = true := decide_eq_true (by omega)
  by_cases a2 : k > 6
  · have d2 : decide (k > 6) = true := decide_eq_true a2
    have e2 : decide (k ≤ 6) = false := decide_eq_false (by omega)
    go_wp2_with fail
    go_ret
    exact ⟨ret_bool (by rw [HR.out, e2, e1]; rfl), HB.out⟩
  have d2 : decide (k > 6) = false := decide_eq_false a2
  have e2 : decide (k ≤ 6) = true := decide_eq_true (by omega)
  go_wp2_with fail
  refine (number_ok _ i).mono ?_
  rintro e w2 ⟨rfl, rfl⟩
  cases h3 : okId i with
  | false =>
    go_wp2_with fail
    go_ret
    exact ⟨ret_bool (by rw [HR.out, h3, e1, e2]; rfl), HB.out⟩
  | true =>
  go_wp2_with fail
  refine (field_ok _ _ n).mono ?_
  rintro e w2 ⟨rfl, rfl⟩
  have hke : (k == 1) = decide (k = 1) := rfl
  cases h4 : fieldB (!(k == 1)) n with
  | false =>
    go_wp2_with fail
    go_ret
    exact ⟨ret_bool (by rw [HR.out, h3, e1, e2, ← hke, h4]; rfl), HB.out⟩
  | true =>
  have HR : Hid (r = ((decide (l = 0) || (decide (k = 2) && decide (0 < l) && decide (l < 4))) && ((zeroC ⟨xps, xts, xn⟩ && !decide (k = 1)) || (decide (k = 1) && mayC ⟨xps, xts, xn⟩ && !(xps.any fun n => !okId n))) && (decide (k = 5) || !ps))) := hide (by rw [HR.out, e1, e2, h3, ← hke, h4]; rfl)
  clear d1 d2 e1 e2 h3 h4 hke
  by_cases k1 : k = 1
  · subst k1
    by_cases l0 : l = 0
    · have z0 : (l == 0) = true := by simp [l0]
      go_wp2_with fail
      refine (hBR _ HB.out).out.mono ?_
      rintro e w3 ⟨rfl, hb⟩
      have HB := hide (HB.out.trans (hb.mono HB.out.size))
      have c0 := (Chg.of_below0 (S := fun _ => False) hb).cell c0 (fun h => h)
      have c1 := (Chg.of_below0 (S := fun _ => False) hb).cell c1 (fun h => h)
      have c2 := (Chg.of_below0 (S := fun _ => False) hb).cell c2 (fun h => h)
      have c3 := (Chg.of_below0 (S := fun _ => False) hb).cell c3 (fun h => h)
      have c4 := (Chg.of_below0 (S := fun _ => False) hb).cell c4 (fun h => h)
      have c5 := (Chg.of_below0 (S := fun _ => False) hb).cell c5 (fun h => h)
      have c6 := (Chg.of_below0 (S := fun _ => False) hb).cell c6 (fun h => h)
      have c7 := (Chg.of_below0 (S := fun _ => False) hb).cell c7 (fun h => h)
      clear hb
      generalize zeroC ⟨xps, xts, xn⟩ = z at HR ⊢
      cases z <;> (
        go_wp2_with fail
        refine (hMA _ HB.out).out.mono ?_
        rintro e w4 ⟨rfl, hb⟩
        have HB := hide (HB.out.trans (hb.mono HB.out.size))
        have c0 := (Chg.of_below0 (S := fun _ => False) hb).cell c0 (fun h => h)
        have c1 := (Chg.of_below0 (S := fun _ => False) hb).cell c1 (fun h => h)
        have c2 := (Chg.of_below0 (S := fun _ => False) hb).cell c2 (fun h => h)
        have c3 := (Chg.of_below0 (S := fun _ => False) hb).cell c3 (fun h => h)
        have c4 := (Chg.of_below0 (S := fun _ => False) hb).cell c4 (fun h => h)
        have c5 := (Chg.of_below0 (S := fun _ => False) hb).cell c5 (fun h => h)
        have c6 := (Chg.of_below0 (S := fun _ => False) hb).cell c6 (fun h => h)
        have c7 := (Chg.of_below0 (S := fun _ => False) hb).cell c7 (fun h => h)
        clear hb
        generalize mayC ⟨xps, xts, xn⟩ = y at HR ⊢
        cases y
        · cases ps <;> (go_wp2_with fail; go_ret; exact ⟨ret_bool (by rw [HR.out]; simp [*]), HB.out⟩)
        · go_wp2_with fail
          refine (hAN _ HB.out).out.mono ?_
          rintro e w5 ⟨rfl, hb⟩
          have HB := hide (HB.out.trans (hb.mono HB.out.size))
          have c0 := (Chg.of_below0 (S := fun _ => False) hb).cell c0 (fun h => h)
          have c1 := (Chg.of_below0 (S := fun _ => False) hb).cell c1 (fun h => h)
          have c2 := (Chg.of_below0 (S := fun _ => False) hb).cell c2 (fun h => h)
          have c3 := (Chg.of_below0 (S := fun _ => False) hb).cell c3 (fun h => h)
          have c4 := (Chg.of_below0 (S := fun _ => False) hb).cell c4 (fun h => h)
          have c5 := (Chg.of_below0 (S := fun _ => False) hb).cell c5 (fun h => h)
          have c6 := (Chg.of_below0 (S := fun _ => False) hb).cell c6 (fun h => h)
          have c7 := (Chg.of_below0 (S := fun _ => False) hb).cell c7 (fun h => h)
          clear hb
          generalize (xps.any fun n => !okId n) = u at HR ⊢
          cases u
          · cases ps <;> (go_wp2_with fail; go_ret; exact ⟨ret_bool (by rw [HR.out]; simp [*]), HB.out⟩)
          · cases ps <;> (go_wp2_with fail; go_ret; exact ⟨ret_bool (by rw [HR.out]; simp [*]), HB.out⟩))
    · have z0 : (l == 0) = false := by simp [l0]
      go_wp2_with fail
      refine (hBR _ HB.out).out.mono ?_
      rintro e w3 ⟨rfl, hb⟩
      have HB := hide (HB.out.trans (hb.mono HB.out.size))
      have c0 := (Chg.of_below0 (S := fun _ => False) hb).cell c0 (fun h => h)
      have c1 := (Chg.of_below0 (S := fun _ => False) hb).cell c1 (fun h => h)
      have c2 := (Chg.of_below0 (S := fun _ => False) hb).cell c2 (fun h => h)
      have c3 := (Chg.of_below0 (S := fun _ => False) hb).cell c3 (fun h => h)
      have c4 := (Chg.of_below0 (S := fun _ => False) hb).cell c4 (fun h => h)
      have c5 := (Chg.of_below0 (S := fun _ => False) hb).cell c5 (fun h => h)
      have c6 := (Chg.of_below0 (S := fun _ => False) hb).cell c6 (fun h => h)
      have c7 := (Chg.of_below0 (S := fun _ => False) hb).cell c7 (fun h => h)
      clear hb
      generalize zeroC ⟨xps, xts, xn⟩ = z at HR ⊢
      cases z <;> (
        go_wp2_with fail
        refine (hMA _ HB.out).out.mono ?_
        rintro e w4 ⟨rfl, hb⟩
        have HB := hide (HB.out.trans (hb.mono HB.out.size))
        have c0 := (Chg.of_below0 (S := fun _ => False) hb).cell c0 (fun h => h)
        have c1 := (Chg.of_below0 (S := fun _ => False) hb).cell c1 (fun h => h)
        have c2 := (Chg.of_below0 (S := fun _ => False) hb).cell c2 (fun h => h)
        have c3 := (Chg.of_below0 (S := fun _ => False) hb).cell c3 (fun h => h)
        have c4 := (Chg.of_below0 (S := fun _ => False) hb).cell c4 (fun h => h)
        have c5 := (Chg.of_below0 (S := fun _ => False) hb).cell c5 (fun h => h)
        have c6 := (Chg.of_below0 (S := fun _ => False) hb).cell c6 (fun h => h)
        have c7 := (Chg.of_below0 (S := fun _ => False) hb).cell c7 (fun h => h)
        clear hb
        generalize mayC ⟨xps, xts, xn⟩ = y at HR ⊢
        cases y
        · cases ps <;> (go_wp2_with fail; go_ret; exact ⟨ret_bool (by rw [HR.out]; simp [*]), HB.out⟩)
        · go_wp2_with fail
          refine (hAN _ HB.out).out.mono ?_
          rintro e w5 ⟨rfl, hb⟩
          have HB := hide (HB.out.trans (hb.mono HB.out.size))
          have c0 := (Chg.of_below0 (S := fun _ => False) hb).cell c0 (fun h => h)
          have c1 := (Chg.of_below0 (S := fun _ => False) hb).cell c1 (fun h => h)
          have c2 := (Chg.of_below0 (S := fun _ => False) hb).cell c2 (fun h => h)
          have c3 := (Chg.of_below0 (S := fun _ => False) hb).cell c3 (fun h => h)
          have c4 := (Chg.of_below0 (S := fun _ => False) hb).cell c4 (fun h => h)
          have c5 := (Chg.of_below0 (S := fun _ => False) hb).cell c5 (fun h => h)
          have c6 := (Chg.of_below0 (S := fun _ => False) hb).cell c6 (fun h => h)
          have c7 := (Chg.of_below0 (S := fun _ => False) hb).cell c7 (fun h => h)
          clear hb
          generalize (xps.any fun n => !okId n) = u at HR ⊢
          cases u
          · cases ps <;> (go_wp2_with fail; go_ret; exact ⟨ret_bool (by rw [HR.out]; simp [*]), HB.out⟩)
          · cases ps <;> (go_wp2_with fail; go_ret; exact ⟨ret_bool (by rw [HR.out]; simp [*]), HB.out⟩))
  have z1 : (k == 1) = false := by simp [k1]
  by_cases k2 : k = 2
  · subst k2
    by_cases l0 : l = 0
    · have z0 : (l == 0) = true := by simp [l0]
      go_wp2_with fail
      refine (hBR _ HB.out).out.mono ?_
      rintro e w3 ⟨rfl, hb⟩
      have HB := hide (HB.out.trans (hb.mono HB.out.size))
      have c0 := (Chg.of_below0 (S := fun _ => False) hb).cell c0 (fun h => h)
      have c1 := (Chg.of_below0 (S := fun _ => False) hb).cell c1 (fun h => h)
      have c2 := (Chg.of_below0 (S := fun _ => False) hb).cell c2 (fun h => h)
      have c3 := (Chg.of_below0 (S := fun _ => False) hb).cell c3 (fun h => h)
      have c4 := (Chg.of_below0 (S := fun _ => False) hb).cell c4 (fun h => h)
      have c5 := (Chg.of_below0 (S := fun _ => False) hb).cell c5 (fun h => h)
      have c6 := (Chg.of_below0 (S := fun _ => False) hb).cell c6 (fun h => h)
      have c7 := (Chg.of_below0 (S := fun _ => False) hb).cell c7 (fun h => h)
      clear hb
      generalize zeroC ⟨xps, xts, xn⟩ = z at HR ⊢
      cases z <;> (
        cases ps <;> (go_wp2_with fail; go_ret; exact ⟨ret_bool (by rw [HR.out]; simp [*]), HB.out⟩))
    have z0 : (l == 0) = false := by simp [l0]
    by_cases l1 : 0 < l
    · have z2 : decide (l > 0) = true := decide_eq_true l1
      by_cases l2 : l < 4
      · have z3 : decide (l < 4) = true := decide_eq_true l2
        go_wp2_with fail
        refine (hBR _ HB.out).out.mono ?_
        rintro e w3 ⟨rfl, hb⟩
        have HB := hide (HB.out.trans (hb.mono HB.out.size))
        have c0 := (Chg.of_below0 (S := fun _ => False) hb).cell c0 (fun h => h)
        have c1 := (Chg.of_below0 (S := fun _ => False) hb).cell c1 (fun h => h)
        have c2 := (Chg.of_below0 (S := fun _ => False) hb).cell c2 (fun h => h)
        have c3 := (Chg.of_below0 (S := fun _ => False) hb).cell c3 (fun h => h)
        have c4 := (Chg.of_below0 (S := fun _ => False) hb).cell c4 (fun h => h)
        have c5 := (Chg.of_below0 (S := fun _ => False) hb).cell c5 (fun h => h)
        have c6 := (Chg.of_below0 (S := fun _ => False) hb).cell c6 (fun h => h)
        have c7 := (Chg.of_below0 (S := fun _ => False) hb).cell c7 (fun h => h)
        clear hb
        generalize zeroC ⟨xps, xts, xn⟩ = z at HR ⊢
        cases z <;> (
          cases ps <;> (go_wp2_with fail; go_ret; exact ⟨ret_bool (by rw [HR.out]; simp [*]), HB.out⟩))
      · have z3 : decide (l < 4) = false := decide_eq_false l2
        go_wp2_with fail
        refine (hBR _ HB.out).out.mono ?_
        rintro e w3 ⟨rfl, hb⟩
        have HB := hide (HB.out.trans (hb.mono HB.out.size))
        have c0 := (Chg.of_below0 (S := fun _ => False) hb).cell c0 (fun h => h)
        have c1 := (Chg.of_below0 (S := fun _ => False) hb).cell c1 (fun h => h)
        have c2 := (Chg.of_below0 (S := fun _ => False) hb).cell c2 (fun h => h)
        have c3 := (Chg.of_below0 (S := fun _ => False) hb).cell c3 (fun h => h)
        have c4 := (Chg.of_below0 (S := fun _ => False) hb).cell c4 (fun h => h)
        have c5 := (Chg.of_below0 (S := fun _ => False) hb).cell c5 (fun h => h)
        have c6 := (Chg.of_below0 (S := fun _ => False) hb).cell c6 (fun h => h)
        have c7 := (Chg.of_below0 (S := fun _ => False) hb).cell c7 (fun h => h)
        clear hb
        generalize zeroC ⟨xps, xts, xn⟩ = z at HR ⊢
        cases z <;> (
          cases ps <;> (go_wp2_with fail; go_ret; exact ⟨ret_bool (by rw [HR.out]; simp [*]), HB.out⟩))
    · have z2 : decide (l > 0) = false := decide_eq_false l1
      go_wp2_with fail
      refine (hBR _ HB.out).out.mono ?_
      rintro e w3 ⟨rfl, hb⟩
      have HB := hide (HB.out.trans (hb.mono HB.out.size))
      have c0 := (Chg.of_below0 (S := fun _ => False) hb).cell c0 (fun h => h)
      have c1 := (Chg.of_below0 (S := fun _ => False) hb).cell c1 (fun h => h)
      have c2 := (Chg.of_below0 (S := fun _ => False) hb).cell c2 (fun h => h)
      have c3 := (Chg.of_below0 (S := fun _ => False) hb).cell c3 (fun h => h)
      have c4 := (Chg.of_below0 (S := fun _ => False) hb).cell c4 (fun h => h)
      have c5 := (Chg.of_below0 (S := fun _ => False) hb).cell c5 (fun h => h)
      have c6 := (Chg.of_below0 (S := fun _ => False) hb).cell c6 (fun h => h)
      have c7 := (Chg.of_below0 (S := fun _ => False) hb).cell c7 (fun h => h)
      clear hb
      generalize zeroC ⟨xps, xts, xn⟩ = z at HR ⊢
      cases z <;> (
        cases ps <;> (go_wp2_with fail; go_ret; exact ⟨ret_bool (by rw [HR.out]; simp [*]), HB.out⟩))
  have z2 : (k == 2) = false := by simp [k2]
  by_cases k5 : k = 5
  · have z5 : (k == 5) = true := by simp [k5]
    by_cases l0 : l = 0
    · have z0 : (l == 0) = true := by simp [l0]
      go_wp2_with fail
      refine (hBR _ HB.out).out.mono ?_
      rintro e w3 ⟨rfl, hb⟩
      have HB := hide (HB.out.trans (hb.mono HB.out.size))
      have c0 := (Chg.of_below0 (S := fun _ => False) hb).cell c0 (fun h => h)
      have c1 := (Chg.of_below0 (S := fun _ => False) hb).cell c1 (fun h => h)
      have c2 := (Chg.of_below0 (S := fun _ => False) hb).cell c2 (fun h => h)
      have c3 := (Chg.of_below0 (S := fun _ => False) hb).cell c3 (fun h => h)
      have c4 := (Chg.of_below0 (S := fun _ => False) hb).cell c4 (fun h => h)
      have c5 := (Chg.of_below0 (S := fun _ => False) hb).cell c5 (fun h => h)
      have c6 := (Chg.of_below0 (S := fun _ => False) hb).cell c6 (fun h => h)
      have c7 := (Chg.of_below0 (S := fun _ => False) hb).cell c7 (fun h => h)
      clear hb
      generalize zeroC ⟨xps, xts, xn⟩ = z at HR ⊢
      cases z <;> (
        cases ps <;> (go_wp2_with fail; go_ret; exact ⟨ret_bool (by rw [HR.out]; simp [*]), HB.out⟩))
    · have z0 : (l == 0) = false := by simp [l0]
      go_wp2_with fail
      refine (hBR _ HB.out).out.mono ?_
      rintro e w3 ⟨rfl, hb⟩
      have HB := hide (HB.out.trans (hb.mono HB.out.size))
      have c0 := (Chg.of_below0 (S := fun _ => False) hb).cell c0 (fun h => h)
      have c1 := (Chg.of_below0 (S := fun _ => False) hb).cell c1 (fun h => h)
      have c2 := (Chg.of_below0 (S := fun _ => False) hb).cell c2 (fun h => h)
      have c3 := (Chg.of_below0 (S := fun _ => False) hb).cell c3 (fun h => h)
      have c4 := (Chg.of_below0 (S := fun _ => False) hb).cell c4 (fun h => h)
      have c5 := (Chg.of_below0 (S := fun _ => False) hb).cell c5 (fun h => h)
      have c6 := (Chg.of_below0 (S := fun _ => False) hb).cell c6 (fun h => h)
      have c7 := (Chg.of_below0 (S := fun _ => False) hb).cell c7 (fun h => h)
      clear hb
      generalize zeroC ⟨xps, xts, xn⟩ = z at HR ⊢
      cases z <;> (
        cases ps <;> (go_wp2_with fail; go_ret; exact ⟨ret_bool (by rw [HR.out]; simp [*]), HB.out⟩))
  · have z5 : (k == 5) = false := by simp [k5]
    by_cases l0 : l = 0
    · have z0 : (l == 0) = true := by simp [l0]
      go_wp2_with fail
      refine (hBR _ HB.out).out.mono ?_
      rintro e w3 ⟨rfl, hb⟩
      have HB := hide (HB.out.trans (hb.mono HB.out.size))
      have c0 := (Chg.of_below0 (S := fun _ => False) hb).cell c0 (fun h => h)
      have c1 := (Chg.of_below0 (S := fun _ => False) hb).cell c1 (fun h => h)
      have c2 := (Chg.of_below0 (S := fun _ => False) hb).cell c2 (fun h => h)
      have c3 := (Chg.of_below0 (S := fun _ => False) hb).cell c3 (fun h => h)
      have c4 := (Chg.of_below0 (S := fun _ => False) hb).cell c4 (fun h => h)
      have c5 := (Chg.of_below0 (S := fun _ => False) hb).cell c5 (fun h => h)
      have c6 := (Chg.of_below0 (S := fun _ => False) hb).cell c6 (fun h => h)
      have c7 := (Chg.of_below0 (S := fun _ => False) hb).cell c7 (fun h => h)
      clear hb
      generalize zeroC ⟨xps, xts, xn⟩ = z at HR ⊢
      cases z <;> (
        cases ps <;> (go_wp2_with fail; go_ret; exact ⟨ret_bool (by rw [HR.out]; simp [*]), HB.out⟩))
    · have z0 : (l == 0) = false := by simp [l0]
      go_wp2_with fail
      refine (hBR _ HB.out).out.mono ?_
      rintro e w3 ⟨rfl, hb⟩
      have HB := hide (HB.out.trans (hb.mono HB.out.size))
      have c0 := (Chg.of_below0 (S := fun _ => False) hb).cell c0 (fun h => h)
      have c1 := (Chg.of_below0 (S := fun _ => False) hb).cell c1 (fun h => h)
      have c2 := (Chg.of_below0 (S := fun _ => False) hb).cell c2 (fun h => h)
      have c3 := (Chg.of_below0 (S := fun _ => False) hb).cell c3 (fun h => h)
      have c4 := (Chg.of_below0 (S := fun _ => False) hb).cell c4 (fun h => h)
      have c5 := (Chg.of_below0 (S := fun _ => False) hb).cell c5 (fun h => h)
      have c6 := (Chg.of_below0 (S := fun _ => False) hb).cell c6 (fun h => h)
      have c7 := (Chg.of_below0 (S := fun _ => False) hb).cell c7 (fun h => h)
      clear hb
      generalize zeroC ⟨xps, xts, xn⟩ = z at HR ⊢
      cases z <;> (
        cases ps <;> (go_wp2_with fail; go_ret; exact ⟨ret_bool (by rw [HR.out]; simp [*]), HB.out⟩))
end Go.Proofs.YtjmmmpnpkialjaaDoor
