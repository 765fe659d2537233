/- record.lay, record.Lay. record.one. Conditions: the bytes read as said. -/
import Derived.Test.YtjmmmpnpkialjaaDoorReqZ
import Derived.Test.YtjmmmpnpkialjaaDoorRqM
import Derived.Deep.CutRange
namespace Go.Proofs.YtjmmmpnpkialjaaDoor
open Go.RowKit Go.Shelf
attribute [local go_sem] Oper.semAt_some

/-- A record, as it lies in cells. -/
structure RcV where
  at_ : Int
  q : RqV
def RcV.rc (x : RcV) : Rc := ⟨x.at_, x.q.r⟩
def rc_enc (x : RcV) : List Value := [.int .i64 x.at_, .int .i64 x.q.kind, .int .i64 x.q.id, .int .i64 x.q.number, .int .i64 x.q.lane, .bool x.q.pass, x.q.x.vp, x.q.x.vt, .string x.q.x.c.note]
def RcV.val (x : RcV) : Value := .agg #[.int .i64 x.at_, .int .i64 x.q.kind, .int .i64 x.q.id, .int .i64 x.q.number, .int .i64 x.q.lane, .bool x.q.pass, x.q.x.vp, x.q.x.vt, .string x.q.x.c.note]
theorem rc_len (x : RcV) : (rc_enc x).length = 9 := rfl
/-- Where a record of a statement's lies, and how great it is. -/
structure RcAt (w : World) (x : RcV) : Prop where
  cm : CmAt w x.q.x
  few : Few x.q.x.c
  note : x.q.x.c.note.size ≤ 140737488351232
theorem RcAt.same {w w' : World} {x : RcV} (h : RcAt w x) (c : Chg (fun _ => False) w w') : RcAt w' x := ⟨h.cm.same c, h.few, h.note⟩
theorem rc_slT : SlT Tryd.prog 50 54 (.agg #[.int .i64 0, .int .i64 0, .int .i64 0, .int .i64 0, .int .i64 0, .bool false, .slice none 0 0, .slice none 0 0, .string ByteArray.empty]) 9 112 := ⟨Tryd.underlying50, by kernel_rfl, rfl, by decide⟩
theorem rc_cells (w : World) (b off : Nat) (l : List RcV) (h : CellsAt w b off (flat rc_enc l)) (i : Nat) (hi : i < l.length) : ∀ j u, j < 9 → (rc_enc l[i])[j]? = some u → w.cell? ⟨b, off + i * 9 + j, none⟩ = some u := fun j u hj hu => by
  have := h (i * 9 + j) u (by rw [flat_get rc_len (by decide) l i j hi hj]; exact hu)
  rwa [← Nat.add_assoc] at this
def rcs (l : List RcV) : List Rc := l.map RcV.rc
set_option maxHeartbeats 4000000 in
set_option maxRecDepth 100000 in
theorem record_lay (w : World) (x : RcV) (h : RcAt w x) (hM : Mx w) :
    Calls Tryd.prog 61 #[x.val] w fun e w' => Below w.heap.size w w' ∧
      ((mayRc x.rc = false ∧ e = .returned (.slice none 0 0)) ∨
       (mayRc x.rc = true ∧ ∃ a cap, e = .returned (.slice (some a) (layRc x.rc).length cap) ∧ w'.ownsRow w.heap.size 5 1 (.slice (some a) (layRc x.rc).length cap) (layRc x.rc).length (u8s (layRc x.rc)))) := by
  obtain ⟨t, k, i, n, l, p, ⟨⟨xps, xts, xn⟩, xp, xt⟩⟩ := x
  have hb1 := (Below.refl w.heap.size w).alloc (Nat.le_refl _) (Obj.cells #[.int .i64 t, .int .i64 k, .int .i64 i, .int .i64 n, .int .i64 l, .bool p, xp, xt, .string xn] 54)
  have h1 := heap_alloc_new w (Obj.cells #[.int .i64 t, .int .i64 k, .int .i64 i, .int .i64 n, .int .i64 l, .bool p, xp, xt, .string xn] 54)
  obtain ⟨W1, hW1⟩ : ∃ W1, W1 = w.alloc (Obj.cells #[.int .i64 t, .int .i64 k, .int .i64 i, .int .i64 n, .int .i64 l, .bool p, xp, xt, .string xn] 54) := ⟨_, rfl⟩
  rw [← hW1] at hb1 h1
  have hly := request_Lay W1 ⟨k, i, n, l, p, ⟨⟨xps, xts, xn⟩, xp, xt⟩⟩ (h.cm.same (Chg.of_below0 hb1)) h.few h.note (hM.below hb1 hM.pos)
  obtain ⟨R, hR⟩ : ∃ R : Rc, R = RcV.rc ⟨t, k, i, n, l, p, ⟨⟨xps, xts, xn⟩, xp, xt⟩⟩ := ⟨_, rfl⟩
  have hr1 : RqV.r ⟨k, i, n, l, p, ⟨⟨xps, xts, xn⟩, xp, xt⟩⟩ = R.r := by rw [hR]; rfl
  have hr2 : R.at_ = t := by rw [hR]; rfl
  rw [hr1] at hly
  rw [← hR]
  unfold RcV.val
  simp only
  obtain ⟨at9, rq⟩ := R
  simp only at hr2 hly
  subst hr2
  clear hR hr1 h hM
  have HLY := hide hly
  have HH := hide h1
  have HB := hide hb1
  have HW1 := hide hW1
  clear hly h1 hb1 hW1
  go_enter Tryd.func61, Tryd.ntmps61
  go_upto_region 1 with (fail)
  rw [HW1.out.symm]
  clear HW1
  have a0 := cell_of_heap HH.out 0
  have a1 := cell_of_heap HH.out 1
  have a2 := cell_of_heap HH.out 2
  have a3 := cell_of_heap HH.out 3
  have a4 := cell_of_heap HH.out 4
  have a5 := cell_of_heap HH.out 5
  have a6 := cell_of_heap HH.out 6
  have a7 := cell_of_heap HH.out 7
  have a8 := cell_of_heap HH.out 8
  simp at a0 a1 a2 a3 a4 a5 a6 a7 a8
  go_wp2_with fail
  refine HLY.out.mono ?_
  rintro e w2 ⟨hb2, hres⟩
  replace HB := hide (HB.out.trans (hb2.mono HB.out.size))
  have HH2 := hide ((Chg.of_below0 (S := fun _ => False) hb2).heap HH.out (fun h => h))
  have HS1 := hide hb2.size
  clear hb2 HLY HH a0 a1 a2 a3 a4 a5 a6 a7 a8
  have a0 := cell_of_heap HH2.out 0
  simp at a0
  rcases hres with ⟨hm, rfl⟩ | ⟨hm, ao, cap, rfl, ho⟩
  · have HR := hide (show mayRc ⟨at9, rq⟩ = false by simp [mayRc, hm])
    clear hm
    go_wp2_with fail
    go_ret
    first
      | exact ⟨HB.out, .inl ⟨HR.out, rfl⟩⟩
      | exact ⟨HB.out, HR.out⟩
  · have HM := hide hm
    have HO := hide ho
    clear hm ho
    by_cases t0 : at9 < 0
    · have HR := hide (show mayRc ⟨at9, rq⟩ = false by simp [mayRc]; omega)
      have d0 : decide (at9 < 0) = true := decide_eq_true t0
      go_wp2_with fail
      go_ret
      first
        | exact ⟨HB.out, .inl ⟨HR.out, rfl⟩⟩
        | exact ⟨HB.out, HR.out⟩
    · have d0 : decide (at9 < 0) = false := decide_eq_false t0
      by_cases t1 : at9 > 1099511627776
      · have HR := hide (show mayRc ⟨at9, rq⟩ = false by simp [mayRc]; omega)
        have d1 : decide (at9 > 1099511627776) = true := decide_eq_true t1
        go_wp2_with fail
        go_ret
        first
          | exact ⟨HB.out, .inl ⟨HR.out, rfl⟩⟩
          | exact ⟨HB.out, HR.out⟩
      · have d1 : decide (at9 > 1099511627776) = false := decide_eq_false t1
        have HR := hide (show mayRc ⟨at9, rq⟩ = true from mayRc_iff.2 ⟨HM.out, by show 0 ≤ at9; omega, by show at9 ≤ _; omega⟩)
        have hlen := layRq_len HM.out
        have HLEN := hide hlen
        have hw8 : IntKind.i64.wrap (8 + ((layRq rq).length : Int)) = 8 + ((layRq rq).length : Int) := IntWalk.i64_in _ (by omega)
        clear t0 t1 hlen
        obtain ⟨b, off, rfl, -⟩ := rd_at (Rd.of_owns HO.out) (by have := HLEN.out; omega)
        go_wp2_with fail
        obtain ⟨Y, hY⟩ : ∃ Y, Y = nums [8 + ((layRq rq).length : Int), at9] := ⟨_, rfl⟩
        have hYl : Y.length = 16 := by rw [hY]; rfl
        have HYL := hide hYl
        refine (code_Num _ _ _ [] [8 + ((layRq rq).length : Int), at9] Y hY (Rd.nil _) (Rd_lit w2 #[.int .i64 (8 + ((layRq rq).length : Int)), .int .i64 at9] 3 2) (by simp)).mono ?_
        rintro e w3 ⟨ao3, cap3, rfl, ho3, hb3⟩
        have hc3 : Chg (fun _ => False) w2 w3 := (Chg.alloc (fun _ => False) w2 _).trans (Chg.of_below0 (S := fun _ => False) hb3) (fun _ _ h => h) (fun _ _ h => h)
        have HO2 := hide (hc3.owns HO.out (fun _ _ h => h))
        have HB3 := hide (HB.out.trans (hc3.below (n := w.heap.size) HB.out.size (fun _ _ h => h)))
        have HO3 := hide (ownsRow_base ho3 (base' := w.heap.size) (fun j hj => by have h5 := (ownsRow_lt ho3 j hj).1; have h6 := HB.out.size; simp at h5; omega))
        have HLA := hide (show layRc ⟨at9, rq⟩ = Y ++ layRq rq by rw [hY]; rfl)
        have HHI := hide (show ∀ k, (Value.slice ao3 Y.length cap3).ownBlock = some k → w2.heap.size ≤ k from fun j hj => by have h5 := (ownsRow_lt ho3 j hj).1; simp at h5; omega)
        clear hYl ho3 hb3 hc3 HO hY
        go_wp2_with (at_builtin; refine wpl_append rfl _ _ _ rfl slU8 w.heap.size HO3.out (Rd.of_owns HO2.out) rfl rfl (u8s_len1 _) (u8s_one _) (by have h5 := HLEN.out; have h6 := HYL.out; unfold maxLen; omega) (by have h5 := HLEN.out; have h6 := HYL.out; omega) HB3.out.size ?_; intro ao4 cap4 w4 ho4 hg4 _ hnil; have HO4 := hide ho4; have HG4 := hide hg4; have HNIL := hide hnil; clear ho4 hg4 hnil)
        go_ret
        have hb4 : Below w.heap.size w w4 := HB3.out.trans (HG4.out.below (n := w.heap.size) HB3.out.size (fun k hk h => by have h5 := HHI.out k h; have h6 := HB.out.size; omega))
        have hl4 : Y.length + (layRq rq).length = (layRc ⟨at9, rq⟩).length := by rw [HLA.out, List.length_append]
        have ho4 := HO4.out
        rw [← u8s_append, ← HLA.out, hl4] at ho4
        rw [hl4]
        cases ao4 with
        | none =>
          have h5 := (HNIL.out.1 rfl).2
          have h6 := HLEN.out
          omega
        | some a4 =>
          first
            | exact ⟨hb4, .inr ⟨HR.out, a4, cap4, rfl, ho4⟩⟩
            | exact ⟨hb4, HR.out, a4, cap4, rfl, ho4⟩
            | exact ⟨hb4, HR.out, a4, cap4, ⟨rfl, rfl⟩, ho4⟩
theorem layRcs_no {l : List Rc} {j : Nat} (hj : j < l.length) (h : mayRc l[j] = false) : layRcs l = [] := by
  rw [layRcs, if_neg]
  intro ha
  have := List.all_eq_true.1 ha l[j] (List.getElem_mem hj)
  rw [h] at this
  cases this
theorem flatRc_len : ∀ l : List Rc, (∀ x ∈ l, mayRc x = true) → (l.flatMap layRc).length ≤ l.length * 60016
  | [], _ => by simp
  | x :: l, h => by
    have h1 := (layRq_len (mayRc_iff.1 (h x (by simp))).1).2
    have h2 := flatRc_len l (fun y hy => h y (by simp [hy]))
    simp only [List.flatMap_cons, List.length_append, List.length_cons, layRc_len]
    omega
theorem layRcs_len (l : List Rc) : (layRcs l).length ≤ l.length * 60016 := by
  unfold layRcs
  split
  · rename_i h
    exact flatRc_len l (fun x hx => List.all_eq_true.1 h x hx)
  · simp
theorem rcs_take_succ (l : List RcV) (j : Nat) (h : j < l.length) : (rcs (l.take (j + 1))).flatMap layRc = (rcs (l.take j)).flatMap layRc ++ layRc l[j].rc := by
  rw [take_succ_get l j h, rcs, rcs]
  simp only [List.map_append, List.map_cons, List.map_nil, List.flatMap_append, List.flatMap_cons, List.flatMap_nil, List.append_nil]
set_option maxHeartbeats 4000000 in
set_option maxRecDepth 100000 in
theorem record_Lay (w : World) (v : Value) (l : List RcV) (hv : Rd w v l.length (flat rc_enc l)) (hl : l.length ≤ 1000) (hx : ∀ x ∈ l, RcAt w x) (hM : Mx w) :
    Calls Tryd.prog 28 #[v] w fun e w' => Below w.heap.size w w' ∧ ∃ ao cap, e = .returned (.slice ao (layRcs (rcs l)).length cap) ∧ w'.ownsRow w.heap.size 5 1 (.slice ao (layRcs (rcs l)).length cap) (layRcs (rcs l)).length (u8s (layRcs (rcs l))) := by
  have HV := hide hv
  have HX := hide hx
  have HM := hide hM
  obtain ⟨av, cv, rfl, -, -⟩ := hv.shape
  obtain ⟨L, hL⟩ : ∃ L, L = layRcs (rcs l) := ⟨_, rfl⟩
  rw [← hL]
  have HL := hide hL
  clear hv hx hM hL
  go_enter Tryd.func28, Tryd.ntmps28
  go_wp2_with fail
  go_loopw [3, 9] (fun ov iv wr => ∃ j : Nat, j ≤ l.length ∧ iv = .int .i64 j ∧ Hid (∀ x ∈ l.take j, mayRc x.rc = true) ∧ Hid (Below w.heap.size w wr) ∧
    Hid (∃ ao cap, ov = .slice ao ((rcs (l.take j)).flatMap layRc).length cap ∧ wr.ownsRow w.heap.size 5 1 (.slice ao ((rcs (l.take j)).flatMap layRc).length cap) ((rcs (l.take j)).flatMap layRc).length (u8s ((rcs (l.take j)).flatMap layRc)))) (fun _ i _ => l.length - (intOf i).toNat)
  case atStart => exact ⟨0, Nat.zero_le _, rfl, fun x h => by simp at h, Below.refl _ _, none, 0, rfl, World.ownsRow_nil _ _ _ _⟩
  case round =>
    obtain ⟨j, hj, rfl, HA, HB, HO0⟩ := hrel
    obtain ⟨ao, cap, rfl, ho⟩ := HO0.out
    obtain ⟨y, hy⟩ : ∃ y, y = (rcs (l.take j)).flatMap layRc := ⟨_, rfl⟩
    rw [← hy] at ho
    rw [← hy]
    have HO := hide ho
    have HY := hide hy
    have hyl : y.length ≤ 60016000 := by
      have h5 := flatRc_len (rcs (l.take j)) (fun x hx => by obtain ⟨z, hz, rfl⟩ := List.mem_map.1 hx; exact HA.out z hz)
      rw [← hy] at h5
      have h6 : (rcs (l.take j)).length ≤ 1000 := by simp only [rcs, List.length_map, List.length_take]; omega
      omega
    have HYL := hide hyl
    clear HO0 ho hy hyl
    by_cases hlt : j < l.length
    · obtain ⟨b, off, rfl, hcs⟩ := rd_at (HV.out.chg (Chg.of_below0 (S := fun _ => False) HB.out) (fun _ _ _ h => h)) (by omega)
      have hc := rc_cells _ _ _ _ hcs j hlt
      have hxr := HX.out l[j] (List.getElem_mem hlt)
      obtain ⟨x, hxe⟩ : ∃ x, x = l[j] := ⟨_, rfl⟩
      rw [← hxe] at hc hxr
      have HXE := hide hxe
      clear hxe hcs
      obtain ⟨t, k, i, n, rl, p, ⟨⟨xps, xts, xn⟩, xp, xt⟩⟩ := x
      have hxp : Rd w xp xps.length (flat int_enc xps) := hxr.cm.ps
      have hxt : Rd w xt xts.length (flat fl_enc xts) := hxr.cm.ts
      obtain ⟨po, pc, rfl, -, -⟩ := hxp.shape
      obtain ⟨qo, qc, rfl, -, -⟩ := hxt.shape
      have c0 := hc 0 _ (by decide) rfl
      rw [Nat.add_zero] at c0
      have c1 := hc 1 _ (by decide) rfl
      have c2 := hc 2 _ (by decide) rfl
      have c3 := hc 3 _ (by decide) rfl
      have c4 := hc 4 _ (by decide) rfl
      have c5 := hc 5 _ (by decide) rfl
      have c6 := hc 6 _ (by decide) rfl
      have c7 := hc 7 _ (by decide) rfl
      have c8 := hc 8 _ (by decide) rfl
      have hb1 := HB.out.alloc HB.out.size (Obj.cells #[.int .i64 t, .int .i64 k, .int .i64 i, .int .i64 n, .int .i64 rl, .bool p, .slice po xps.length pc, .slice qo xts.length qc, .string xn] 54)
      have hcall := record_lay (wr.alloc (Obj.cells #[.int .i64 t, .int .i64 k, .int .i64 i, .int .i64 n, .int .i64 rl, .bool p, .slice po xps.length pc, .slice qo xts.length qc, .string xn] 54)) ⟨t, k, i, n, rl, p, ⟨⟨xps, xts, xn⟩, .slice po xps.length pc, .slice qo xts.length qc⟩⟩ (hxr.same (Chg.of_below0 hb1)) (HM.out.below hb1 HM.out.pos)
      obtain ⟨R, hR⟩ : ∃ R : Rc, R = RcV.rc ⟨t, k, i, n, rl, p, ⟨⟨xps, xts, xn⟩, .slice po xps.length pc, .slice qo xts.length qc⟩⟩ := ⟨_, rfl⟩
      rw [← hR] at hcall
      unfold RcV.val at hcall
      simp only at hcall
      have HCALL := hide hcall
      have HB1 := hide hb1
      have HR := hide (show R = l[j].rc by rw [hR, HXE.out])
      have HO1 := hide ((Chg.alloc (fun _ => False) wr (Obj.cells #[.int .i64 t, .int .i64 k, .int .i64 i, .int .i64 n, .int .i64 rl, .bool p, .slice po xps.length pc, .slice qo xts.length qc, .string xn] 54)).owns HO.out (fun _ _ h => h))
      clear hc hxr hcall hb1 hR hxp hxt HXE
      go_wp2_with fail
      refine HCALL.out.mono ?_
      rintro e w2 ⟨hb2, hres⟩
      have HB2 := hide (HB1.out.trans (hb2.mono HB1.out.size))
      have HO2 := hide ((Chg.of_below0 (S := fun _ => False) hb2).owns HO1.out (fun _ _ h => h))
      clear hb2 HCALL HB1 HO1
      rcases hres with ⟨hm, rfl⟩ | ⟨hm, a, cap', rfl, hob⟩
      · have hnil : L = [] := by rw [HL.out]; exact layRcs_no (j := j) (by simp [rcs, hlt]) (by simp only [rcs, List.getElem_map]; rw [← HR.out]; exact hm)
        have HNIL := hide hnil
        clear hm hnil
        have hnn : ∀ w', Sem.run Tryd.prog (binOp BinOp.eql 30 (.slice none 0 0) (.slice none 0 0)) w' = .ok (.bool true) w' := by intro w'; kernel_rfl
        go_wp2_with fail
        go_ret
        rw [HNIL.out]
        exact ⟨HB2.out, none, 0, rfl, World.ownsRow_nil _ _ _ _⟩
      · have HMR := hide hm
        have HOB := hide hob
        have hrl : (layRc R).length ≤ 60016 := by have := (layRq_len (mayRc_iff.1 hm).1).2; rw [layRc_len]; omega
        have HRL := hide hrl
        clear hm hob hrl
        have hnn : ∀ w', Sem.run Tryd.prog (binOp BinOp.eql 30 (.slice (some a) (layRc R).length cap') (.slice none 0 0)) w' = .ok (.bool false) w' := by intro w'; kernel_rfl
        go_wp2_with (at_builtin; refine wpl_append rfl _ _ _ rfl slU8 w.heap.size HO2.out (Rd.of_owns HOB.out) rfl rfl (u8s_len1 _) (u8s_one _) (by have h5 := HYL.out; have h6 := HRL.out; unfold maxLen; omega) (by have h5 := HYL.out; have h6 := HRL.out; omega) HB2.out.size ?_; intro ao4 cap4 w4 ho4 hg4 _ _; have HO4 := hide ho4; have HG4 := hide hg4; clear ho4 hg4)
        go_roundw
        case rel =>
          have hb4 : Below w.heap.size w w4 := HB2.out.trans (HG4.out.below (n := w.heap.size) HB2.out.size (fun k hk h => by have h5 := (ownsRow_lt HO2.out k h).1; omega))
          have e : (rcs (l.take (j + 1))).flatMap layRc = y ++ layRc R := by rw [rcs_take_succ l j hlt, HY.out, HR.out]
          have ho4 := HO4.out
          rw [← u8s_append, ← e] at ho4
          have hl4 : y.length + (layRc R).length = ((rcs (l.take (j + 1))).flatMap layRc).length := by rw [e, List.length_append]
          rw [hl4] at ho4
          refine ⟨j + 1, by omega, by go_num, fun x hx => ?_, hb4, ao4, cap4, by rw [← hl4], ho4⟩
          rw [take_succ_get l j hlt] at hx
          rcases List.mem_append.1 hx with hx | hx
          · exact HA.out x hx
          · rw [List.mem_singleton.1 hx, ← HR.out]; exact HMR.out
        case measure => simp [intOf]; omega
    · obtain rfl : j = l.length := by omega
      have hLy : L = y := by
        rw [HL.out, HY.out, List.take_length, layRcs, if_pos]
        refine List.all_eq_true.2 (fun x hx => ?_)
        obtain ⟨z, hz, rfl⟩ := List.mem_map.1 hx
        exact HA.out z (by rw [List.take_length]; exact hz)
      have HLY := hide hLy
      clear hLy
      go_wp2_with fail
      go_ret
      rw [HLY.out]
      exact ⟨HB.out, ao, cap, rfl, HO.out⟩
end Go.Proofs.YtjmmmpnpkialjaaDoor
namespace Go.Proofs.YtjmmmpnpkialjaaDoor
open Go.RowKit Go.Shelf
attribute [local go_sem] Oper.semAt_some

/-- '[]byte(s)'. -/
theorem conv_sb (w : World) (s : ByteArray) : ∃ cap W, (convert 9 30 (.string s)).run Tryd.prog w = .ok (.slice (some ⟨w.heap.size, 0, none⟩) s.size cap) W ∧ Rd W (.slice (some ⟨w.heap.size, 0, none⟩) s.size cap) (sb s).length (u8s (sb s)) ∧ Below w.heap.size w W ∧ w.heap.size < W.heap.size := by
  refine ⟨_, _, run_bytes_of_string (P := Tryd.prog) w 9 30 5 s Tryd.underlying9 Tryd.underlying30 Tryd.underlying5, ?_, ?_, ?_⟩
  · rw [sb_length]
    refine Rd.mk (grownCap_ge w s.size 0 5) ?_
    intro j u hu
    have hj : j < (sb s).length := by
      rcases Nat.lt_or_ge j (sb s).length with h | h
      · exact h
      · rw [List.getElem?_eq_none (by rw [u8s_length]; exact h)] at hu; cases hu
    rw [u8s_getElem? (sb s) j hj] at hu
    have hb := bytesRow_at s (grownCap w s.size 0 5) j (by simpa [sb] using hj)
    have hh := heap_alloc_new w.drew (.cells (bytesRow s (grownCap w s.size 0 5)) 5 ((bytesRow s (grownCap w s.size 0 5)).size, (bytesRow s (grownCap w s.size 0 5)).size + 1))
    have hc := cell_of_heap hh j
    rw [hb] at hc
    rw [Nat.zero_add]
    rw [← hu]
    refine Eq.trans hc ?_
    simp [sb]
  · exact Chg.below (S := fun _ => False) ((Chg.drew (fun _ => False) w).trans (Chg.alloc (fun _ => False) w.drew _) (fun _ _ h => h) (fun _ _ h => h)) (Nat.le_refl _) (fun _ _ h => h)
  · show w.heap.size < (w.drew.alloc _).heap.size
    rw [World.size_alloc]
    exact Nat.lt_succ_self _
theorem sb_extract (s : ByteArray) : sb (s.extract 8 s.size) = (sb s).drop 8 := by
  unfold sb
  rw [ByteArray.data_extract, Array.toList_extract]
  rw [List.extract_eq_take_drop, List.take_of_length_le]
  rw [List.length_drop, Array.length_toList]
  exact Nat.le_refl _
def rcZ : Array Value := #[.int .i64 0, .int .i64 0, .int .i64 0, .int .i64 0, .int .i64 0, .bool false, .slice none 0 0, .slice none 0 0, .string ⟨#[]⟩]
theorem sets9_heap {w : World} {b : Nat} {T : TypeId} (h : w.heap[b]? = some (.cells rcZ T (0, 0))) (v0 v1 v2 v3 v4 v5 v6 v7 v8 : Value) :
    (((((((((w.setCell ⟨b, 0, none⟩ v0).setCell ⟨b, 1, none⟩ v1).setCell ⟨b, 2, none⟩ v2).setCell ⟨b, 3, none⟩ v3).setCell ⟨b, 4, none⟩ v4).setCell ⟨b, 5, none⟩ v5).setCell ⟨b, 6, none⟩ v6).setCell ⟨b, 7, none⟩ v7).setCell ⟨b, 8, none⟩ v8).heap[b]? = some (.cells #[v0, v1, v2, v3, v4, v5, v6, v7, v8] T (0, 0)) := by
  unfold rcZ at h
  have h1 : (w.setCell ⟨b, 0, none⟩ v0).heap[b]? = some (.cells #[v0, .int .i64 0, .int .i64 0, .int .i64 0, .int .i64 0, .bool false, .slice none 0 0, .slice none 0 0, .string ⟨#[]⟩] T (0, 0)) := heap_setCell_same h (i := 0) v0
  have h2 : ((w.setCell ⟨b, 0, none⟩ v0).setCell ⟨b, 1, none⟩ v1).heap[b]? = some (.cells #[v0, v1, .int .i64 0, .int .i64 0, .int .i64 0, .bool false, .slice none 0 0, .slice none 0 0, .string ⟨#[]⟩] T (0, 0)) := heap_setCell_same h1 (i := 1) v1
  have h3 : (((w.setCell ⟨b, 0, none⟩ v0).setCell ⟨b, 1, none⟩ v1).setCell ⟨b, 2, none⟩ v2).heap[b]? = some (.cells #[v0, v1, v2, .int .i64 0, .int .i64 0, .bool false, .slice none 0 0, .slice none 0 0, .string ⟨#[]⟩] T (0, 0)) := heap_setCell_same h2 (i := 2) v2
  have h4 : ((((w.setCell ⟨b, 0, none⟩ v0).setCell ⟨b, 1, none⟩ v1).setCell ⟨b, 2, none⟩ v2).setCell ⟨b, 3, none⟩ v3).heap[b]? = some (.cells #[v0, v1, v2, v3, .int .i64 0, .bool false, .slice none 0 0, .slice none 0 0, .string ⟨#[]⟩] T (0, 0)) := heap_setCell_same h3 (i := 3) v3
  have h5 : (((((w.setCell ⟨b, 0, none⟩ v0).setCell ⟨b, 1, none⟩ v1).setCell ⟨b, 2, none⟩ v2).setCell ⟨b, 3, none⟩ v3).setCell ⟨b, 4, none⟩ v4).heap[b]? = some (.cells #[v0, v1, v2, v3, v4, .bool false, .slice none 0 0, .slice none 0 0, .string ⟨#[]⟩] T (0, 0)) := heap_setCell_same h4 (i := 4) v4
  have h6 : ((((((w.setCell ⟨b, 0, none⟩ v0).setCell ⟨b, 1, none⟩ v1).setCell ⟨b, 2, none⟩ v2).setCell ⟨b, 3, none⟩ v3).setCell ⟨b, 4, none⟩ v4).setCell ⟨b, 5, none⟩ v5).heap[b]? = some (.cells #[v0, v1, v2, v3, v4, v5, .slice none 0 0, .slice none 0 0, .string ⟨#[]⟩] T (0, 0)) := heap_setCell_same h5 (i := 5) v5
  have h7 : (((((((w.setCell ⟨b, 0, none⟩ v0).setCell ⟨b, 1, none⟩ v1).setCell ⟨b, 2, none⟩ v2).setCell ⟨b, 3, none⟩ v3).setCell ⟨b, 4, none⟩ v4).setCell ⟨b, 5, none⟩ v5).setCell ⟨b, 6, none⟩ v6).heap[b]? = some (.cells #[v0, v1, v2, v3, v4, v5, v6, .slice none 0 0, .string ⟨#[]⟩] T (0, 0)) := heap_setCell_same h6 (i := 6) v6
  have h8 : ((((((((w.setCell ⟨b, 0, none⟩ v0).setCell ⟨b, 1, none⟩ v1).setCell ⟨b, 2, none⟩ v2).setCell ⟨b, 3, none⟩ v3).setCell ⟨b, 4, none⟩ v4).setCell ⟨b, 5, none⟩ v5).setCell ⟨b, 6, none⟩ v6).setCell ⟨b, 7, none⟩ v7).heap[b]? = some (.cells #[v0, v1, v2, v3, v4, v5, v6, v7, .string ⟨#[]⟩] T (0, 0)) := heap_setCell_same h7 (i := 7) v7
  have h9 : (((((((((w.setCell ⟨b, 0, none⟩ v0).setCell ⟨b, 1, none⟩ v1).setCell ⟨b, 2, none⟩ v2).setCell ⟨b, 3, none⟩ v3).setCell ⟨b, 4, none⟩ v4).setCell ⟨b, 5, none⟩ v5).setCell ⟨b, 6, none⟩ v6).setCell ⟨b, 7, none⟩ v7).setCell ⟨b, 8, none⟩ v8).heap[b]? = some (.cells #[v0, v1, v2, v3, v4, v5, v6, v7, v8] T (0, 0)) := heap_setCell_same h8 (i := 8) v8
  exact h9
theorem rdOne_no {b : List UInt8} {p least : Int} {s : ByteArray} {en : Int} {o : Bool} {wn fr : Int} {is : Bool} (h1 : rdText b p = (s, en, o)) (h2 : rdNum (sb s) 0 = (wn, fr, is)) (h : ¬ (o = true ∧ is = true ∧ least ≤ wn ∧ wn ≤ 1099511627776)) : rdOne b p least = none := by
  simp only [rdOne, h1, h2]
  rw [if_neg h]
theorem rdOne_go {b : List UInt8} {p least : Int} {s : ByteArray} {en : Int} {wn fr : Int} (h1 : rdText b p = (s, en, true)) (h2 : rdNum (sb s) 0 = (wn, fr, true)) (h : least ≤ wn ∧ wn ≤ 1099511627776) : rdOne b p least = (rdRq ((sb s).drop 8)).map fun r => (⟨wn, r⟩, en) := by
  simp only [rdOne, h1, h2]
  rw [if_pos ⟨trivial, trivial, h⟩]
/-- What record.one says. -/
def OneSaid (b : List UInt8) (p least : Int) (w : World) (e : Ending) (w' : World) : Prop :=
  ∃ (x : RcV) (en : Int) (ok : Bool), e = .returned (.tuple #[x.val, .int .i64 en, .bool ok]) ∧ Own w' w.heap.size x.q.x ∧ Below w.heap.size w w' ∧ (ok = false → rdOne b p least = none) ∧ (ok = true → rdOne b p least = some (x.rc, en))
theorem oneSaid_mk {b : List UInt8} {p least : Int} {w w' : World} {e : Ending} (x : RcV) (en : Int) (ok : Bool) (h1 : e = .returned (.tuple #[x.val, .int .i64 en, .bool ok])) (h2 : Own w' w.heap.size x.q.x) (h3 : Below w.heap.size w w') (h4 : ok = false → rdOne b p least = none) (h5 : ok = true → rdOne b p least = some (x.rc, en)) : OneSaid b p least w e w' := ⟨x, en, ok, h1, h2, h3, h4, h5⟩
set_option maxHeartbeats 4000000 in
set_option maxRecDepth 100000 in
theorem record_one (w : World) (vb : Value) (b : List UInt8) (p least : Int) (hb : Rd w vb b.length (u8s b)) (hm : b.length ≤ 140737488351232) (hM : Mx w) :
    Calls Tryd.prog 64 #[vb, .int .i64 p, .int .i64 least] w fun e w' => OneSaid b p least w e w' := by
  have HBB := hide hb
  have HM := hide hM
  obtain ⟨ab, cb, rfl, -, -⟩ := hb.shape
  obtain ⟨s, en, o, h1⟩ : ∃ s en o, rdText b p = (s, en, o) := ⟨_, _, _, rfl⟩
  obtain ⟨W9, fr, is, h2⟩ : ∃ wn fr is, rdNum (sb s) 0 = (wn, fr, is) := ⟨_, _, _, rfl⟩
  have hsz : s.size ≤ b.length := by have := rdText_len b p; rw [h1] at this; exact this
  have hb0 := (Below.refl w.heap.size w).alloc (Nat.le_refl _) (Obj.cells rcZ 54)
  have hp0 := heap_alloc_new w (Obj.cells rcZ 54)
  obtain ⟨W1, hW1⟩ : ∃ W1, W1 = w.alloc (Obj.cells rcZ 54) := ⟨_, rfl⟩
  rw [← hW1] at hb0 hp0
  have hrt := code_ReadText W1 _ b p (HBB.out.chg (Chg.of_below0 (S := fun _ => False) hb0) (fun _ _ _ h => h)) hm
  rw [h1] at hrt
  have HRT := hide hrt
  obtain ⟨cs, W2, hcv, hrd2, hb2, -⟩ := conv_sb W1 s
  have hrn := code_ReadNum W2 _ (sb s) 0 hrd2 (by rw [sb_length]; omega)
  rw [h2] at hrn
  have HRN := hide hrn
  have HB := hide (hb0.trans (hb2.mono hb0.size))
  have HP := hide ((Chg.of_below0 (S := fun _ => False) hb2).heap hp0 (fun h => h))
  have H1 := hide h1
  have H2 := hide h2
  have HSZ := hide hsz
  have hfr : is = true → fr = 8 ∧ 8 ≤ s.size := fun h => by
    rw [rdNum] at h2
    split at h2
    · rename_i h5
      rw [sb_length] at h5
      simp only [Prod.mk.injEq] at h2
      omega
    · simp only [Prod.mk.injEq] at h2
      rw [h] at h2
      exact absurd h2.2.2 (by decide)
  have HFR := hide hfr
  unfold rcZ at hW1
  have HW1 := hide hW1
  clear hb hM h1 h2 hsz hb0 hp0 hrt hrd2 hb2 hrn hfr hW1
  go_enter Tryd.func64, Tryd.ntmps64
  go_upto_region 1 with (fail)
  rw [HW1.out.symm]
  clear HW1
  go_wp2_with fail
  refine HRT.out.mono ?_
  rintro e w3 ⟨rfl, rfl⟩
  go_wp2_with fail
  refine HRN.out.mono ?_
  rintro e w4 ⟨rfl, rfl⟩
  by_cases hgo : o = true ∧ is = true ∧ least ≤ W9 ∧ W9 ≤ 1099511627776
  · obtain ⟨rfl, rfl, t1, t2⟩ := hgo
    obtain ⟨rfl, h8⟩ := HFR.out rfl
    have hon := rdOne_go H1.out H2.out ⟨t1, t2⟩
    have HON := hide hon
    have d1 : decide (W9 < least) = false := decide_eq_false (by omega)
    have d2 : decide (W9 > 1099511627776) = false := decide_eq_false (by omega)
    have h80 : (8 : Int) ≤ (s.size : Int) := by omega
    obtain ⟨cs2, W5, hcv2, hrd5, hb5, -⟩ := conv_sb w4 (s.extract 8 s.size)
    rw [sb_extract] at hrd5
    obtain ⟨n8, hn8⟩ : ∃ n8, n8 = (s.extract 8 s.size).size := ⟨_, rfl⟩
    rw [← hn8] at hcv2 hrd5
    clear hn8
    have hrz := request_ReadZ W5 _ ((sb s).drop 8) hrd5 (by rw [List.length_drop, sb_length]; have := HSZ.out; omega) (HM.out.below (HB.out.trans (hb5.mono HB.out.size)) HM.out.pos)
    replace HP := hide ((Chg.of_below0 (S := fun _ => False) hb5).heap HP.out (fun h => h))
    replace HB := hide (HB.out.trans (hb5.mono HB.out.size))
    have HRZ := hide hrz
    clear t1 t2 hon hrd5 hb5 hrz
    go_wp2_with fail
    refine HRZ.out.mono ?_
    rintro e w6 ⟨hb6, q, hq, rfl, ho⟩
    have hlo : w.heap.size + 1 ≤ W5.heap.size := by have h5 := (Array.getElem?_eq_some_iff.1 HP.out).1; omega
    replace HP := hide ((Chg.of_below0 (S := fun _ => False) hb6).heap HP.out (fun h => h))
    replace HB := hide (HB.out.trans (hb6.mono HB.out.size))
    clear hb6 HRZ hcv hcv2
    replace ho := ho.base hlo
    clear hlo
    have hlo2 : w.heap.size < w6.heap.size := (Array.getElem?_eq_some_iff.1 HP.out).1
    obtain ⟨k, i, n, l, ps, ⟨⟨xps, xts, xn⟩, xp, xt⟩⟩ := q
    obtain ⟨px, qx, hpx⟩ := ownsRow_shape ho.ps
    obtain ⟨pt, qt, hpt⟩ := ownsRow_shape ho.ts
    simp only at hpx hpt
    subst hpx hpt
    unfold RqV.val
    simp only
    have HQ := hide hq
    have HO := hide (ho.chg (Chg.alloc (fun _ => False) w6 (Obj.cells #[.int .i64 k, .int .i64 i, .int .i64 n, .int .i64 l, .bool ps, .slice px xps.length qx, .slice pt xts.length qt, .string xn] 27)) (fun _ _ _ h => h))
    replace HP := hide ((Chg.alloc (fun _ => False) w6 (Obj.cells #[.int .i64 k, .int .i64 i, .int .i64 n, .int .i64 l, .bool ps, .slice px xps.length qx, .slice pt xts.length qt, .string xn] 27)).heap HP.out (fun h => h))
    replace HB := hide (HB.out.alloc HB.out.size (Obj.cells #[.int .i64 k, .int .i64 i, .int .i64 n, .int .i64 l, .bool ps, .slice px xps.length qx, .slice pt xts.length qt, .string xn] 27))
    have hh := heap_alloc_new w6 (Obj.cells #[.int .i64 k, .int .i64 i, .int .i64 n, .int .i64 l, .bool ps, .slice px xps.length qx, .slice pt xts.length qt, .string xn] 27)
    obtain ⟨W7, hW7⟩ : ∃ W7, W7 = w6.alloc (Obj.cells #[.int .i64 k, .int .i64 i, .int .i64 n, .int .i64 l, .bool ps, .slice px xps.length qx, .slice pt xts.length qt, .string xn] 27) := ⟨_, rfl⟩
    rw [← hW7] at HO HP HB hh
    have HHH := hide hh
    have HW7 := hide hW7
    clear hq ho hh hW7 hlo2
    go_upto_region 6 with (fail)
    rw [HW7.out.symm]
    clear HW7
    have c0 := cell_of_heap HHH.out 0
    have c1 := cell_of_heap HHH.out 1
    have c2 := cell_of_heap HHH.out 2
    have c3 := cell_of_heap HHH.out 3
    have c4 := cell_of_heap HHH.out 4
    have c5 := cell_of_heap HHH.out 5
    have c6 := cell_of_heap HHH.out 6
    have c7 := cell_of_heap HHH.out 7
    simp at c0 c1 c2 c3 c4 c5 c6 c7
    have f0 := free_of_heap HP.out 0
    have g0 := cell_of_heap HP.out 0
    have f1 := free_of_heap HP.out 1
    have g1 := cell_of_heap HP.out 1
    have f2 := free_of_heap HP.out 2
    have g2 := cell_of_heap HP.out 2
    have f3 := free_of_heap HP.out 3
    have g3 := cell_of_heap HP.out 3
    have f4 := free_of_heap HP.out 4
    have g4 := cell_of_heap HP.out 4
    have f5 := free_of_heap HP.out 5
    have g5 := cell_of_heap HP.out 5
    have f6 := free_of_heap HP.out 6
    have g6 := cell_of_heap HP.out 6
    have f7 := free_of_heap HP.out 7
    have g7 := cell_of_heap HP.out 7
    have f8 := free_of_heap HP.out 8
    have g8 := cell_of_heap HP.out 8
    unfold rcZ at g0 g1 g2 g3 g4 g5 g6 g7 g8
    simp at g0 g1 g2 g3 g4 g5 g6 g7 g8
    go_wp2_with fail
    have hy := sets9_heap HP.out (.int .i64 W9) (.int .i64 k) (.int .i64 i) (.int .i64 n) (.int .i64 l) (.bool ps) (.slice px xps.length qx) (.slice pt xts.length qt) (.string xn)
    refine bodyPost_ret (results_ctt rfl _ _ w.heap.size _ _ _ _ rfl hy Tryd.underlying54 rfl (by kernel_rfl)) rfl ?_
    refine oneSaid_mk ⟨W9, ⟨k, i, n, l, ps, ⟨⟨xps, xts, xn⟩, .slice px xps.length qx, .slice pt xts.length qt⟩⟩⟩ en (rdC ((sb s).drop 8) == 0) rfl ?_ (((((((((HB.out.setCell (Nat.le_refl _) _).setCell (Nat.le_refl _) _).setCell (Nat.le_refl _) _).setCell (Nat.le_refl _) _).setCell (Nat.le_refl _) _).setCell (Nat.le_refl _) _).setCell (Nat.le_refl _) _).setCell (Nat.le_refl _) _).setCell (Nat.le_refl _) _) (fun h => ?_) (fun h => ?_)
    · exact Own.base ((Own.set (Own.set (Own.set (Own.set (Own.set (Own.set (Own.set (Own.set (Own.set HO.out 0 (.int .i64 W9)) 1 (.int .i64 k)) 2 (.int .i64 i)) 3 (.int .i64 n)) 4 (.int .i64 l)) 5 (.bool ps)) 6 (.slice px xps.length qx)) 7 (.slice pt xts.length qt)) 8 (.string xn))) (Nat.le_succ _)
    · rw [HON.out]
      cases hr : rdRq ((sb s).drop 8) with
      | none => rfl
      | some r => rw [(rdZ_some hr).2] at h; cases h
    · rw [HON.out]
      cases hr : rdRq ((sb s).drop 8) with
      | none => rw [(rdZ_none hr).2] at h; cases h
      | some r =>
        have h5 : RqV.r ⟨k, i, n, l, ps, ⟨⟨xps, xts, xn⟩, .slice px xps.length qx, .slice pt xts.length qt⟩⟩ = r := by rw [← (rdZ_some hr).1]; exact HQ.out
        rw [← h5]
        rfl
  · have HN := hide (rdOne_no H1.out H2.out hgo)
    clear hcv
    cases o with
    | false =>
      have f0 := free_of_heap HP.out 0
      have g0 := cell_of_heap HP.out 0
      have f1 := free_of_heap HP.out 1
      have g1 := cell_of_heap HP.out 1
      have f2 := free_of_heap HP.out 2
      have g2 := cell_of_heap HP.out 2
      have f3 := free_of_heap HP.out 3
      have g3 := cell_of_heap HP.out 3
      have f4 := free_of_heap HP.out 4
      have g4 := cell_of_heap HP.out 4
      have f5 := free_of_heap HP.out 5
      have g5 := cell_of_heap HP.out 5
      have f6 := free_of_heap HP.out 6
      have g6 := cell_of_heap HP.out 6
      have f7 := free_of_heap HP.out 7
      have g7 := cell_of_heap HP.out 7
      have f8 := free_of_heap HP.out 8
      have g8 := cell_of_heap HP.out 8
      unfold rcZ at g0 g1 g2 g3 g4 g5 g6 g7 g8
      simp at g0 g1 g2 g3 g4 g5 g6 g7 g8
      go_wp2_with fail
      have hy := sets9_heap HP.out (.int .i64 0) (.int .i64 0) (.int .i64 0) (.int .i64 0) (.int .i64 0) (.bool false) (.slice none 0 0) (.slice none 0 0) (.string ⟨#[]⟩)
      refine bodyPost_ret (results_ctt rfl _ _ w.heap.size _ _ _ _ rfl hy Tryd.underlying54 rfl (by kernel_rfl)) rfl ?_
      exact oneSaid_mk ⟨0, qz 0 0 0 0 false⟩ 0 false rfl ⟨World.ownsRow_nil _ _ _ _, World.ownsRow_nil _ _ _ _⟩ (((((((((HB.out.setCell (Nat.le_refl _) _).setCell (Nat.le_refl _) _).setCell (Nat.le_refl _) _).setCell (Nat.le_refl _) _).setCell (Nat.le_refl _) _).setCell (Nat.le_refl _) _).setCell (Nat.le_refl _) _).setCell (Nat.le_refl _) _).setCell (Nat.le_refl _) _) (fun _ => HN.out) (fun h => by cases h)
    | true =>
      cases is with
      | false =>
        have f0 := free_of_heap HP.out 0
        have g0 := cell_of_heap HP.out 0
        have f1 := free_of_heap HP.out 1
        have g1 := cell_of_heap HP.out 1
        have f2 := free_of_heap HP.out 2
        have g2 := cell_of_heap HP.out 2
        have f3 := free_of_heap HP.out 3
        have g3 := cell_of_heap HP.out 3
        have f4 := free_of_heap HP.out 4
        have g4 := cell_of_heap HP.out 4
        have f5 := free_of_heap HP.out 5
        have g5 := cell_of_heap HP.out 5
        have f6 := free_of_heap HP.out 6
        have g6 := cell_of_heap HP.out 6
        have f7 := free_of_heap HP.out 7
        have g7 := cell_of_heap HP.out 7
        have f8 := free_of_heap HP.out 8
        have g8 := cell_of_heap HP.out 8
        unfold rcZ at g0 g1 g2 g3 g4 g5 g6 g7 g8
        simp at g0 g1 g2 g3 g4 g5 g6 g7 g8
        go_wp2_with fail
        have hy := sets9_heap HP.out (.int .i64 0) (.int .i64 0) (.int .i64 0) (.int .i64 0) (.int .i64 0) (.bool false) (.slice none 0 0) (.slice none 0 0) (.string ⟨#[]⟩)
        refine bodyPost_ret (results_ctt rfl _ _ w.heap.size _ _ _ _ rfl hy Tryd.underlying54 rfl (by kernel_rfl)) rfl ?_
        exact oneSaid_mk ⟨0, qz 0 0 0 0 false⟩ 0 false rfl ⟨World.ownsRow_nil _ _ _ _, World.ownsRow_nil _ _ _ _⟩ (((((((((HB.out.setCell (Nat.le_refl _) _).setCell (Nat.le_refl _) _).setCell (Nat.le_refl _) _).setCell (Nat.le_refl _) _).setCell (Nat.le_refl _) _).setCell (Nat.le_refl _) _).setCell (Nat.le_refl _) _).setCell (Nat.le_refl _) _).setCell (Nat.le_refl _) _) (fun _ => HN.out) (fun h => by cases h)
      | true =>
        by_cases t1 : W9 < least
        · have d1 : decide (W9 < least) = true := decide_eq_true t1
          clear hgo
          have f0 := free_of_heap HP.out 0
          have g0 := cell_of_heap HP.out 0
          have f1 := free_of_heap HP.out 1
          have g1 := cell_of_heap HP.out 1
          have f2 := free_of_heap HP.out 2
          have g2 := cell_of_heap HP.out 2
          have f3 := free_of_heap HP.out 3
          have g3 := cell_of_heap HP.out 3
          have f4 := free_of_heap HP.out 4
          have g4 := cell_of_heap HP.out 4
          have f5 := free_of_heap HP.out 5
          have g5 := cell_of_heap HP.out 5
          have f6 := free_of_heap HP.out 6
          have g6 := cell_of_heap HP.out 6
          have f7 := free_of_heap HP.out 7
          have g7 := cell_of_heap HP.out 7
          have f8 := free_of_heap HP.out 8
          have g8 := cell_of_heap HP.out 8
          unfold rcZ at g0 g1 g2 g3 g4 g5 g6 g7 g8
          simp at g0 g1 g2 g3 g4 g5 g6 g7 g8
          go_wp2_with fail
          have hy := sets9_heap HP.out (.int .i64 0) (.int .i64 0) (.int .i64 0) (.int .i64 0) (.int .i64 0) (.bool false) (.slice none 0 0) (.slice none 0 0) (.string ⟨#[]⟩)
          refine bodyPost_ret (results_ctt rfl _ _ w.heap.size _ _ _ _ rfl hy Tryd.underlying54 rfl (by kernel_rfl)) rfl ?_
          exact oneSaid_mk ⟨0, qz 0 0 0 0 false⟩ 0 false rfl ⟨World.ownsRow_nil _ _ _ _, World.ownsRow_nil _ _ _ _⟩ (((((((((HB.out.setCell (Nat.le_refl _) _).setCell (Nat.le_refl _) _).setCell (Nat.le_refl _) _).setCell (Nat.le_refl _) _).setCell (Nat.le_refl _) _).setCell (Nat.le_refl _) _).setCell (Nat.le_refl _) _).setCell (Nat.le_refl _) _).setCell (Nat.le_refl _) _) (fun _ => HN.out) (fun h => by cases h)
        · have d1 : decide (W9 < least) = false := decide_eq_false t1
          have t2 : W9 > 1099511627776 := by
            refine Classical.byContradiction (fun h => hgo ⟨rfl, rfl, by omega, by omega⟩)
          have d2 : decide (W9 > 1099511627776) = true := decide_eq_true t2
          clear hgo
          have f0 := free_of_heap HP.out 0
          have g0 := cell_of_heap HP.out 0
          have f1 := free_of_heap HP.out 1
          have g1 := cell_of_heap HP.out 1
          have f2 := free_of_heap HP.out 2
          have g2 := cell_of_heap HP.out 2
          have f3 := free_of_heap HP.out 3
          have g3 := cell_of_heap HP.out 3
          have f4 := free_of_heap HP.out 4
          have g4 := cell_of_heap HP.out 4
          have f5 := free_of_heap HP.out 5
          have g5 := cell_of_heap HP.out 5
          have f6 := free_of_heap HP.out 6
          have g6 := cell_of_heap HP.out 6
          have f7 := free_of_heap HP.out 7
          have g7 := cell_of_heap HP.out 7
          have f8 := free_of_heap HP.out 8
          have g8 := cell_of_heap HP.out 8
          unfold rcZ at g0 g1 g2 g3 g4 g5 g6 g7 g8
          simp at g0 g1 g2 g3 g4 g5 g6 g7 g8
          go_wp2_with fail
          have hy := sets9_heap HP.out (.int .i64 0) (.int .i64 0) (.int .i64 0) (.int .i64 0) (.int .i64 0) (.bool false) (.slice none 0 0) (.slice none 0 0) (.string ⟨#[]⟩)
          refine bodyPost_ret (results_ctt rfl _ _ w.heap.size _ _ _ _ rfl hy Tryd.underlying54 rfl (by kernel_rfl)) rfl ?_
          exact oneSaid_mk ⟨0, qz 0 0 0 0 false⟩ 0 false rfl ⟨World.ownsRow_nil _ _ _ _, World.ownsRow_nil _ _ _ _⟩ (((((((((HB.out.setCell (Nat.le_refl _) _).setCell (Nat.le_refl _) _).setCell (Nat.le_refl _) _).setCell (Nat.le_refl _) _).setCell (Nat.le_refl _) _).setCell (Nat.le_refl _) _).setCell (Nat.le_refl _) _).setCell (Nat.le_refl _) _).setCell (Nat.le_refl _) _) (fun _ => HN.out) (fun h => by cases h)
end Go.Proofs.YtjmmmpnpkialjaaDoor
