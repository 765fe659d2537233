/- A pile of ints: slices.Insert, Delete; New, Put, Len, Pop. Conditions: none. -/
import Derived.Test.YtnnkbicaokckbaaDoorSeq
import Derived.Test.YtnnkbicaokckbaaDoorCopy
import Derived.Test.YtnnkbicaokckbaaDoorTail
import Derived.Test.YtnnkbicaokckbaaDoorPileW
import Derived.Test.YtnnkbicaokckbaaDoorLow
namespace Go.Proofs.YtnnkbicaokckbaaDoor
open Go.RowKit Go.Shelf

theorem pi_slT : SlT Tryd.prog 27 3 (.int .i64 0) 1 8 := ⟨Tryd.underlying27, by kernel_rfl, rfl, by decide⟩
set_option maxHeartbeats 4000000 in
set_option maxRecDepth 100000 in
/-- slices.Insert of one element. -/
theorem pi_insert {base : Nat} (w : World) (ao : Option Addr) (n cap i : Nat) (xs : List Value) (vb : Nat) (vs : List Value) (ho : w.ownsRow base 3 1 (.slice ao n cap) n xs) (hi : i ≤ n)
    (hv : w.heap[vb]? = some (.cells vs.toArray 3 (0, 0))) (hvl : vs.length = 1) (h1 : ∀ u ∈ xs, u.oneCell' = true) (h2 : ∀ u ∈ vs, u.oneCell' = true) (hne : ∀ k, (Value.slice ao n cap).ownBlock = some k → k ≠ vb)
    (hm : n ≤ 1000000) (hbase : base ≤ w.heap.size) :
    Calls Tryd.prog 117 #[.slice ao n cap, .int .i64 i, .slice (some ⟨vb, 0, none⟩) 1 1] w (Insd base 3 1 w ao n cap (insRow 1 i xs vs)) := by
  have hxl : xs.length = n * 1 := ho.1
  have hR : Rd w (.slice (some ⟨vb, 0, none⟩) 1 1) 1 vs := by
    have := CellsAt.of_heap hv 0 vs.length
    exact Rd.mk (Nat.le_refl _) (by simpa using this)
  have HR := hide hR
  have HO := hide ho
  have H1 := hide h1
  have H2 := hide h2
  have HV := hide hv
  have HVL := hide hvl
  have HXL := hide hxl
  have HB := hide hbase
  have HM : Hid (maxLen = 9223372036854775807) := rfl
  clear hR h1 h2 hv hvl hxl hbase
  by_cases hin : i = n
  · subst hin
    clear ho hne
    go_enter Tryd.func117, Tryd.ntmps117
    go_wp2_with (at_builtin; refine wpl_append rfl (.tmp 23) (.tmp 24) _ rfl pi_slT base HO.out HR.out rfl rfl (by rw [HVL.out]) H2.out (by rw [HM.out]; omega) (by omega) HB.out ?_; intro ao1 cap1 w1 hown hg hat hnil; have HO1 := hide hown; have HG1 := hide hg; have HA1 := hide hat; clear hown hg hat hnil)
    all_goals go_ret
    all_goals
      refine ⟨ao1, cap1, rfl, ?_, HG1.out.mono (fun k _ e => own_slice ao _ _ _ _ ▸ e), fun k hk => own_slice ao i cap _ _ ▸ hat_of HA1.out k hk⟩
      have := HO1.out
      have hle : xs.length ≤ i * 1 := by rw [HXL.out]; omega
      rwa [insRow, List.take_of_length_le hle, List.drop_eq_nil_of_le hle, List.append_nil]
  · have hlt : i < n := by omega
    rcases ho.2 with ⟨e0, _⟩ | ⟨g, cap', cur, e0, hbg, hgg, hnc, hcm, hcs, ht⟩
    · cases e0; omega
    cases e0
    have HN := hide (hne g rfl)
    have HG := hide hgg
    have HBG := hide hbg
    have HCS := hide hcs
    have HT := hide ht
    have hcm2 : cap ≤ 9223372036854775807 := hcm
    have hms : (n + 1) * 1 = n * 1 + 1 := by omega
    have HXS := hide (CellsAt.of_heap hgg 0 (n * 1))
    rw [List.drop_zero, ht] at HXS
    have HC : Hid (CellsAt w g (i * 1) (xs.drop (i * 1))) := fun j u hu => by
      rw [List.getElem?_drop] at hu
      have := HXS.out (i * 1 + j) u hu
      rwa [Nat.zero_add] at this
    have hdl : (xs.drop (i * 1)).length = (n - i) * 1 := by rw [List.length_drop, HXL.out]; omega
    have HDL := hide hdl
    have HXT : Hid (∀ u ∈ xs.drop (i * 1), u.oneCell' = true) := fun u hu => H1.out u (List.mem_of_mem_drop hu)
    have HVS : Hid (CellsAt w vb 0 vs) := by
      have := CellsAt.of_heap HV.out 0 vs.length
      rwa [List.drop_zero, List.take_of_length_le (by simp)] at this
    have a1 : IntKind.i64.wrap ((i : Int) + 1) = (i : Int) + 1 := IntWalk.i64_in _ (by omega)
    have A1 := hide a1
    clear hne hgg hbg hcs ht hcm ho hms hdl a1
    by_cases hroom : n + 1 ≤ cap
    · have hov := fun (oa la qa ob lb qb : Nat) => run_overlaps (P := Tryd.prog) (tR := 4) w pi_slT Tryd.func123 (by kernel_rfl) (by kernel_rfl) (by kernel_rfl) (by kernel_rfl) HV.out HG.out (fun e => HN.out e.symm) (by rw [HCS.out]; omega) oa la qa ob lb qb
      go_enter Tryd.func117, Tryd.ntmps117
      go_wp2_with (simp only [hov])
      all_goals
        clear hov
        have a1 := A1.out
        refine wp_region_quiet_tail 8 (by kernel_rfl) (by kernel_rfl) ?_
        simp only [List.take_succ_cons, List.take_zero, List.drop_succ_cons, List.drop_zero]
        repeat (go_big_quiet_step (fail))
        refine wpQuiet_nil ?_
        intro _ hw'
        obtain ⟨nq, hw''⟩ := hw'
        subst hw''
        clear a1
        refine wpl_copy rfl (.tmp 73) (.tmp 76) 27 27 rfl pi_slT (cur := cur.toList) (by exact HG.out) rfl rfl (cs := xs.drop (i * 1)) (by first | exact HC.out | (have := HC.out; simp only [Nat.mul_one] at this ⊢; exact this)) (by rw [HDL.out]; omega) (by rw [HDL.out]; simp [HCS.out]; omega) HXT.out ?_
        intro w2 hg2 hc2
        have HG2 := hide hg2
        have HC2 := hide hc2
        clear hg2 hc2
        go_wp2_with (first
          | (refine wpl_copy rfl (.tmp 80) (.tmp 81) 27 27 rfl pi_slT HG2.out rfl rfl (cs := vs) ((show CellsAt (w.drewN nq) vb 0 vs from HVS.out).chg HC2.out (fun _ e => HN.out e.symm)) (by rw [HVL.out]; omega) (by rw [lay_length _ _ _ (by rw [HDL.out, Array.length_toList, HCS.out]; omega), HVL.out, Array.length_toList, HCS.out]; omega) H2.out ?_; intro w3 hg3 hc3; have HG3 := hide hg3; have HC3 := hide hc3; clear hg3 hc3))
        go_ret
        have e1 : (n + 1) * 1 ≤ cap * 1 := Nat.mul_le_mul_right _ hroom
        have hL : cur.toList.length = cap * 1 := by rw [Array.length_toList, HCS.out]
        have h3 := lay_two' cur.toList xs vs (xs.drop (i * 1)) (i * 1) (by rw [← HT.out, List.take_take, Nat.min_eq_left (by omega)]) (by rw [HXL.out]; omega) (by rw [HVL.out, HDL.out, hL]; omega)
        have hl0 := lay_length cur.toList (i * 1 + vs.length) (xs.drop (i * 1)) (by rw [HDL.out, HVL.out, hL]; omega)
        have hl := lay_length (lay cur.toList (i * 1 + vs.length) (xs.drop (i * 1))) (i * 1) vs (by rw [hl0, HVL.out, hL]; omega)
        rw [hl0, hL] at hl
        have e3 : i * 1 + (vs.length + (xs.drop (i * 1)).length) = (n + 1) * 1 := by rw [HVL.out, HDL.out]; omega
        rw [e3] at h3
        have e4 : i * 1 + vs.length = (i + 1) * 1 := by rw [HVL.out]; omega
        rw [e4] at h3 hl
        have e5 : (xs.take (i * 1) ++ (vs ++ xs.drop (i * 1))).length = (n + 1) * 1 := by rw [← e3, List.length_append, List.length_append, List.length_take, HXL.out]; omega
        have hg3 := HG3.out
        refine ⟨some ⟨g, 0, none⟩, cap, rfl, ⟨e5, .inr ⟨g, cap, _, rfl, HBG.out, hg3, hroom, by rw [HM.out]; omega, ?_, ?_⟩⟩, ?_, fun k hk => .inl hk⟩
        · rw [List.size_toArray]
          first | exact hl | (simp only [Nat.mul_one] at hl ⊢; exact hl)
        · unfold insRow
          first | exact h3 | (simp only [Nat.mul_one] at h3 ⊢; exact h3)
        · exact ((Chg.drewN (fun k => k = g) w nq).trans HC2.out (fun _ _ h => h) (fun _ _ h => h)).trans HC3.out (fun _ _ h => (show some g = some _ from congrArg some h.symm)) (fun _ _ h => (show some g = some _ from congrArg some h.symm))
    · go_enter Tryd.func117, Tryd.ntmps117
      go_wp2_with (first
        | (refine wpl_copy rfl (.tmp 43) (.tmp 44) 27 27 rfl pi_slT HG1.out rfl rfl (cs := vs) (HVS.out.chg HC1.out (fun _ h => h)) (by rw [HVL.out]; omega) (by rw [List.length_append, List.length_take, HXL.out, HZL.out, HVL.out]; omega) H2.out ?_; intro w2 hg2 hc2; have HG2 := hide hg2; have HC2 := hide hc2; clear hg2 hc2)
        | (at_builtin; refine wpl_append_zeros rfl (.tmp 34) (.tmp 39) _ _ rfl pi_slT (kn := .i64) (k := n + 1 - i) (N := n + 1) Tryd.underlying3 (by omega) rfl (Rd.of_owns (ownsRow_take HO.out i hi)) (by rw [List.length_take, HXL.out]; omega) rfl (by show Value.int _ _ = _; congr 1; omega) (by omega) (by omega) (by omega) (by rw [HM.out]; omega) ?_; intro c1 w1 zs hc1 hc2 hzl hg1 hch1; have HZL := hide hzl; have HG1 := hide hg1; have HC1 := hide hch1; have HCM := hide hc2; rw [HM.out] at hc2; clear hzl hg1 hch1))
      all_goals
        go_simp
        have a1 := A1.out
        refine wp_region_quiet_tail 8 (by kernel_rfl) (by kernel_rfl) ?_
        simp only [List.take_succ_cons, List.take_zero, List.drop_succ_cons, List.drop_zero]
        repeat (go_big_quiet_step (fail))
        refine wpQuiet_nil ?_
        intro _ hw'
        obtain ⟨nq, hw''⟩ := hw'
        subst hw''
        clear a1
        refine wpl_copy rfl (.tmp 50) (.tmp 53) 27 27 rfl pi_slT (by exact HG2.out) rfl rfl (cs := xs.drop (i * 1)) (by have := (HC.out.chg HC1.out (fun _ h => h)).chg HC2.out (fun _ e => by have := (Array.getElem?_eq_some_iff.1 HG.out).1; omega); first | exact this | (simp only [Nat.mul_one] at this ⊢; exact this)) (by rw [HDL.out]; omega) (by rw [HDL.out, lay_length, List.length_append, List.length_take, HXL.out, HZL.out]; omega; rw [List.length_append, List.length_take, HXL.out, HZL.out, HVL.out]; omega) HXT.out ?_
        intro w3 hg3 hc3
        have HG3 := hide hg3
        have HC3 := hide hc3
        clear hg3 hc3
        go_wp2_with fail
        go_ret
        have h3 := lay_two (xs.take (i * 1) ++ zs) xs vs (xs.drop (i * 1)) (i * 1) (List.take_left' (by rw [List.length_take, HXL.out]; omega)) (by rw [HXL.out]; omega)
        have hL : (xs.take (i * 1) ++ zs).length = c1 * 1 := by rw [List.length_append, List.length_take, HXL.out, HZL.out]; omega
        have hl0 := lay_length (xs.take (i * 1) ++ zs) (i * 1) vs (by rw [hL, HVL.out]; omega)
        have hl := lay_length (lay (xs.take (i * 1) ++ zs) (i * 1) vs) (i * 1 + vs.length) (xs.drop (i * 1)) (by rw [hl0, hL, HVL.out, HDL.out]; omega)
        rw [hl0, hL] at hl
        have e3 : i * 1 + (vs.length + (xs.drop (i * 1)).length) = (n + 1) * 1 := by rw [HVL.out, HDL.out]; omega
        rw [e3] at h3
        have e4 : i * 1 + vs.length = (i + 1) * 1 := by rw [HVL.out]; omega
        rw [e4] at h3 hl
        have e5 : (xs.take (i * 1) ++ (vs ++ xs.drop (i * 1))).length = (n + 1) * 1 := by rw [← e3, List.length_append, List.length_append, List.length_take, HXL.out]; omega
        have hg3 := HG3.out
        refine ⟨some ⟨w.heap.size, 0, none⟩, c1, rfl, ⟨e5, .inr ⟨w.heap.size, c1, _, rfl, HB.out, hg3, by omega, HCM.out, ?_, ?_⟩⟩, ?_, fun k hk => .inr (by cases hk; exact Nat.le_refl _)⟩
        · rw [List.size_toArray]
          first | exact hl | (simp only [Nat.mul_one] at hl ⊢; exact hl)
        · unfold insRow
          first | exact h3 | (simp only [Nat.mul_one] at h3 ⊢; exact h3)
        · have c2 : Chg (fun k => k = w.heap.size) w (w2.drewN nq) := (HC1.out.trans HC2.out (fun _ _ h => h.elim) (fun _ _ h => h)).trans (Chg.drewN (fun _ => False) w2 nq) (fun _ _ h => h) (fun _ _ h => h.elim)
          exact c2.trans HC3.out (fun k hk h => absurd hk (by omega)) (fun k hk h => absurd hk (by omega))
set_option maxHeartbeats 4000000 in
set_option maxRecDepth 100000 in
/-- slices.Delete of the first element. -/
theorem pi_delete1 {base : Nat} (w : World) (ao : Option Addr) (xs : List Value) (ho : w.ownsRow base 3 1 (.slice ao (0 + 1) 1) (0 + 1) xs) (h1 : ∀ u ∈ xs, u.oneCell' = true) (_hm : 0 ≤ 1000000) :
    Calls Tryd.prog 103 #[.slice ao (0 + 1) 1, .int .i64 0, .int .i64 1] w (Delt base 3 1 w ao 0 1 (delRow 1 xs)) := by
  have HO := hide ho
  have H1 := hide h1
  have HXL : Hid (xs.length = (0 + 1) * 1) := ho.1
  rcases ho.2 with ⟨e0, _⟩ | ⟨g, cap', cur, e0, hbg, hgg, hnc, hcm, hcs, ht⟩
  · cases e0
  cases e0
  have HT := hide ht
  have hms : (0 + 1) * 1 = 0 * 1 + 1 := by omega
  have HXS := hide (CellsAt.of_heap hgg 0 ((0 + 1) * 1))
  rw [List.drop_zero, ht] at HXS
  have HC : Hid (CellsAt w g 1 (xs.drop 1)) := fun j u hu => by
    rw [List.getElem?_drop] at hu
    have := HXS.out (1 + j) u hu
    rwa [Nat.zero_add] at this
  have hdl : (xs.drop 1).length = 0 * 1 := by have := HXL.out; rw [List.length_drop]; omega
  have HDL := hide hdl
  have HT0 : Hid (w.ownsRow base 3 1 (.slice (some ⟨g, 0, none⟩) 0 1) 0 []) := by
    have := ownsRow_take HO.out 0 (by omega)
    rwa [Nat.zero_mul, List.take_zero] at this
  have HD : Hid (∀ u ∈ xs.drop 1, u.oneCell' = true) := fun u hu => H1.out u (List.mem_of_mem_drop hu)
  have hcm2 : 1 ≤ 9223372036854775807 := hcm
  have HBG := hide hbg
  clear ho h1 hbg hgg hcm hcs ht hms hdl
  go_enter Tryd.func103, Tryd.ntmps103
  go_wp2_with fail
  refine wp_region_quiet_tail 6 (by kernel_rfl) (by kernel_rfl) ?_
  simp only [List.take_succ_cons, List.take_zero, List.drop_succ_cons, List.drop_zero]
  repeat (go_big_quiet_step (fail))
  refine wpQuiet_nil ?_
  intro _ hw'
  obtain ⟨nq, hw''⟩ := hw'
  subst hw''
  refine wpl_append_fits rfl (.tmp 22) (.tmp 25) 27 rfl pi_slT base (by exact HT0.out) (m := 0) ?hr rfl rfl HDL.out HD.out (by omega) ?_
  case hr =>
    first
      | exact Rd.mk (by omega) (by exact HC.out)
      | (have hnil : xs.drop 1 = [] := List.eq_nil_of_length_eq_zero (by have := HDL.out; omega)
         rw [hnil]
         exact Rd.mk (by omega) (fun j u hu => by cases hu))
  intro w1 hown hg1
  rw [Nat.zero_add, List.nil_append] at *
  have HO1 := hide hown
  have HG1 := hide hg1
  clear hown hg1
  rcases HO1.out.2 with ⟨e0, _⟩ | ⟨g', cap', cur1, e0, hbg1, hgg1, hnc1, hcm1, hcs1, ht1⟩
  · cases e0
  cases e0
  have HGG1 := hide hgg1
  have HCS1 := hide hcs1
  have HT1 := hide ht1
  have HCM1 := hide hcm1
  clear hbg1 hgg1 hcs1 ht1 hcm1
  go_wp2_with (refine wpl_clear rfl (.tmp 31) 27 rfl pi_slT (m := 1) (cur := cur1.toList) (by exact HGG1.out) rfl (by omega) (by rw [Array.length_toList, HCS1.out]; omega) (by decide) ?_; intro w2 zs hzl hg2 hc2; have HZL := hide hzl; have HG2 := hide hg2; have HC2 := hide hc2; clear hzl hg2 hc2)
  go_ret
  have hL : cur1.toList.length = 1 * 1 := by rw [Array.length_toList, HCS1.out]
  have hll := lay_length cur1.toList (0 * 1) zs (by rw [HZL.out, hL]; omega)
  have hlt : (lay cur1.toList (0 * 1) zs).take (0 * 1) = xs.drop 1 := by
    rw [lay, List.take_append_of_le_length (by rw [List.length_take, hL]; omega), List.take_take, Nat.min_self, HT1.out]
  have hg2 := HG2.out
  refine ⟨by first | rfl | simp [*], ⟨HDL.out, .inr ⟨g, 1, _, rfl, HBG.out, hg2, hnc1, HCM1.out, ?_, ?_⟩⟩, ?_⟩
  · rw [List.size_toArray]
    rw [hL] at hll
    first | exact hll | (simp only [Nat.mul_one] at hll ⊢; exact hll)
  · first | exact hlt | (simp only [Nat.mul_one] at hlt ⊢; exact hlt)
  · exact ((Chg.drewN (fun k => k = g) w nq).trans HG1.out (fun _ _ h => h) (fun _ _ h => h)).trans HC2.out (fun _ _ h => (show some g = some _ from congrArg some h.symm)) (fun _ _ h => (show some g = some _ from congrArg some h.symm))
set_option maxHeartbeats 4000000 in
set_option maxRecDepth 100000 in
/-- slices.Delete of the first element. -/
theorem pi_deleteN {base : Nat} (w : World) (ao : Option Addr) (n cap : Nat) (xs : List Value) (ho : w.ownsRow base 3 1 (.slice ao (n + 1) cap) (n + 1) xs) (h1 : ∀ u ∈ xs, u.oneCell' = true) (hm : n ≤ 1000000) (hcF : (cap = 1) = False) :
    Calls Tryd.prog 103 #[.slice ao (n + 1) cap, .int .i64 0, .int .i64 1] w (Delt base 3 1 w ao n cap (delRow 1 xs)) := by
  have HO := hide ho
  have H1 := hide h1
  have HXL : Hid (xs.length = (n + 1) * 1) := ho.1
  rcases ho.2 with ⟨e0, _⟩ | ⟨g, cap', cur, e0, hbg, hgg, hnc, hcm, hcs, ht⟩
  · cases e0
  cases e0
  have HT := hide ht
  have hms : (n + 1) * 1 = n * 1 + 1 := by omega
  have HXS := hide (CellsAt.of_heap hgg 0 ((n + 1) * 1))
  rw [List.drop_zero, ht] at HXS
  have HC : Hid (CellsAt w g 1 (xs.drop 1)) := fun j u hu => by
    rw [List.getElem?_drop] at hu
    have := HXS.out (1 + j) u hu
    rwa [Nat.zero_add] at this
  have hdl : (xs.drop 1).length = n * 1 := by have := HXL.out; rw [List.length_drop]; omega
  have HDL := hide hdl
  have HT0 : Hid (w.ownsRow base 3 1 (.slice (some ⟨g, 0, none⟩) 0 cap) 0 []) := by
    have := ownsRow_take HO.out 0 (by omega)
    rwa [Nat.zero_mul, List.take_zero] at this
  have HD : Hid (∀ u ∈ xs.drop 1, u.oneCell' = true) := fun u hu => H1.out u (List.mem_of_mem_drop hu)
  have hcm2 : cap ≤ 9223372036854775807 := hcm
  have HBG := hide hbg
  clear ho h1 hbg hgg hcm hcs ht hms hdl
  go_enter Tryd.func103, Tryd.ntmps103
  go_wp2_with fail
  refine wp_region_quiet_tail 6 (by kernel_rfl) (by kernel_rfl) ?_
  simp only [List.take_succ_cons, List.take_zero, List.drop_succ_cons, List.drop_zero]
  repeat (go_big_quiet_step (fail))
  refine wpQuiet_nil ?_
  intro _ hw'
  obtain ⟨nq, hw''⟩ := hw'
  subst hw''
  refine wpl_append_fits rfl (.tmp 22) (.tmp 25) 27 rfl pi_slT base (by exact HT0.out) (m := n) ?hr rfl rfl HDL.out HD.out (by omega) ?_
  case hr =>
    first
      | exact Rd.mk (by omega) (by exact HC.out)
      | (have hnil : xs.drop 1 = [] := List.eq_nil_of_length_eq_zero (by have := HDL.out; omega)
         rw [hnil]
         exact Rd.mk (by omega) (fun j u hu => by cases hu))
  intro w1 hown hg1
  rw [Nat.zero_add, List.nil_append] at *
  have HO1 := hide hown
  have HG1 := hide hg1
  clear hown hg1
  rcases HO1.out.2 with ⟨e0, _⟩ | ⟨g', cap', cur1, e0, hbg1, hgg1, hnc1, hcm1, hcs1, ht1⟩
  · cases e0
  cases e0
  have HGG1 := hide hgg1
  have HCS1 := hide hcs1
  have HT1 := hide ht1
  have HCM1 := hide hcm1
  clear hbg1 hgg1 hcs1 ht1 hcm1
  go_wp2_with (refine wpl_clear rfl (.tmp 31) 27 rfl pi_slT (m := 1) (cur := cur1.toList) (by exact HGG1.out) rfl (by omega) (by rw [Array.length_toList, HCS1.out]; omega) (by decide) ?_; intro w2 zs hzl hg2 hc2; have HZL := hide hzl; have HG2 := hide hg2; have HC2 := hide hc2; clear hzl hg2 hc2)
  go_ret
  have hL : cur1.toList.length = cap * 1 := by rw [Array.length_toList, HCS1.out]
  have hll := lay_length cur1.toList (n * 1) zs (by rw [HZL.out, hL]; omega)
  have hlt : (lay cur1.toList (n * 1) zs).take (n * 1) = xs.drop 1 := by
    rw [lay, List.take_append_of_le_length (by rw [List.length_take, hL]; omega), List.take_take, Nat.min_self, HT1.out]
  have hg2 := HG2.out
  refine ⟨by first | rfl | simp [*], ⟨HDL.out, .inr ⟨g, cap, _, rfl, HBG.out, hg2, hnc1, HCM1.out, ?_, ?_⟩⟩, ?_⟩
  · rw [List.size_toArray]
    rw [hL] at hll
    first | exact hll | (simp only [Nat.mul_one] at hll ⊢; exact hll)
  · first | exact hlt | (simp only [Nat.mul_one] at hlt ⊢; exact hlt)
  · exact ((Chg.drewN (fun k => k = g) w nq).trans HG1.out (fun _ _ h => h) (fun _ _ h => h)).trans HC2.out (fun _ _ h => (show some g = some _ from congrArg some h.symm)) (fun _ _ h => (show some g = some _ from congrArg some h.symm))
theorem pi_delete {base : Nat} (w : World) (ao : Option Addr) (n cap : Nat) (xs : List Value) (ho : w.ownsRow base 3 1 (.slice ao (n + 1) cap) (n + 1) xs) (h1 : ∀ u ∈ xs, u.oneCell' = true) (hm : n ≤ 1000000) :
    Calls Tryd.prog 103 #[.slice ao (n + 1) cap, .int .i64 0, .int .i64 1] w (Delt base 3 1 w ao n cap (delRow 1 xs)) := by
  by_cases hc : cap = 1
  · subst hc
    obtain rfl : n = 0 := by have := ownsRow_cap ho; omega
    exact pi_delete1 w ao xs ho h1 hm
  · exact pi_deleteN w ao n cap xs ho h1 hm (by simp [hc])
/-- What a pile's order answers. -/
def pi_Less (g : Nat) (lt : Int → Int → Bool) : Prop := (∀ args w, (callFunc g args).run Tryd.prog w = .ok (.enter g args) w) ∧ ∀ (W : World) (x y : Int), Calls Tryd.prog g #[Value.int .i64 x, Value.int .i64 y] W fun e W' => e = .returned (.bool (lt x y)) ∧ W' = W
def pi_At (base : Nat) (w : World) (p g : Nat) (ao : Option Addr) (cap : Nat) (l : List (Int)) : Prop := PileAt 114 3 1 base w p (.func (.func g) #[] #[]) ao cap l.length (l.map (Value.int .i64))
def pi_Grew (base : Nat) (w : World) (p g : Nat) (ao : Option Addr) (l : List (Int)) (w' : World) : Prop := Grew 114 3 1 base w p (.func (.func g) #[] #[]) ao l.length (l.map (Value.int .i64)) w'

set_option maxHeartbeats 4000000 in
set_option maxRecDepth 100000 in
theorem pi_put {base : Nat} (w : World) (p g : Nat) (ao : Option Addr) (cap : Nat) (l : List (Int)) (lt : Int → Int → Bool) (x : Int) (hle : pi_Less g lt) (h : pi_At base w p g ao cap l) (hl : l.length < 1000) :
    Calls Tryd.prog 101 #[.pointer (some ⟨p, 0, none⟩), Value.int .i64 x] w fun e w' => e = .returned (.tuple #[]) ∧ pi_Grew base w p g ao (ins lt l x) w' := by
  have eg := hle.1
  have EG := hide eg
  have HL := hide hle.2
  have HP := hide h
  have h0 := h.c0
  have h1 := h.c1
  have HB := hide h.low
  have hpl := (h.lt p (.inl rfl)).2
  have HPL := hide hpl
  clear hle eg h hpl
  go_enter Tryd.func101, Tryd.ntmps101
  go_wp2_with fail
  go_loopw [4] (fun i wr => ∃ k q : Nat, k ≤ l.length ∧ i = .int .i64 k ∧ wr = w.drewN q ∧ Hid (∀ j (hj : j < l.length), k ≤ j → lt x l[j] = true)) (fun i _ => (intOf i).toNat)
  case atStart => exact ⟨l.length, 0, Nat.le_refl _, rfl, rfl, fun j hj h => absurd hj (by omega)⟩
  case round =>
    obtain ⟨k, q, hk, rfl, rfl, HA⟩ := hrel
    cases k with
    | zero =>
      have hd : decide ((0 : Int) < 0) = false := rfl
      go_wp2_with fail
      go_quiet (fail)
      go_wp2_with fail
      have hb2 := HP.out
      have hi := pi_insert (base := base) ((w.drewN (q + nq)).alloc (.cells #[Value.int .i64 x] 3)) ao l.length cap (0) (l.map (Value.int .i64)) w.heap.size [Value.int .i64 x] (((hb2.drewN (q + nq)).chg (Chg.alloc (fun _ => False) _ _) (fun _ _ h => h)).2.1) hk (heap_alloc_new (w.drewN (q + nq)) _) rfl (fun u hu => by obtain ⟨y, _, rfl⟩ := List.mem_map.1 hu; rfl) (fun u hu => by rw [List.mem_singleton.1 hu]; rfl) (fun k hk => by have := (hb2.lt k (.inr (own_slice ao _ _ _ _ ▸ hk))).2; omega) (by omega) (by have := HB.out; simp; omega)
      clear hb2
      refine (hi).mono ?_
      rintro e w1 hins
      obtain ⟨ao1, cap1, rfl, hc1, hf1, hgr⟩ := pile_ins (HP.out.drewN (q + nq)) (by decide) hl hins
      have HGR := hide hgr
      clear hins hgr hi
      go_wp2_with fail
      go_end0
      refine ⟨rfl, ?_⟩
      have hpl := placeOf_eq lt x l (0) hk HA.out (fun h => absurd h (by omega))
      have hg := HGR.out.of_drewN
      rw [← flat_one, flat_ins (size := 1) (fun _ => rfl) l _ x hk, flat_one] at hg
      unfold pi_Grew
      rw [ins_length]
      unfold ins
      rw [hpl]
      exact hg
    | succ m =>
      have hcm := HP.out.rd
      obtain ⟨ao', cap', e0, hnc, hcs0⟩ := hcm.shape
      obtain ⟨b, off, e1, hcs⟩ := hcs0 (by omega)
      cases e0
      subst e1
      have hcx := hcs m (Value.int .i64 l[m]) (by simp)
      have eg := EG.out
      have hml : m < l.length := by omega
      have a1 : IntKind.i64.wrap (m : Int) = m := IntWalk.i64_in _ (by omega)
      clear hcs hcs0 hcm
      cases hlx : lt x l[m] with
      | true =>
        have HX := hide hlx
        have hc : ∀ W, Calls Tryd.prog g #[Value.int .i64 x, Value.int .i64 l[m]] W fun e W' => e = .returned (.bool true) ∧ W' = W := fun W => by have := HL.out W x l[m]; rwa [hlx] at this
        clear hlx
        go_wp2_with fail
        go_quiet ((go_at_fn g; exact quiet_s (hc _)))
        clear hc
        go_wp2_with fail
        go_roundw
        case rel =>
          refine ⟨m, q + nq, by omega, by go_num, rfl, fun j hj h => ?_⟩
          by_cases e : j = m
          · subst e; exact HX.out
          · exact HA.out j hj (by omega)
        case measure => simp [intOf]
      | false =>
        have HX := hide hlx
        have hc : ∀ W, Calls Tryd.prog g #[Value.int .i64 x, Value.int .i64 l[m]] W fun e W' => e = .returned (.bool false) ∧ W' = W := fun W => by have := HL.out W x l[m]; rwa [hlx] at this
        clear hlx
        go_wp2_with fail
        go_quiet ((go_at_fn g; exact quiet_s (hc _)))
        clear hc
        go_wp2_with fail
        have hb2 := HP.out
        have hi := pi_insert (base := base) ((w.drewN (q + nq)).alloc (.cells #[Value.int .i64 x] 3)) (some ⟨b, off, none⟩) l.length cap (m + 1) (l.map (Value.int .i64)) w.heap.size [Value.int .i64 x] (((hb2.drewN (q + nq)).chg (Chg.alloc (fun _ => False) _ _) (fun _ _ h => h)).2.1) hk (heap_alloc_new (w.drewN (q + nq)) _) rfl (fun u hu => by obtain ⟨y, _, rfl⟩ := List.mem_map.1 hu; rfl) (fun u hu => by rw [List.mem_singleton.1 hu]; rfl) (fun k hk => by have := (hb2.lt k (.inr (own_slice (some ⟨b, off, none⟩) _ _ _ _ ▸ hk))).2; omega) (by omega) (by have := HB.out; simp; omega)
        clear hb2
        refine (hi).mono ?_
        rintro e w1 hins
        obtain ⟨ao1, cap1, rfl, hc1, hf1, hgr⟩ := pile_ins (HP.out.drewN (q + nq)) (by decide) hl hins
        have HGR := hide hgr
        clear hins hgr hi
        go_wp2_with fail
        go_end0
        refine ⟨rfl, ?_⟩
        have hpl := placeOf_eq lt x l (m + 1) hk HA.out (fun _ => HX.out)
        have hg := HGR.out.of_drewN
        rw [← flat_one, flat_ins (size := 1) (fun _ => rfl) l _ x hk, flat_one] at hg
        unfold pi_Grew
        rw [ins_length]
        unfold ins
        rw [hpl]
        exact hg
set_option maxRecDepth 100000 in
theorem pi_New (w : World) (g : Nat) : Calls Tryd.prog 70 #[.func (.func g) #[] #[]] w fun e w' => e = .returned (.pointer (some ⟨w.heap.size, 0, none⟩)) ∧ pi_At w.heap.size w' w.heap.size g none 0 [] ∧ Below w.heap.size w w' := by
  have hnn : ∀ w', Sem.run Tryd.prog (binOp BinOp.eql 40 (.func (.func g) #[] #[]) .nilFunc) w' = .ok (.bool false) w' := by intro w'; kernel_rfl
  go_enter Tryd.func70, Tryd.ntmps70
  go_wp2
  go_ret
  refine ⟨rfl, ?_, (Below.refl _ w).alloc (Nat.le_refl _) _⟩
  have h0 := heap_alloc_new w (.cells #[.func (.func g) #[] #[], .slice none 0 0] 114)
  unfold pi_At PileAt
  rw [List.length_nil, List.map_nil]
  refine ⟨h0, ?_, Nat.le_refl _, by omega⟩
  exact World.ownsRow_nil (w.alloc (.cells #[.func (.func g) #[] #[], .slice none 0 0] 114)) w.heap.size 3 1
set_option maxRecDepth 100000 in
theorem pi_New_nil (w : World) : Calls Tryd.prog 70 #[.nilFunc] w fun e w' => e = .returned (.pointer none) ∧ w' = w := by
  have hnn : ∀ w', Sem.run Tryd.prog (binOp BinOp.eql 40 .nilFunc .nilFunc) w' = .ok (.bool true) w' := by intro w'; kernel_rfl
  go_enter Tryd.func70, Tryd.ntmps70
  go_wp2
  go_ret
  exact ⟨rfl, rfl⟩
theorem pi_Len {base : Nat} (w : World) (p g : Nat) (ao : Option Addr) (cap : Nat) (l : List (Int)) (h : pi_At base w p g ao cap l) : Calls Tryd.prog 73 #[.pointer (some ⟨p, 0, none⟩)] w fun e w' => e = .returned (.int .i64 l.length) ∧ w' = w := by
  have h1 := h.c1
  clear h
  go_enter Tryd.func73, Tryd.ntmps73
  go_wp2
  go_ret
  exact ⟨rfl, rfl⟩
theorem pi_Len_nil (w : World) : Calls Tryd.prog 73 #[.pointer none] w fun e w' => e = .returned (.int .i64 0) ∧ w' = w := by
  go_enter Tryd.func73, Tryd.ntmps73
  go_wp2
  go_ret
  exact ⟨rfl, rfl⟩
theorem pi_First_nil (w : World) : Calls Tryd.prog 102 #[.pointer none] w fun e w' => e = .returned (.tuple #[.int .i64 0, .bool false]) ∧ w' = w := by
  go_enter Tryd.func102, Tryd.ntmps102
  go_wp2
  go_ret2
  exact ⟨rfl, rfl⟩
theorem pi_First_none {base : Nat} (w : World) (p g : Nat) (ao : Option Addr) (cap : Nat) (h : pi_At base w p g ao cap []) : Calls Tryd.prog 102 #[.pointer (some ⟨p, 0, none⟩)] w fun e w' => e = .returned (.tuple #[.int .i64 0, .bool false]) ∧ w' = w := by
  have h1 := h.c1
  simp only [List.length_nil] at h1
  clear h
  go_enter Tryd.func102, Tryd.ntmps102
  go_wp2
  go_ret2
  exact ⟨rfl, rfl⟩
theorem pi_First {base : Nat} (w : World) (p g : Nat) (ao : Option Addr) (cap : Nat) (x : Int) (l : List (Int)) (h : pi_At base w p g ao cap (x :: l)) : Calls Tryd.prog 102 #[.pointer (some ⟨p, 0, none⟩)] w fun e w' => e = .returned (.tuple #[Value.int .i64 x, .bool true]) ∧ w' = w := by
  have h1 := h.c1
  obtain ⟨ao', cap', e0, hnc, hcs0⟩ := h.rd.shape
  obtain ⟨b, off, e1, hcs⟩ := hcs0 (by simp)
  cases e0
  subst e1
  have hc0 := hcs 0 (Value.int .i64 x) rfl
  rw [Nat.add_zero] at hc0
  clear h hcs hcs0
  simp only [List.length_cons] at h1
  go_enter Tryd.func102, Tryd.ntmps102
  go_wp2
  go_ret2
  exact ⟨rfl, rfl⟩
set_option maxHeartbeats 1000000 in
theorem pi_Put {base : Nat} (w : World) (p g : Nat) (ao : Option Addr) (cap : Nat) (l : List (Int)) (lt : Int → Int → Bool) (hle : pi_Less g lt) (h : pi_At base w p g ao cap l) (vx : Value) (xs : List (Int)) (hx : Rd w vx xs.length (xs.map (Value.int .i64)))
    (hb : ∀ b, vx.ownBlock = some b → xs ≠ [] → ¬ PSet p ao b ∧ b < w.heap.size) (hl : l.length + xs.length ≤ 1000) :
    Calls Tryd.prog 72 #[.pointer (some ⟨p, 0, none⟩), vx] w fun e w' => e = .returned (.tuple #[]) ∧ pi_Grew base w p g ao (xs.foldl (ins lt) l) w' := by
  obtain ⟨av, cv, rfl, -, -⟩ := hx.shape
  have HX := hide hx
  have HL := hide hle
  have HB := hide hb
  have HP := hide h
  clear hx hle hb h
  go_enter Tryd.func72, Tryd.ntmps72
  go_wp2_with fail
  go_loopw [10] (fun i wr => ∃ k : Nat, k ≤ xs.length ∧ i = .int .i64 k ∧ Hid (pi_Grew base w p g ao ((xs.take k).foldl (ins lt) l) wr)) (fun i _ => xs.length - (intOf i).toNat)
  case atStart => exact ⟨0, Nat.zero_le _, rfl, Grew.refl HP.out⟩
  case round =>
    obtain ⟨k, hk, rfl, HG⟩ := hrel
    by_cases hlt : k < xs.length
    · obtain ⟨ao1, cap1, h1, hc1, hs1⟩ := HG.out
      have hne : xs ≠ [] := by rintro rfl; simp at hlt
      have hxr := HX.out.chg hc1 (fun b hb' _ => (HB.out b hb' hne).1)
      obtain ⟨a', c', e, -, hcs0⟩ := hxr.shape
      obtain ⟨b, off, rfl, hcs⟩ := hcs0 (by omega)
      cases e
      have hcx := hcs k (Value.int .i64 xs[k]) (by simp [hlt])
      have hlen : ∀ (ys l0 : List (Int)), (ys.foldl (ins lt) l0).length = l0.length + ys.length := by
        intro ys
        induction ys with
        | nil => simp
        | cons y ys ih => intro l0; rw [List.foldl_cons, ih, ins_length, List.length_cons]; omega
      have hll : ((xs.take k).foldl (ins lt) l).length < 1000 := by rw [hlen, List.length_take]; omega
      have H1 := hide h1
      have HC1 := hide hc1
      have HS1 := hide hs1
      have hput := pi_put wr p g ao1 cap1 ((xs.take k).foldl (ins lt) l) lt xs[k] HL.out h1 hll
      have HPUT := hide hput
      clear h1 hc1 hs1 hxr hcs hcs0 hlen hll hput HG hne
      go_wp2_with fail
      refine HPUT.out.mono ?_
      rintro e w2 ⟨rfl, hg2⟩
      have HG2 := hide hg2
      clear hg2
      go_wp2_with fail
      go_roundw
      case rel =>
        refine ⟨k + 1, by omega, by go_num, ?_⟩
        have hg := grew_trans HC1.out HS1.out HG2.out
        rw [take_succ_get xs k hlt, List.foldl_append]
        exact hg
      case measure => simp [intOf]; omega
    · obtain rfl : k = xs.length := by omega
      go_wp2_with fail
      go_end0
      refine ⟨rfl, ?_⟩
      have hg := HG.out
      rwa [List.take_length] at hg
theorem pi_Put_nil (w : World) (v : Value) : Calls Tryd.prog 72 #[.pointer none, v] w fun e w' => e = .returned (.tuple #[]) ∧ w' = w := by
  go_enter Tryd.func72, Tryd.ntmps72
  go_wp2_with fail
  exact bodyPost_ret (results_none rfl _ _ _) rfl ⟨rfl, rfl⟩
theorem pi_Pop_nil (w : World) : Calls Tryd.prog 74 #[.pointer none] w fun e w' => e = .returned (.tuple #[.int .i64 0, .bool false]) ∧ w' = w := by
  go_enter Tryd.func74, Tryd.ntmps74
  go_wp2_with fail
  refine (pi_First_nil w).mono ?_
  rintro e w1 ⟨rfl, rfl⟩
  go_wp2_with fail
  go_ret2
  exact ⟨rfl, rfl⟩
theorem pi_Pop_none {base : Nat} (w : World) (p g : Nat) (ao : Option Addr) (cap : Nat) (h : pi_At base w p g ao cap []) : Calls Tryd.prog 74 #[.pointer (some ⟨p, 0, none⟩)] w fun e w' => e = .returned (.tuple #[.int .i64 0, .bool false]) ∧ w' = w := by
  have HP := hide h
  clear h
  go_enter Tryd.func74, Tryd.ntmps74
  go_wp2_with fail
  refine (pi_First_none w p g ao cap HP.out).mono ?_
  rintro e w1 ⟨rfl, rfl⟩
  go_wp2_with fail
  go_ret2
  exact ⟨rfl, rfl⟩
set_option maxHeartbeats 1000000 in
theorem pi_Pop {base : Nat} (w : World) (p g : Nat) (ao : Option Addr) (cap : Nat) (x : Int) (l : List (Int)) (h : pi_At base w p g ao cap (x :: l)) : Calls Tryd.prog 74 #[.pointer (some ⟨p, 0, none⟩)] w fun e w' => e = .returned (.tuple #[Value.int .i64 x, .bool true]) ∧ pi_Grew base w p g ao l w' := by
  have h1 := h.c1
  simp only [List.length_cons] at h1
  have HP := hide h
  have hm := h.2.2.2
  clear h
  go_enter Tryd.func74, Tryd.ntmps74
  go_wp2_with fail
  refine (pi_First w p g ao cap x l HP.out).mono ?_
  rintro e w1 ⟨rfl, rfl⟩
  go_wp2_with fail
  refine (pi_delete (base := base) w1 ao l.length cap ((x :: l).map (Value.int .i64)) HP.out.2.1 (fun u hu => by obtain ⟨y, _, rfl⟩ := List.mem_map.1 hu; rfl) (by simp at hm; omega)).mono ?_
  intro e w2 hd
  obtain ⟨rfl, hc2, hf2, hg2⟩ := pile_del HP.out (by decide) hd
  have HG2 := hide hg2
  clear hd hg2
  go_wp2_with fail
  go_ret2
  exact ⟨rfl, HG2.out⟩
end Go.Proofs.YtnnkbicaokckbaaDoor
