/- cortegelaw2.Thing: slices.Insert, slices.Delete. -/
import Derived.Test.YtjgcicpclojfgaaSeqI
import Derived.Test.YtjgcicpclojfgaaCopy
import Derived.Test.YtjgcicpclojfgaaTail
namespace Go.Proofs.Ytjgcicpclojfgaa
open Go.RowKit Go.Shelf

theorem pt_slT : SlT Try.prog 45 43 (.agg #[.int .i64 0, .int .i64 0]) 2 16 := ⟨Try.underlying45, by kernel_rfl, rfl, by decide⟩
set_option maxHeartbeats 4000000 in
set_option maxRecDepth 100000 in
/-- slices.Insert of one element. -/
theorem pt_insert {base : Nat} (w : World) (ao : Option Addr) (n cap i : Nat) (xs : List Value) (vb : Nat) (vs : List Value) (ho : w.ownsRow base 43 2 (.slice ao n cap) n xs) (hi : i ≤ n)
    (hv : w.heap[vb]? = some (.cells vs.toArray 43 (0, 0))) (hvl : vs.length = 2) (h1 : ∀ u ∈ xs, u.oneCell' = true) (h2 : ∀ u ∈ vs, u.oneCell' = true) (hne : ∀ k, (Value.slice ao n cap).ownBlock = some k → k ≠ vb)
    (hm : n ≤ 1000000) (hbase : base ≤ w.heap.size) :
    Calls Try.prog 78 #[.slice ao n cap, .int .i64 i, .slice (some ⟨vb, 0, none⟩) 1 1] w (Insd base 43 2 w ao n cap (insRow 2 i xs vs)) := by
  have hxl : xs.length = n * 2 := ho.1
  have hR : Rd w (.slice (some ⟨vb, 0, none⟩) 1 1) 1 vs := by
    have := CellsAt.of_heap hv 0 vs.length
    exact Rd.mk (Nat.le_refl _) (by simpa using this)
  have HR := hide hR
  have HO := hide ho
  have H1 := hide h1
  have H2 := hide h2
  have HV := hide hv
  have HVL := hide hvl
  have HXL := hide hxl
  have HB := hide hbase
  have HM : Hid (maxLen = 9223372036854775807) := rfl
  clear hR h1 h2 hv hvl hxl hbase
  by_cases hin : i = n
  · subst hin
    clear ho hne
    go_enter Try.func78, Try.ntmps78
    go_wp2_with (at_builtin; refine wpl_append rfl (.tmp 23) (.tmp 24) _ rfl pt_slT base HO.out HR.out rfl rfl (by rw [HVL.out]) H2.out (by rw [HM.out]; omega) (by omega) HB.out ?_; intro ao1 cap1 w1 hown hg hat hnil; have HO1 := hide hown; have HG1 := hide hg; have HA1 := hide hat; clear hown hg hat hnil)
    all_goals go_ret
    all_goals
      refine ⟨ao1, cap1, rfl, ?_, HG1.out.mono (fun k _ e => own_slice ao _ _ _ _ ▸ e), fun k hk => own_slice ao i cap _ _ ▸ hat_of HA1.out k hk⟩
      have := HO1.out
      have hle : xs.length ≤ i * 2 := by rw [HXL.out]; omega
      rwa [insRow, List.take_of_length_le hle, List.drop_eq_nil_of_le hle, List.append_nil]
  · have hlt : i < n := by omega
    rcases ho.2 with ⟨e0, _⟩ | ⟨g, cap', cur, e0, hbg, hgg, hnc, hcm, hcs, ht⟩
    · cases e0; omega
    cases e0
    have HN := hide (hne g rfl)
    have HG := hide hgg
    have HBG := hide hbg
    have HCS := hide hcs
    have HT := hide ht
    have hcm2 : cap ≤ 9223372036854775807 := hcm
    have hms : (n + 1) * 2 = n * 2 + 2 := by omega
    have HXS := hide (CellsAt.of_heap hgg 0 (n * 2))
    rw [List.drop_zero, ht] at HXS
    have HC : Hid (CellsAt w g (i * 2) (xs.drop (i * 2))) := fun j u hu => by
      rw [List.getElem?_drop] at hu
      have := HXS.out (i * 2 + j) u hu
      rwa [Nat.zero_add] at this
    have hdl : (xs.drop (i * 2)).length = (n - i) * 2 := by rw [List.length_drop, HXL.out]; omega
    have HDL := hide hdl
    have HXT : Hid (∀ u ∈ xs.drop (i * 2), u.oneCell' = true) := fun u hu => H1.out u (List.mem_of_mem_drop hu)
    have HVS : Hid (CellsAt w vb 0 vs) := by
      have := CellsAt.of_heap HV.out 0 vs.length
      rwa [List.drop_zero, List.take_of_length_le (by simp)] at this
    have a1 : IntKind.i64.wrap ((i : Int) + 1) = (i : Int) + 1 := IntWalk.i64_in _ (by omega)
    have A1 := hide a1
    clear hne hgg hbg hcs ht hcm ho hms hdl a1
    by_cases hroom : n + 1 ≤ cap
    · have hov := fun (oa la qa ob lb qb : Nat) => run_overlaps (P := Try.prog) (tR := 4) w pt_slT Try.func93 (by kernel_rfl) (by kernel_rfl) (by kernel_rfl) (by kernel_rfl) HV.out HG.out (fun e => HN.out e.symm) (by rw [HCS.out]; omega) oa la qa ob lb qb
      go_enter Try.func78, Try.ntmps78
      go_wp2_with (simp only [hov])
      all_goals
        clear hov
        have a1 := A1.out
        refine wp_region_quiet_tail 8 (by kernel_rfl) (by kernel_rfl) ?_
        simp only [List.take_succ_cons, List.take_zero, List.drop_succ_cons, List.drop_zero]
        repeat (go_big_quiet_step (fail))
        refine wpQuiet_nil ?_
        intro _ hw'
        obtain ⟨nq, hw''⟩ := hw'
        subst hw''
        clear a1
        refine wpl_copy rfl (.tmp 73) (.tmp 76) 45 45 rfl pt_slT (cur := cur.toList) (by exact HG.out) rfl rfl (cs := xs.drop (i * 2)) (by first | exact HC.out | (have := HC.out; simp only [Nat.mul_one] at this ⊢; exact this)) (by rw [HDL.out]; omega) (by rw [HDL.out]; simp [HCS.out]; omega) HXT.out ?_
        intro w2 hg2 hc2
        have HG2 := hide hg2
        have HC2 := hide hc2
        clear hg2 hc2
        go_wp2_with (first
          | (refine wpl_copy rfl (.tmp 80) (.tmp 81) 45 45 rfl pt_slT HG2.out rfl rfl (cs := vs) ((show CellsAt (w.drewN nq) vb 0 vs from HVS.out).chg HC2.out (fun _ e => HN.out e.symm)) (by rw [HVL.out]; omega) (by rw [lay_length _ _ _ (by rw [HDL.out, Array.length_toList, HCS.out]; omega), HVL.out, Array.length_toList, HCS.out]; omega) H2.out ?_; intro w3 hg3 hc3; have HG3 := hide hg3; have HC3 := hide hc3; clear hg3 hc3))
        go_ret
        have e1 : (n + 1) * 2 ≤ cap * 2 := Nat.mul_le_mul_right _ hroom
        have hL : cur.toList.length = cap * 2 := by rw [Array.length_toList, HCS.out]
        have h3 := lay_two' cur.toList xs vs (xs.drop (i * 2)) (i * 2) (by rw [← HT.out, List.take_take, Nat.min_eq_left (by omega)]) (by rw [HXL.out]; omega) (by rw [HVL.out, HDL.out, hL]; omega)
        have hl0 := lay_length cur.toList (i * 2 + vs.length) (xs.drop (i * 2)) (by rw [HDL.out, HVL.out, hL]; omega)
        have hl := lay_length (lay cur.toList (i * 2 + vs.length) (xs.drop (i * 2))) (i * 2) vs (by rw [hl0, HVL.out, hL]; omega)
        rw [hl0, hL] at hl
        have e3 : i * 2 + (vs.length + (xs.drop (i * 2)).length) = (n + 1) * 2 := by rw [HVL.out, HDL.out]; omega
        rw [e3] at h3
        have e4 : i * 2 + vs.length = (i + 1) * 2 := by rw [HVL.out]; omega
        rw [e4] at h3 hl
        have e5 : (xs.take (i * 2) ++ (vs ++ xs.drop (i * 2))).length = (n + 1) * 2 := by rw [← e3, List.length_append, List.length_append, List.length_take, HXL.out]; omega
        have hg3 := HG3.out
        refine ⟨some ⟨g, 0, none⟩, cap, rfl, ⟨e5, .inr ⟨g, cap, _, rfl, HBG.out, hg3, hroom, by rw [HM.out]; omega, ?_, ?_⟩⟩, ?_, fun k hk => .inl hk⟩
        · rw [List.size_toArray]
          first | exact hl | (simp only [Nat.mul_one] at hl ⊢; exact hl)
        · unfold insRow
          first | exact h3 | (simp only [Nat.mul_one] at h3 ⊢; exact h3)
        · exact ((Chg.drewN (fun k => k = g) w nq).trans HC2.out (fun _ _ h => h) (fun _ _ h => h)).trans HC3.out (fun _ _ h => (show some g = some _ from congrArg some h.symm)) (fun _ _ h => (show some g = some _ from congrArg some h.symm))
    · go_enter Try.func78, Try.ntmps78
      go_wp2_with (first
        | (refine wpl_copy rfl (.tmp 43) (.tmp 44) 45 45 rfl pt_slT HG1.out rfl rfl (cs := vs) (HVS.out.chg HC1.out (fun _ h => h)) (by rw [HVL.out]; omega) (by rw [List.length_append, List.length_take, HXL.out, HZL.out, HVL.out]; omega) H2.out ?_; intro w2 hg2 hc2; have HG2 := hide hg2; have HC2 := hide hc2; clear hg2 hc2)
        | (at_builtin; refine wpl_append_zeros rfl (.tmp 34) (.tmp 39) _ _ rfl pt_slT (kn := .i64) (k := n + 1 - i) (N := n + 1) Try.underlying3 (by omega) rfl (Rd.of_owns (ownsRow_take HO.out i hi)) (by rw [List.length_take, HXL.out]; omega) rfl (by show Value.int _ _ = _; congr 1; omega) (by omega) (by omega) (by omega) (by rw [HM.out]; omega) ?_; intro c1 w1 zs hc1 hc2 hzl hg1 hch1; have HZL := hide hzl; have HG1 := hide hg1; have HC1 := hide hch1; have HCM := hide hc2; rw [HM.out] at hc2; clear hzl hg1 hch1))
      all_goals
        go_simp
        have a1 := A1.out
        refine wp_region_quiet_tail 8 (by kernel_rfl) (by kernel_rfl) ?_
        simp only [List.take_succ_cons, List.take_zero, List.drop_succ_cons, List.drop_zero]
        repeat (go_big_quiet_step (fail))
        refine wpQuiet_nil ?_
        intro _ hw'
        obtain ⟨nq, hw''⟩ := hw'
        subst hw''
        clear a1
        refine wpl_copy rfl (.tmp 50) (.tmp 53) 45 45 rfl pt_slT (by exact HG2.out) rfl rfl (cs := xs.drop (i * 2)) (by have := (HC.out.chg HC1.out (fun _ h => h)).chg HC2.out (fun _ e => by have := (Array.getElem?_eq_some_iff.1 HG.out).1; omega); first | exact this | (simp only [Nat.mul_one] at this ⊢; exact this)) (by rw [HDL.out]; omega) (by rw [HDL.out, lay_length, List.length_append, List.length_take, HXL.out, HZL.out]; omega; rw [List.length_append, List.length_take, HXL.out, HZL.out, HVL.out]; omega) HXT.out ?_
        intro w3 hg3 hc3
        have HG3 := hide hg3
        have HC3 := hide hc3
        clear hg3 hc3
        go_wp2_with fail
        go_ret
        have h3 := lay_two (xs.take (i * 2) ++ zs) xs vs (xs.drop (i * 2)) (i * 2) (List.take_left' (by rw [List.length_take, HXL.out]; omega)) (by rw [HXL.out]; omega)
        have hL : (xs.take (i * 2) ++ zs).length = c1 * 2 := by rw [List.length_append, List.length_take, HXL.out, HZL.out]; omega
        have hl0 := lay_length (xs.take (i * 2) ++ zs) (i * 2) vs (by rw [hL, HVL.out]; omega)
        have hl := lay_length (lay (xs.take (i * 2) ++ zs) (i * 2) vs) (i * 2 + vs.length) (xs.drop (i * 2)) (by rw [hl0, hL, HVL.out, HDL.out]; omega)
        rw [hl0, hL] at hl
        have e3 : i * 2 + (vs.length + (xs.drop (i * 2)).length) = (n + 1) * 2 := by rw [HVL.out, HDL.out]; omega
        rw [e3] at h3
        have e4 : i * 2 + vs.length = (i + 1) * 2 := by rw [HVL.out]; omega
        rw [e4] at h3 hl
        have e5 : (xs.take (i * 2) ++ (vs ++ xs.drop (i * 2))).length = (n + 1) * 2 := by rw [← e3, List.length_append, List.length_append, List.length_take, HXL.out]; omega
        have hg3 := HG3.out
        refine ⟨some ⟨w.heap.size, 0, none⟩, c1, rfl, ⟨e5, .inr ⟨w.heap.size, c1, _, rfl, HB.out, hg3, by omega, HCM.out, ?_, ?_⟩⟩, ?_, fun k hk => .inr (by cases hk; exact Nat.le_refl _)⟩
        · rw [List.size_toArray]
          first | exact hl | (simp only [Nat.mul_one] at hl ⊢; exact hl)
        · unfold insRow
          first | exact h3 | (simp only [Nat.mul_one] at h3 ⊢; exact h3)
        · have c2 : Chg (fun k => k = w.heap.size) w (w2.drewN nq) := (HC1.out.trans HC2.out (fun _ _ h => h.elim) (fun _ _ h => h)).trans (Chg.drewN (fun _ => False) w2 nq) (fun _ _ h => h) (fun _ _ h => h.elim)
          exact c2.trans HC3.out (fun k hk h => absurd hk (by omega)) (fun k hk h => absurd hk (by omega))
set_option maxHeartbeats 4000000 in
set_option maxRecDepth 100000 in
/-- slices.Delete of the first element. -/
theorem pt_delete1 {base : Nat} (w : World) (ao : Option Addr) (xs : List Value) (ho : w.ownsRow base 43 2 (.slice ao (0 + 1) 1) (0 + 1) xs) (h1 : ∀ u ∈ xs, u.oneCell' = true) (_hm : 0 ≤ 1000000) :
    Calls Try.prog 61 #[.slice ao (0 + 1) 1, .int .i64 0, .int .i64 1] w (Delt base 43 2 w ao 0 1 (delRow 2 xs)) := by
  have HO := hide ho
  have H1 := hide h1
  have HXL : Hid (xs.length = (0 + 1) * 2) := ho.1
  rcases ho.2 with ⟨e0, _⟩ | ⟨g, cap', cur, e0, hbg, hgg, hnc, hcm, hcs, ht⟩
  · cases e0
  cases e0
  have HT := hide ht
  have hms : (0 + 1) * 2 = 0 * 2 + 2 := by omega
  have HXS := hide (CellsAt.of_heap hgg 0 ((0 + 1) * 2))
  rw [List.drop_zero, ht] at HXS
  have HC : Hid (CellsAt w g 2 (xs.drop 2)) := fun j u hu => by
    rw [List.getElem?_drop] at hu
    have := HXS.out (2 + j) u hu
    rwa [Nat.zero_add] at this
  have hdl : (xs.drop 2).length = 0 * 2 := by have := HXL.out; rw [List.length_drop]; omega
  have HDL := hide hdl
  have HT0 : Hid (w.ownsRow base 43 2 (.slice (some ⟨g, 0, none⟩) 0 1) 0 []) := by
    have := ownsRow_take HO.out 0 (by omega)
    rwa [Nat.zero_mul, List.take_zero] at this
  have HD : Hid (∀ u ∈ xs.drop 2, u.oneCell' = true) := fun u hu => H1.out u (List.mem_of_mem_drop hu)
  have hcm2 : 1 ≤ 9223372036854775807 := hcm
  have HBG := hide hbg
  clear ho h1 hbg hgg hcm hcs ht hms hdl
  go_enter Try.func61, Try.ntmps61
  go_wp2_with fail
  refine wp_region_quiet_tail 6 (by kernel_rfl) (by kernel_rfl) ?_
  simp only [List.take_succ_cons, List.take_zero, List.drop_succ_cons, List.drop_zero]
  repeat (go_big_quiet_step (fail))
  refine wpQuiet_nil ?_
  intro _ hw'
  obtain ⟨nq, hw''⟩ := hw'
  subst hw''
  refine wpl_append_fits rfl (.tmp 22) (.tmp 25) 45 rfl pt_slT base (by exact HT0.out) (m := 0) ?hr rfl rfl HDL.out HD.out (by omega) ?_
  case hr =>
    first
      | exact Rd.mk (by omega) (by exact HC.out)
      | (have hnil : xs.drop 2 = [] := List.eq_nil_of_length_eq_zero (by have := HDL.out; omega)
         rw [hnil]
         exact Rd.mk (by omega) (fun j u hu => by cases hu))
  intro w1 hown hg1
  rw [Nat.zero_add, List.nil_append] at *
  have HO1 := hide hown
  have HG1 := hide hg1
  clear hown hg1
  rcases HO1.out.2 with ⟨e0, _⟩ | ⟨g', cap', cur1, e0, hbg1, hgg1, hnc1, hcm1, hcs1, ht1⟩
  · cases e0
  cases e0
  have HGG1 := hide hgg1
  have HCS1 := hide hcs1
  have HT1 := hide ht1
  have HCM1 := hide hcm1
  clear hbg1 hgg1 hcs1 ht1 hcm1
  go_wp2_with (refine wpl_clear rfl (.tmp 31) 45 rfl pt_slT (m := 1) (cur := cur1.toList) (by exact HGG1.out) rfl (by omega) (by rw [Array.length_toList, HCS1.out]; omega) (by decide) ?_; intro w2 zs hzl hg2 hc2; have HZL := hide hzl; have HG2 := hide hg2; have HC2 := hide hc2; clear hzl hg2 hc2)
  go_ret
  have hL : cur1.toList.length = 1 * 2 := by rw [Array.length_toList, HCS1.out]
  have hll := lay_length cur1.toList (0 * 2) zs (by rw [HZL.out, hL]; omega)
  have hlt : (lay cur1.toList (0 * 2) zs).take (0 * 2) = xs.drop 2 := by
    rw [lay, List.take_append_of_le_length (by rw [List.length_take, hL]; omega), List.take_take, Nat.min_self, HT1.out]
  have hg2 := HG2.out
  refine ⟨by first | rfl | simp [*], ⟨HDL.out, .inr ⟨g, 1, _, rfl, HBG.out, hg2, hnc1, HCM1.out, ?_, ?_⟩⟩, ?_⟩
  · rw [List.size_toArray]
    rw [hL] at hll
    first | exact hll | (simp only [Nat.mul_one] at hll ⊢; exact hll)
  · first | exact hlt | (simp only [Nat.mul_one] at hlt ⊢; exact hlt)
  · exact ((Chg.drewN (fun k => k = g) w nq).trans HG1.out (fun _ _ h => h) (fun _ _ h => h)).trans HC2.out (fun _ _ h => (show some g = some _ from congrArg some h.symm)) (fun _ _ h => (show some g = some _ from congrArg some h.symm))
set_option maxHeartbeats 4000000 in
set_option maxRecDepth 100000 in
/-- slices.Delete of the first element. -/
theorem pt_deleteN {base : Nat} (w : World) (ao : Option Addr) (n cap : Nat) (xs : List Value) (ho : w.ownsRow base 43 2 (.slice ao (n + 1) cap) (n + 1) xs) (h1 : ∀ u ∈ xs, u.oneCell' = true) (hm : n ≤ 1000000) (hcF : (cap = 1) = False) :
    Calls Try.prog 61 #[.slice ao (n + 1) cap, .int .i64 0, .int .i64 1] w (Delt base 43 2 w ao n cap (delRow 2 xs)) := by
  have HO := hide ho
  have H1 := hide h1
  have HXL : Hid (xs.length = (n + 1) * 2) := ho.1
  rcases ho.2 with ⟨e0, _⟩ | ⟨g, cap', cur, e0, hbg, hgg, hnc, hcm, hcs, ht⟩
  · cases e0
  cases e0
  have HT := hide ht
  have hms : (n + 1) * 2 = n * 2 + 2 := by omega
  have HXS := hide (CellsAt.of_heap hgg 0 ((n + 1) * 2))
  rw [List.drop_zero, ht] at HXS
  have HC : Hid (CellsAt w g 2 (xs.drop 2)) := fun j u hu => by
    rw [List.getElem?_drop] at hu
    have := HXS.out (2 + j) u hu
    rwa [Nat.zero_add] at this
  have hdl : (xs.drop 2).length = n * 2 := by have := HXL.out; rw [List.length_drop]; omega
  have HDL := hide hdl
  have HT0 : Hid (w.ownsRow base 43 2 (.slice (some ⟨g, 0, none⟩) 0 cap) 0 []) := by
    have := ownsRow_take HO.out 0 (by omega)
    rwa [Nat.zero_mul, List.take_zero] at this
  have HD : Hid (∀ u ∈ xs.drop 2, u.oneCell' = true) := fun u hu => H1.out u (List.mem_of_mem_drop hu)
  have hcm2 : cap ≤ 9223372036854775807 := hcm
  have HBG := hide hbg
  clear ho h1 hbg hgg hcm hcs ht hms hdl
  go_enter Try.func61, Try.ntmps61
  go_wp2_with fail
  refine wp_region_quiet_tail 6 (by kernel_rfl) (by kernel_rfl) ?_
  simp only [List.take_succ_cons, List.take_zero, List.drop_succ_cons, List.drop_zero]
  repeat (go_big_quiet_step (fail))
  refine wpQuiet_nil ?_
  intro _ hw'
  obtain ⟨nq, hw''⟩ := hw'
  subst hw''
  refine wpl_append_fits rfl (.tmp 22) (.tmp 25) 45 rfl pt_slT base (by exact HT0.out) (m := n) ?hr rfl rfl HDL.out HD.out (by omega) ?_
  case hr =>
    first
      | exact Rd.mk (by omega) (by exact HC.out)
      | (have hnil : xs.drop 2 = [] := List.eq_nil_of_length_eq_zero (by have := HDL.out; omega)
         rw [hnil]
         exact Rd.mk (by omega) (fun j u hu => by cases hu))
  intro w1 hown hg1
  rw [Nat.zero_add, List.nil_append] at *
  have HO1 := hide hown
  have HG1 := hide hg1
  clear hown hg1
  rcases HO1.out.2 with ⟨e0, _⟩ | ⟨g', cap', cur1, e0, hbg1, hgg1, hnc1, hcm1, hcs1, ht1⟩
  · cases e0
  cases e0
  have HGG1 := hide hgg1
  have HCS1 := hide hcs1
  have HT1 := hide ht1
  have HCM1 := hide hcm1
  clear hbg1 hgg1 hcs1 ht1 hcm1
  go_wp2_with (refine wpl_clear rfl (.tmp 31) 45 rfl pt_slT (m := 1) (cur := cur1.toList) (by exact HGG1.out) rfl (by omega) (by rw [Array.length_toList, HCS1.out]; omega) (by decide) ?_; intro w2 zs hzl hg2 hc2; have HZL := hide hzl; have HG2 := hide hg2; have HC2 := hide hc2; clear hzl hg2 hc2)
  go_ret
  have hL : cur1.toList.length = cap * 2 := by rw [Array.length_toList, HCS1.out]
  have hll := lay_length cur1.toList (n * 2) zs (by rw [HZL.out, hL]; omega)
  have hlt : (lay cur1.toList (n * 2) zs).take (n * 2) = xs.drop 2 := by
    rw [lay, List.take_append_of_le_length (by rw [List.length_take, hL]; omega), List.take_take, Nat.min_self, HT1.out]
  have hg2 := HG2.out
  refine ⟨by first | rfl | simp [*], ⟨HDL.out, .inr ⟨g, cap, _, rfl, HBG.out, hg2, hnc1, HCM1.out, ?_, ?_⟩⟩, ?_⟩
  · rw [List.size_toArray]
    rw [hL] at hll
    first | exact hll | (simp only [Nat.mul_one] at hll ⊢; exact hll)
  · first | exact hlt | (simp only [Nat.mul_one] at hlt ⊢; exact hlt)
  · exact ((Chg.drewN (fun k => k = g) w nq).trans HG1.out (fun _ _ h => h) (fun _ _ h => h)).trans HC2.out (fun _ _ h => (show some g = some _ from congrArg some h.symm)) (fun _ _ h => (show some g = some _ from congrArg some h.symm))
theorem pt_delete {base : Nat} (w : World) (ao : Option Addr) (n cap : Nat) (xs : List Value) (ho : w.ownsRow base 43 2 (.slice ao (n + 1) cap) (n + 1) xs) (h1 : ∀ u ∈ xs, u.oneCell' = true) (hm : n ≤ 1000000) :
    Calls Try.prog 61 #[.slice ao (n + 1) cap, .int .i64 0, .int .i64 1] w (Delt base 43 2 w ao n cap (delRow 2 xs)) := by
  by_cases hc : cap = 1
  · subst hc
    obtain rfl : n = 0 := by have := ownsRow_cap ho; omega
    exact pt_delete1 w ao xs ho h1 hm
  · exact pt_deleteN w ao n cap xs ho h1 hm (by simp [hc])
end Go.Proofs.Ytjgcicpclojfgaa
