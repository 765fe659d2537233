/- The document's repo: Copy; what was answered is written over. Conditions: none. -/
import Derived.Test.YtnnkbicaokckbaaDoorRfB
namespace Go.Proofs.YtnnkbicaokckbaaDoor
open Go.RowKit Go.Shelf

variable {base : Nat} {w : World} {p : Nat} {ao : Option Addr} {cap : Nat} {l : List CmV} {room : Int}
set_option maxRecDepth 100000 in
set_option maxHeartbeats 4000000 in
theorem ref10_Copy (h : RefAt base w p ao cap l room) (n : Int) (hn : -9223372036854775808 ≤ n ∧ n ≤ 9223372036854775807) :
    Calls Tryd.prog 32 #[.pointer (some ⟨p, 0, none⟩), .int .i64 n] w fun e w' => ∃ q ao' cap', e = .returned (.pointer (some ⟨q, 0, none⟩)) ∧ RefAt w.heap.size w' q ao' cap' l (min (room + min (max n 0) 120) 120) ∧ (∀ k, NB q ao' l k → w.heap.size ≤ k ∨ ∃ x ∈ l, YB x k) ∧ Below w.heap.size w w' := by
  have h0 := h.c0
  have h1 := h.c1
  have hr0 := h.room0
  have hll := h.len
  have HH := hide h
  have hmm : 0 ≤ min (max n 0) 120 ∧ min (max n 0) 120 ≤ 120 := by omega
  clear h
  obtain ⟨m, hm⟩ : ∃ m, m = min (max n 0) 120 := ⟨_, rfl⟩
  obtain ⟨r2, hr2⟩ : ∃ r2, r2 = min (room + m) 120 := ⟨_, rfl⟩
  have hw : IntKind.i64.wrap (room + min (max n 0) 120) = room + min (max n 0) 120 := by rw [IntKind.wrap_i64] <;> omega
  have HR2 : Hid (min (room + min (max n 0) 120) 120 = r2) := hide (by rw [hr2, hm])
  have HR3 := hide (show 0 ≤ r2 ∧ r2 ≤ 120 by omega)
  rw [HR2.out]
  clear hm hr2
  go_enter Tryd.func32, Tryd.ntmps32
  go_wp2_with fail
  refine reg_start (Chg (fun _ => False) w) 17 17 (by rfl) (by kernel_rfl) (Chg.drew _ _) ?_
  intro hS0
  have hSc := hS0
  refine reg_take (i := 0) (v := ?g2v) rfl (by kernel_rfl) (by kernel_rfl) (by kernel_rfl) (by kernel_rfl) (fun _ _ _ h => h) (by rfl) ?g2y (by assumption) ?g2r
  case g2y => (intro W hS; first | (go_simp; done) | (go_simp; with_reducible rfl))
  simp only [Act.put, List.setIfInBounds_toArray, List.set_cons_zero, List.set_cons_succ]
  refine reg_take (i := 1) (v := ?g3v) rfl (by kernel_rfl) (by kernel_rfl) (by kernel_rfl) (by kernel_rfl) (fun _ _ _ h => h) (by rfl) ?g3y (by assumption) ?g3r
  case g3y => (intro W hS; first | (go_simp; done) | (go_simp; with_reducible rfl))
  simp only [Act.put, List.setIfInBounds_toArray, List.set_cons_zero, List.set_cons_succ]
  refine reg_take (i := 2) (v := ?g4v) rfl (by kernel_rfl) (by kernel_rfl) (by kernel_rfl) (by kernel_rfl) (fun _ _ _ h => h) (by rfl) ?g4y (by assumption) ?g4r
  case g4y => (intro W hS; first | (go_simp; done) | (go_simp; with_reducible rfl))
  simp only [Act.put, List.setIfInBounds_toArray, List.set_cons_zero, List.set_cons_succ]
  refine reg_take (i := 3) (v := ?g5v) rfl (by kernel_rfl) (by kernel_rfl) (by kernel_rfl) (by kernel_rfl) (fun _ _ _ h => h) (by rfl) ?g5y (by assumption) ?g5r
  case g5y => (intro W hS; have f0 := hS.cell h0 (fun h => h); have f1 := hS.cell h1 (fun h => h); first | (go_simp; done) | (go_simp; with_reducible rfl))
  simp only [Act.put, List.setIfInBounds_toArray, List.set_cons_zero, List.set_cons_succ]
  refine reg_take (i := 5) (v := ?g6v) rfl (by kernel_rfl) (by kernel_rfl) (by kernel_rfl) (by kernel_rfl) (fun _ _ _ h => h) (by rfl) ?g6y (by assumption) ?g6r
  case g6y => (intro W hS; first | (go_simp; done) | (go_simp; with_reducible rfl))
  simp only [Act.put, List.setIfInBounds_toArray, List.set_cons_zero, List.set_cons_succ]
  refine reg_take (i := 6) (v := ?g7v) rfl (by kernel_rfl) (by kernel_rfl) (by kernel_rfl) (by kernel_rfl) (fun _ _ _ h => h) (by rfl) ?g7y (by assumption) ?g7r
  case g7y => (intro W hS; first | (go_simp; done) | (go_simp; with_reducible rfl))
  simp only [Act.put, List.setIfInBounds_toArray, List.set_cons_zero, List.set_cons_succ]
  refine reg_take (i := 7) (v := ?g8v) rfl (by kernel_rfl) (by kernel_rfl) (by kernel_rfl) (by kernel_rfl) (fun _ _ _ h => h) (by rfl) ?g8y (by assumption) ?g8r
  case g8y => (intro W hS; first | (go_simp; done) | (go_simp; with_reducible rfl))
  simp only [Act.put, List.setIfInBounds_toArray, List.set_cons_zero, List.set_cons_succ]
  refine reg_take (i := 8) (v := ?g9v) rfl (by kernel_rfl) (by kernel_rfl) (by kernel_rfl) (by kernel_rfl) (fun _ _ _ h => h) (by rfl) ?g9y (by assumption) ?g9r
  case g9y => (intro W hS; have f0 := hS.cell h0 (fun h => h); have f1 := hS.cell h1 (fun h => h); first | (go_simp; done) | (go_simp; with_reducible rfl))
  simp only [Act.put, List.setIfInBounds_toArray, List.set_cons_zero, List.set_cons_succ]
  refine reg_take (i := 9) (v := ?g10v) rfl (by kernel_rfl) (by kernel_rfl) (by kernel_rfl) (by kernel_rfl) (fun _ _ _ h => h) (by rfl) ?g10y (by assumption) ?g10r
  case g10y => (intro W hS; first | (go_simp; done) | (go_simp; with_reducible rfl))
  simp only [Act.put, List.setIfInBounds_toArray, List.set_cons_zero, List.set_cons_succ]
  refine reg_take (i := 10) (v := ?g11v) rfl (by kernel_rfl) (by kernel_rfl) (by kernel_rfl) (by kernel_rfl) (fun _ _ _ h => h) (by rfl) ?g11y (by assumption) ?g11r
  case g11y => (intro W hS; first | (go_simp; done) | (go_simp; with_reducible rfl))
  simp only [Act.put, List.setIfInBounds_toArray, List.set_cons_zero, List.set_cons_succ]
  refine reg_take (i := 11) (v := ?g12v) rfl (by kernel_rfl) (by kernel_rfl) (by kernel_rfl) (by kernel_rfl) (fun _ _ _ h => h) (by rfl) ?g12y (by assumption) ?g12r
  case g12y => (intro W hS; first | (go_simp; done) | (go_simp; with_reducible rfl))
  simp only [Act.put, List.setIfInBounds_toArray, List.set_cons_zero, List.set_cons_succ]
  refine reg_take (i := 12) (v := ?g13v) rfl (by kernel_rfl) (by kernel_rfl) (by kernel_rfl) (by kernel_rfl) (fun _ _ _ h => h) (by rfl) ?g13y (by assumption) ?g13r
  case g13y => (intro W hS; first | (go_simp; done) | (go_simp; with_reducible rfl))
  simp only [Act.put, List.setIfInBounds_toArray, List.set_cons_zero, List.set_cons_succ]
  refine reg_take (i := 13) (v := ?g14v) rfl (by kernel_rfl) (by kernel_rfl) (by kernel_rfl) (by kernel_rfl) (fun _ _ _ h => h) (by rfl) ?g14y (by assumption) ?g14r
  case g14y => (intro W hS; first | (go_simp; done) | (go_simp; with_reducible rfl))
  simp only [Act.put, List.setIfInBounds_toArray, List.set_cons_zero, List.set_cons_succ]
  refine reg_one (i := 4) (by kernel_rfl) ?_
  refine op_append0 (i := 4) rfl (by rfl) cv_slT (HH.out.same hSc).rd rfl rfl (flat_length cv_len _) (cv_flat_one (fun x hx => ((HH.out.same hSc).cms x hx).1)) (by unfold maxLen; omega) (by omega) ?_
  intro ao7 cap7 W7 hown7 hg7
  have HO7 := hide (ownsRow_base hown7 (fun k hk => Nat.le_trans hSc.size (ownsRow_lt hown7 k hk).1))
  have hSc := hSc.trans hg7 (S'' := fun _ => False) (fun _ _ h => h) (fun _ _ h => h)
  have HS7 := hide hSc
  clear hown7 hg7
  refine ⟨hSc, ?_⟩
  simp only [Act.put, List.setIfInBounds_toArray, List.set_cons_zero, List.set_cons_succ]
  refine reg_take (i := 14) (v := ?g15v) rfl (by kernel_rfl) (by kernel_rfl) (by kernel_rfl) (by kernel_rfl) (fun _ _ _ h => h) (by rfl) ?g15y (by assumption) ?g15r
  case g15y => (intro W hS; first | (go_simp; done) | (go_simp; with_reducible rfl))
  simp only [Act.put, List.setIfInBounds_toArray, List.set_cons_zero, List.set_cons_succ]
  refine reg_one (i := 15) (by kernel_rfl) ?_
  refine op_val (i := 15) (v := .pointer (some ⟨W7.heap.size, 0, none⟩)) (w' := W7.alloc (.cells #[.slice ao7 l.length cap7, .int .i64 (min (room + min (max n 0) 120) 120)] 55)) rfl (by rfl) (by go_simp) ?_
  have hal := Chg.alloc (fun _ => False) W7 (.cells #[.slice ao7 l.length cap7, .int .i64 (min (room + min (max n 0) 120) 120)] 55)
  have hnew := heap_alloc_new W7 (.cells #[.slice ao7 l.length cap7, .int .i64 (min (room + min (max n 0) 120) 120)] 55)
  generalize W7.alloc (.cells #[.slice ao7 l.length cap7, .int .i64 (min (room + min (max n 0) 120) 120)] 55) = W8 at hal hnew ⊢
  have hSc := hSc.trans hal (S'' := fun _ => False) (fun _ _ h => h) (fun _ _ h => h)
  rw [HR2.out] at hnew
  refine ⟨hSc, ?_⟩
  simp only [Act.put, List.setIfInBounds_toArray, List.set_cons_zero, List.set_cons_succ]
  refine reg_take (i := 16) (v := ?g16v) rfl (by kernel_rfl) (by kernel_rfl) (by kernel_rfl) (by kernel_rfl) (fun _ _ _ h => h) (by rfl) ?g16y (by assumption) ?g16r
  case g16y => (intro W hS; first | (go_simp; done) | (go_simp; with_reducible rfl))
  simp only [Act.put, List.setIfInBounds_toArray, List.set_cons_zero, List.set_cons_succ]
  refine wpAnyG_done (by kernel_rfl) ?_ _
  have HAL := hide hal
  have HNW := hide hnew
  have HS8 := hide hSc
  clear hal hnew hSc hS0
  go_wp2_with fail
  go_ret
  have hsz := HS7.out.size
  refine ⟨W7.heap.size, ao7, cap7, rfl, ⟨HNW.out, HAL.out.owns HO7.out (fun _ _ h => h), fun x hx => ⟨(HH.out.cms x hx).1.same HS8.out, (HH.out.cms x hx).2⟩, hsz, hll, HR3.out, fun x hx h => ?_⟩, fun k hk => ?_, HS8.out.below (Nat.le_refl _) (fun _ _ h => h)⟩
  · rcases h with ⟨h, hn⟩ | ⟨h, hn⟩
    · have := (HH.out.cms x hx).1.pb _ h hn; omega
    · have := (HH.out.cms x hx).1.tb _ h hn; omega
  · rcases hk with (rfl | hk) | ⟨x, hx, hk⟩
    · exact .inl hsz
    · exact .inl (ownsRow_lt HO7.out k (by rw [own_slice]; exact hk)).1
    · exact .inr ⟨x, hx, hk⟩

theorem ownsRow_set {w : World} {base : Nat} {e : TypeId} {size g n cap : Nat} {xs : List Value} (h : w.ownsRow base e size (.slice (some ⟨g, 0, none⟩) n cap) n xs) (i : Nat) (u : Value) : ∃ ys, (w.setCell ⟨g, i, none⟩ u).ownsRow base e size (.slice (some ⟨g, 0, none⟩) n cap) n ys := by
  have hl := h.1
  rcases h.2 with ⟨e1, _⟩ | ⟨g', cap', cur, e1, hb, hg, hnc, hcm, hcs, ht⟩
  · cases e1
  · cases e1
    refine ⟨(cur.setIfInBounds i u).toList.take (n * size), ?_, .inr ⟨g, cap, cur.setIfInBounds i u, rfl, hb, heap_setCell_same hg u, hnc, hcm, by simpa using hcs, rfl⟩⟩
    rw [← ht] at hl
    simpa using hl
/-- What was answered is written over, and beyond: no other block is. -/
theorem OverInts_ok {base : Nat} (w : World) (v : Value) (n : Nat) (xs : List Value) (h : w.ownsRow base 3 1 v n xs) (hbase : base ≤ w.heap.size) (hm : n ≤ 140737488351) :
    Calls Tryd.prog 54 #[v] w fun e w' => e = .returned (.tuple #[]) ∧ Chg (fun k => v.ownBlock = some k) w w' := by
  obtain ⟨ao, cap, rfl⟩ := ownsRow_shape h
  have HO := hide h
  clear h
  have hbs := hide hbase
  clear hbase
  go_enter Tryd.func54, Tryd.ntmps54
  go_wp2_with fail
  go_loopw [2] (fun i wr => ∃ k : Nat, k ≤ n ∧ i = .int .i64 k ∧ Hid (∃ ys, wr.ownsRow base 3 1 (.slice ao n cap) n ys) ∧ Hid (Chg (fun k => (Value.slice ao n cap).ownBlock = some k) w wr)) (fun i _ => n - (intOf i).toNat)
  case atStart => exact ⟨0, by omega, rfl, ⟨_, HO.out⟩, Chg.refl _ _⟩
  case round =>
    obtain ⟨k, hk, rfl, HY, HG⟩ := hrel
    by_cases hlt : k < n
    · obtain ⟨ys, hy⟩ := HY.out
      have hy' := hide hy
      rcases hy.2 with ⟨e, _⟩ | ⟨g, cap', cur, e, hbg, hg, hnc, hcm, hcs, ht⟩
      · cases e; omega
      · cases e
        obtain ⟨u0, hc⟩ := cell_some hg k (by omega)
        have hf := free_of_heap hg k
        have hst := hide (ownsRow_set hy'.out k (.int .i64 (-999)))
        clear hy HY ht hg hcs hcm hnc
        go_wp2_with fail
        go_roundw
        case rel =>
          exact ⟨k + 1, by omega, by go_num, hst.out, HG.out.trans (Chg.setCell wr _ _) (fun _ _ h => h) (fun i _ h => by simp [Value.ownBlock, h])⟩
        case measure => simp [intOf]; omega
    · obtain rfl : k = n := by omega
      obtain ⟨ys, hy⟩ := HY.out
      have HY' := hide hy
      clear hy HY
      go_wp2_with (at_builtin; go_loud (refine wpl_append rfl _ _ _ rfl int_slT base (HY'.out.alloc _) (Rd_lit wr #[.int .i64 (-999)] _ 1) rfl rfl rfl (by simp [Value.oneCell']) (by unfold maxLen; omega) (by omega) (by have := HG.out.size; have := hbs.out; simp; omega) ?_); intro ao' cap' w1 hown hg hat hnil)
      go_end0
      refine ⟨rfl, HG.out.trans ((Chg.alloc _ wr _).trans hg (fun _ _ h => h) (fun _ _ h => h)) (fun _ _ h => h) (fun _ _ h => h)⟩
def overS : ByteArray := ⟨#[111, 118, 101, 114]⟩
theorem OverFiles_ok {base : Nat} (w : World) (v : Value) (n : Nat) (xs : List Value) (h : w.ownsRow base 106 2 v n xs) (hbase : base ≤ w.heap.size) (hm : n ≤ 1407374883) :
    Calls Tryd.prog 99 #[v] w fun e w' => e = .returned (.tuple #[]) ∧ Chg (fun k => v.ownBlock = some k) w w' := by
  obtain ⟨ao, cap, rfl⟩ := ownsRow_shape h
  have HO := hide h
  clear h
  have hbs := hide hbase
  clear hbase
  go_enter Tryd.func99, Tryd.ntmps99
  go_wp2_with fail
  go_loopw [2] (fun i wr => ∃ k : Nat, k ≤ n ∧ i = .int .i64 k ∧ Hid (∃ ys, wr.ownsRow base 106 2 (.slice ao n cap) n ys) ∧ Hid (Chg (fun k => (Value.slice ao n cap).ownBlock = some k) w wr)) (fun i _ => n - (intOf i).toNat)
  case atStart => exact ⟨0, by omega, rfl, ⟨_, HO.out⟩, Chg.refl _ _⟩
  case round =>
    obtain ⟨k, hk, rfl, HY, HG⟩ := hrel
    by_cases hlt : k < n
    · obtain ⟨ys, hy⟩ := HY.out
      have hy' := hide hy
      rcases hy.2 with ⟨e, _⟩ | ⟨g, cap', cur, e, hbg, hg, hnc, hcm, hcs, ht⟩
      · cases e; omega
      · cases e
        obtain ⟨u0, hc⟩ := cell_some hg (k * 2) (by omega)
        obtain ⟨u1, hc1⟩ := cell_some hg (k * 2 + 1) (by omega)
        have hf := free_of_heap hg (k * 2)
        have hf1 := free_of_heap hg (k * 2 + 1)
        have hst := hide (show ∃ ys, ((wr.setCell ⟨g, k * 2, none⟩ (.string overS)).setCell ⟨g, k * 2 + 1, none⟩ (.string ⟨#[]⟩)).ownsRow base 106 2 (.slice (some ⟨g, 0, none⟩) n cap) n ys from by
          obtain ⟨ys1, h1⟩ := ownsRow_set hy'.out (k * 2) (.string overS)
          exact ownsRow_set h1 _ _)
        clear hy HY ht hg hcs hcm hnc
        go_wp2_with fail
        go_roundw
        case rel =>
          exact ⟨k + 1, by omega, by go_num, hst.out, HG.out.trans ((Chg.setCell wr _ _).trans (Chg.setCell _ _ _) (S'' := fun j => j = g) (fun _ _ h => h) (fun _ _ h => h)) (fun _ _ h => h) (fun i _ h => by simp [Value.ownBlock, h])⟩
        case measure => simp [intOf]; omega
    · obtain rfl : k = n := by omega
      obtain ⟨ys, hy⟩ := HY.out
      have HY' := hide hy
      clear hy HY
      go_wp2_with (at_builtin; go_loud (refine wpl_append rfl _ _ _ rfl fl_slT base (HY'.out.alloc _) (Rd_lit wr #[.string overS, .string ⟨#[]⟩] _ 1) rfl rfl rfl (by simp [Value.oneCell']) (by unfold maxLen; omega) (by omega) (by have := HG.out.size; have := hbs.out; simp; omega) ?_); intro ao' cap' w1 hown hg hat hnil)
      go_end0
      refine ⟨rfl, HG.out.trans ((Chg.alloc _ wr _).trans hg (fun _ _ h => h) (fun _ _ h => h)) (fun _ _ h => h) (fun _ _ h => h)⟩
theorem OverCommit_ok {base : Nat} (w : World) (x : CmV) (h : Own w base x) (fx : Few x.c) (hbase : base ≤ w.heap.size) :
    Calls Tryd.prog 66 #[x.val] w fun e w' => e = .returned (.tuple #[]) ∧ Below base w w' := by
  obtain ⟨⟨xps, xts, xn⟩, xp, xt⟩ := x
  unfold CmV.val
  have f1 : xps.length ≤ 1000000 := fx.1
  have f2 : xts.length ≤ 1000000 := fx.2
  have HBS := hide hbase
  have hk1 := heap_alloc_new w (.cells #[xp, xt, .string xn] 33)
  have hc1 := Chg.alloc (fun _ => False) w (.cells #[xp, xt, .string xn] 33)
  generalize hw1 : w.alloc (.cells #[xp, xt, .string xn] 33) = w1 at hk1 hc1
  have HW1 := hide hw1
  have hps : w.ownsRow base 3 1 xp xps.length (flat int_enc xps) := h.ps
  have hts : w.ownsRow base 106 2 xt xts.length (flat fl_enc xts) := h.ts
  have HPS := hide (hc1.owns hps (fun _ _ h => h))
  have HTS := hide (hc1.owns hts (fun _ _ h => h))
  have y0 : w1.cell? ⟨w.heap.size, 0, none⟩ = some xp := cell_of_heap hk1 0
  have HK1 := hide hk1
  have HC1 := hide hc1
  have HO1 := hide (OverInts_ok w1 xp xps.length _ HPS.out (Nat.le_trans hbase hc1.size) (by omega))
  have HPB := hide (fun b hb => ownsRow_lt hps b hb)
  have HTB := hide (fun b hb => ownsRow_lt hts b hb)
  have HDI := hide (ownsRow_disj HPS.out HTS.out (by decide))
  clear h fx hbase hk1 hc1 hw1 hps hts
  go_enter Tryd.func66, Tryd.ntmps66
  go_wp2_with (rw [HW1.out])
  refine HO1.out.mono ?_
  rintro e w2 ⟨rfl, hc2⟩
  have y1 : w2.cell? ⟨w.heap.size, 1, none⟩ = some xt := cell_of_heap (hc2.heap HK1.out (fun h => by have := (HPB.out _ h).2; omega)) 1
  have HC2 := hide hc2
  have HO2 := hide (OverFiles_ok w2 xt xts.length _ (hc2.owns HTS.out (fun b hb h => HDI.out b h hb)) (Nat.le_trans HBS.out (Nat.le_trans HC1.out.size hc2.size)) (by omega))
  clear hc2 y0
  go_wp2_with fail
  refine HO2.out.mono ?_
  rintro e w3 ⟨rfl, hc3⟩
  have HC3 := hide hc3
  clear hc3 y1
  go_wp2_with fail
  go_end0
  have hb := HBS.out
  exact ⟨rfl, ((HC1.out.below (n := base) hb (fun _ _ h => h)).trans (HC2.out.below (Nat.le_trans hb HC1.out.size) (fun k hk h => by have := (HPB.out _ h).1; omega))).trans (HC3.out.below (Nat.le_trans hb (Nat.le_trans HC1.out.size HC2.out.size)) (fun k hk h => by have := (HTB.out _ h).1; omega))⟩
end Go.Proofs.YtnnkbicaokckbaaDoor
