/- Sequences of ints: Ints, List, Fold. Conditions: none. -/
import Derived.Test.YtnnkbicaokckbaaDoorIterB
import Derived.Test.YtnnkbicaokckbaaDoorCmO
import Derived.Outline
import Derived.Deep.QuietTactic
import Derived.BigQuiet
import Derived.OwnWalk
namespace Go.Proofs.YtnnkbicaokckbaaDoor
open Go.RowKit Go.Shelf
attribute [local go_sem] Oper.semAt_some

set_option maxRecDepth 100000 in
set_option maxHeartbeats 4000000 in
/-- What a sequence of one-cell elements tells, as far as so many. -/
theorem Ints_ok (w : World) (gf : Nat) (lb : Array Value) (R : Nat → Prop) (zs : List (Int)) (eg : ∀ args w, (callFunc gf args).run Tryd.prog w = .ok (.enter gf args) w)
    (hs : SeqD Fence.wide 8 Tryd.prog gf lb (fun x => #[Value.int .i64 x]) R zs w) (hR : ∀ k, R k → k < w.heap.size) (hz : zs.length ≤ 1000000) (most : Int) (hmost : most ≤ 1000000) :
    Calls Tryd.prog 38 #[.func (.func gf) #[] lb, .int .i64 most] w fun e w' => ∃ ao cap, e = .returned (.slice ao (zs.take most.toNat).length cap) ∧
      w'.ownsRow w.heap.size 3 1 (.slice ao (zs.take most.toNat).length cap) (zs.take most.toNat).length ((zs.take most.toNat).map (Value.int .i64)) ∧ Below w.heap.size w w' := by
  have hnn : ∀ w', Sem.run Tryd.prog (binOp BinOp.eql 59 (.func (.func gf) #[] lb) .nilFunc) w' = .ok (.bool false) w' := by intro w'; kernel_rfl
  by_cases hm : most < 1
  · have e0 : most.toNat = 0 := by omega
    rw [e0]
    clear hs
    go_enter Tryd.func38, Tryd.ntmps38
    go_wp2_with fail
    go_ret
    exact ⟨none, 0, rfl, World.ownsRow_nil _ _ _ _, ((Below.refl _ w).alloc (Nat.le_refl _) _).alloc (by simp) _⟩
  · obtain ⟨m, rfl⟩ : ∃ m : Nat, most = m := ⟨most.toNat, by omega⟩
    rw [Int.toNat_natCast]
    obtain ⟨ys, hys⟩ : ∃ ys, ys = zs.take m := ⟨_, rfl⟩
    rw [← hys]
    have HYS := hide hys
    clear hys
    have HS := hide hs
    have HRR := hide hR
    have HEG := hide eg
    clear hs hR eg
    refine (callsIn_wide (n := 9)).1 ?_
    refine callsIn_of_wp_marks Tryd.func38 rfl trivial ?_ rfl
    simp only [Tryd.ntmps38, List.size_toArray, List.length_cons, List.length_nil, Nat.reduceAdd, Nat.reduceSub, Array.replicate_succ, Array.replicate_zero, List.push_toArray, List.append_toArray, List.nil_append, List.cons_append]
    gi_wp2
    obtain ⟨W0, hW0⟩ : ∃ W0, (w.alloc (.cells #[.int .i64 m] 3)).alloc (.cells #[.slice none 0 0] 27) = W0 := ⟨_, rfl⟩
    have hz0 : W0.heap.size = w.heap.size + 2 := by rw [← hW0]; simp
    have hb0 : Below w.heap.size w W0 := by rw [← hW0]; exact ((Below.refl _ w).alloc (Nat.le_refl _) _).alloc (by simp) _
    have hx0 : W0.heap[w.heap.size]? = some (.cells #[.int .i64 m] 3 (0, 0)) := by rw [← hW0]; exact (Chg.alloc (fun _ => False) _ _).heap (heap_alloc_new w _) (fun h => h)
    have hx1 : W0.heap[w.heap.size + 1]? = some (.cells #[.slice none 0 0] 27 (0, 0)) := by rw [← hW0]; have := heap_alloc_new (w.alloc (.cells #[.int .i64 m] 3)) (.cells #[.slice none 0 0] 27); rwa [World.size_alloc] at this
    rw [hW0]
    have HZ0 := hide hz0
    have HX0 := hide hx0
    have HX1 := hide hx1
    clear hW0 hz0 hx0 hx1
    refine wpIn_range_D (α := Int) rfl (by omega) (gf := gf) (lb := lb) rfl trivial HEG.out
      HS.out (Kpt.of_chg (Chg.of_below0 (S := fun _ => False) hb0) (fun _ _ _ h => h)) (fun k hk => by have := HRR.out k hk; have := HZ0.out; omega) (fun _ => rfl)
      (fun D pre Wr => Wr.heap[w.heap.size]? = some (.cells #[.int .i64 m] 3 (0, 0)) ∧ OutD 27 3 1 w.heap.size (w.heap.size + 1) W0.heap.size w D pre.length (pre.map (Value.int .i64)) Wr ∧ pre.length < m)
      (fun c D pre Wr => c = .exit 0 ∧ OutD 27 3 1 w.heap.size (w.heap.size + 1) W0.heap.size w D pre.length (pre.map (Value.int .i64)) Wr ∧ pre.length = m) ?hI ?hIx ?h0
      (fun x a' _ => ∃ u0 u1 u2 u4 u7 u8 u9 u10 u11 u12 u13 u14 u15 u16 u17 u18 u19 u20 u21 u22 u23, a' = { tmps := #[u0, u1, u2, .pointer (some ⟨w.heap.size, 0, none⟩), u4, .pointer (some ⟨w.heap.size + 1, 0, none⟩), Value.int .i64 x, u7, u8, u9, u10, u11, u12, u13, u14, u15, u16, u17, u18, u19, u20, u21, u22, u23], defers := [] })
      (fun _ _ _ _ h _ _ => h) ?assign ?body ?done ?stop
    case hI =>
      have hz0 := HZ0.out
      rintro D s A A' S ⟨h1, h2, h3⟩ hc hS
      exact ⟨apart_heap h1 hc hS h2.far (by omega), h2.chg hc hS (by omega) (by omega), h3⟩
    case hIx =>
      have hz0 := HZ0.out
      rintro c D s A A' S ⟨rfl, h2, h3⟩ hc hS
      exact ⟨rfl, h2.chg hc hS (by omega) (by omega), h3⟩
    case h0 =>
      have hz0 := HZ0.out
      intro W' hc' hz'
      exact ⟨hc'.heap HX0.out (fun h => h), ⟨none, 0, hc'.heap HX1.out (fun h => h), World.ownsRow_nil _ _ _ _, (fun _ h => by cases h), hb0.trans (hc'.below (by omega) (fun _ _ h => h)), fun _ h => h.elim, by omega⟩, by simp; omega⟩
    case assign =>
      intro lr D pre x W1 K hi hpre hsz hK
      gi_wp2
      exact hK _ _ (Kpt.refl _ _) hi ⟨_, _, _, _, _, _, _, _, _, _, _, _, _, _, _, _, _, _, _, _, _, rfl⟩
    case body =>
      rintro lr D pre x a' W1 hlr ⟨r, hr⟩ hnc ⟨hbm, ⟨ao, cap, g1, g2, g3, g4, g5, g6⟩, hlen⟩ ⟨u0, u1, u2, u4, u7, u8, u9, u10, u11, u12, u13, u14, u15, u16, u17, u18, u19, u20, u21, u22, u23, rfl⟩ hpre hnd hnd1
      have hcm := cell_of_heap hbm 0
      have hc1 := cell_of_heap g1 0
      have hpl : pre.length ≤ 1000000 := by have := hpre.length_le; simp at this; omega
      have HPRE := hide hpre
      have HBM := hide hbm
      have G1 := hide g1
      have G2 := hide g2
      have G3 := hide g3
      have G4 := hide g4
      have G5 := hide g5
      have G6 := hide g6
      have HND := hide hnd
      have HND1 := hide hnd1
      clear hr hnc hbm g1 g2 g3 g4 g5 g6 hnd hnd1 hpre
      gi_wp2_with (gi_at_builtin; refine wpi_append rfl (.tmp 15) (.tmp 17) _ rfl int_slT w.heap.size ((Chg.alloc (fun _ => False) W1 _).owns G2.out (fun _ _ h => h)) (Rd_lit W1 #[Value.int .i64 x] 3 1) rfl rfl rfl (fun u hu => by rw [List.mem_singleton.1 hu]; rfl) (by unfold maxLen; omega) (by omega) (by have := G6.out; have := HZ0.out; simp; omega) ?_; intro ao1 cap1 w1 hown hg hat hnil; have hg' := (Chg.alloc (fun _ => False) W1 _).trans hg (S'' := fun k => (Value.slice ao pre.length cap).ownBlock = some k) (fun _ _ h => h.elim) (fun _ _ h => h); have hb1 := hg'.heap G1.out (fun e => ownsRow_ne G2.out G1.out (by decide) e); have hbm1 := hg'.heap HBM.out (fun e => by have := (G3.out _ e).2; have := HZ0.out; omega); have hcb := cell_of_heap hb1 0; have hfb := free_of_heap hb1 0; have hcm1 := cell_of_heap hbm1 0; have HBM1 := hide hbm1; have HO1 := hide hown; have HG1 := hide hg'; have HA1 : Hid (∀ k, (Value.slice ao1 (pre.length + 1) cap1).ownBlock = some k → (Value.slice ao pre.length cap).ownBlock = some k ∨ W1.heap.size ≤ k) := (fun k hk => (hat_of hat k hk).imp id (fun h => by simp at h; omega)); clear hown hg hat hnil hg' hb1 hbm1 hcm hc1)
      all_goals
        have hz0 := HZ0.out
        obtain ⟨ho, hk⟩ := outD_app (by decide) G1.out G3.out G4.out G5.out G6.out HG1.out HO1.out HA1.out (by omega) (by omega)
        have hk' := hk.mono (R' := fun k => R k ∨ D k ∨ k = W0.heap.size ∨ k = W0.heap.size + 1) (fun k h => h.imp (HRR.out k) id)
        have e1 : (pre ++ [x]).length = pre.length + 1 := by simp
        have e2 : (pre ++ [x]).map (Value.int .i64) = pre.map (Value.int .i64) ++ [Value.int .i64 x] := by simp
      · refine ⟨hk', rfl, ?_, ?_⟩
        · rw [e1, e2]; exact ho
        · rw [e1]; omega
      · refine ⟨hk', ?_, ?_, ?_⟩
        · refine (Chg.setCell w1 _ _).heap HBM1.out (fun h => ?_)
          have h5 : w.heap.size = w.heap.size + 1 := h
          omega
        · rw [e1, e2]; exact ho
        · rw [e1]; omega
    case done =>
      rintro D Wd ⟨h1, ⟨ao, cap, g1, g2, g3, g4, g5, g6⟩, h3⟩ hdef hnd
      have hc := cell_of_heap g1 0
      have G2 := hide g2
      have G4 := hide g4
      have G3 := hide g3
      clear g1 g2 g3 g4 g5 g6 h1
      obtain rfl : ys = zs := by rw [HYS.out, List.take_of_length_le (by omega)]
      clear HYS
      gi_wp2
      refine ⟨by simp, .inl ⟨_, _, rfl, run_takeDeferred hdef, ?_⟩⟩
      have hp := chg_putObj Wd W0.heap.size (.deferred none)
      refine ⟨_, results_tmp rfl _ _ _, ao, cap, rfl, hp.owns G2.out (fun k hk e => ?_), G4.out.trans (hp.below G4.out.size (fun k hk e => by have := HZ0.out; omega))⟩
      have := (G3.out k hk).2
      omega
    case stop =>
      rintro D c pre Wd hpre ⟨rfl, ⟨ao, cap, g1, g2, g3, g4, g5, g6⟩, h3⟩ hdef hnd
      have hc := cell_of_heap g1 0
      have G2 := hide g2
      have G4 := hide g4
      have G3 := hide g3
      clear g1 g2 g3 g4 g5 g6
      have e1 : zs.take m = pre := by rw [← h3]; exact (List.prefix_iff_eq_take.1 hpre).symm
      obtain rfl : ys = pre := by rw [HYS.out, e1]
      clear h3 e1 HYS
      gi_wp2
      refine ⟨by simp, .inl ⟨_, _, rfl, run_takeDeferred hdef, ?_⟩⟩
      have hp := chg_putObj Wd W0.heap.size (.deferred none)
      refine ⟨_, results_tmp rfl _ _ _, ao, cap, rfl, hp.owns G2.out (fun k hk e => ?_), G4.out.trans (hp.below G4.out.size (fun k hk e => by have := HZ0.out; omega))⟩
      have := (G3.out k hk).2
      omega
set_option maxRecDepth 100000 in
set_option maxHeartbeats 4000000 in
theorem AppendSeq_ok (w : World) (gf : Nat) (lb : Array Value) (R : Nat → Prop) (zs : List Int) (eg : ∀ args w, (callFunc gf args).run Tryd.prog w = .ok (.enter gf args) w)
    (hs : SeqD Fence.wide 8 Tryd.prog gf lb (fun x => #[.int .i64 x]) R zs w) (hR : ∀ k, R k → k < w.heap.size) (hz : zs.length ≤ 1000000) :
    Calls Tryd.prog 118 #[.slice none 0 0, .func (.func gf) #[] lb] w fun e w' => ∃ ao cap, e = .returned (.slice ao zs.length cap) ∧
      w'.ownsRow w.heap.size 3 1 (.slice ao zs.length cap) zs.length (zs.map (Value.int .i64)) ∧ Below w.heap.size w w' := by
  have HS := hide hs
  have HRR := hide hR
  have HEG := hide eg
  clear hs hR eg
  refine (callsIn_wide (n := 9)).1 ?_
  refine callsIn_of_wp_marks Tryd.func118 rfl trivial ?_ rfl
  simp only [Tryd.ntmps118, List.size_toArray, List.length_cons, List.length_nil, Nat.reduceAdd, Nat.reduceSub, Array.replicate_succ, Array.replicate_zero, List.push_toArray, List.append_toArray, List.nil_append, List.cons_append]
  gi_wp2
  obtain ⟨W0, hW0⟩ : ∃ W0, w.alloc (.cells #[.slice none 0 0] 27) = W0 := ⟨_, rfl⟩
  have hz0 : W0.heap.size = w.heap.size + 1 := by rw [← hW0]; simp
  have hb0 : Below w.heap.size w W0 := by rw [← hW0]; exact (Below.refl _ w).alloc (Nat.le_refl _) _
  have hx0 : W0.heap[w.heap.size]? = some (.cells #[.slice none 0 0] 27 (0, 0)) := by rw [← hW0]; exact heap_alloc_new w _
  rw [hW0]
  have HZ0 := hide hz0
  have HX0 := hide hx0
  clear hW0 hz0 hx0
  refine wpIn_range_D (α := Int) rfl (by omega) (gf := gf) (lb := lb) rfl trivial HEG.out
    HS.out (Kpt.of_chg (Chg.of_below0 (S := fun _ => False) hb0) (fun _ _ _ h => h)) (fun k hk => by have := HRR.out k hk; have := HZ0.out; omega) (fun _ => rfl)
    (fun D pre Wr => OutD 27 3 1 w.heap.size w.heap.size W0.heap.size w D pre.length (pre.map (Value.int .i64)) Wr)
    (fun _ _ _ _ => False) ?hI ?hIx ?h0
    (fun x a' _ => ∃ u0 u1 u3 u4 u6 u7 u8 u9 u10 u11 u12, a' = { tmps := #[u0, u1, .pointer (some ⟨w.heap.size, 0, none⟩), u3, u4, .int .i64 x, u6, u7, u8, u9, u10, u11, u12], defers := [] })
    (fun _ _ _ _ h _ _ => h) ?assign ?body ?done ?stop
  case hI =>
    have hz0 := HZ0.out
    rintro D s A A' S h2 hc hS
    exact h2.chg hc hS (by omega) (by omega)
  case hIx => exact fun _ _ _ _ _ _ h _ _ => h.elim
  case h0 =>
    have hz0 := HZ0.out
    intro W' hc' hz'
    exact ⟨none, 0, hc'.heap HX0.out (fun h => h), World.ownsRow_nil _ _ _ _, (fun _ h => by cases h), hb0.trans (hc'.below (by omega) (fun _ _ h => h)), fun _ h => h.elim, by omega⟩
  case assign =>
    intro lr D pre x W1 K hi hpre hsz hK
    gi_wp2
    exact hK _ _ (Kpt.refl _ _) hi ⟨_, _, _, _, _, _, _, _, _, _, _, rfl⟩
  case body =>
    rintro lr D pre x a' W1 hlr ⟨r, hr⟩ hnc ⟨ao, cap, g1, g2, g3, g4, g5, g6⟩ ⟨u0, u1, u3, u4, u6, u7, u8, u9, u10, u11, u12, rfl⟩ hpre hnd hnd1
    have hc1 := cell_of_heap g1 0
    have hpl : pre.length < 1000000 := by have := hpre.length_le; simp at this; omega
    have G1 := hide g1
    have G2 := hide g2
    have G3 := hide g3
    have G4 := hide g4
    have G5 := hide g5
    have G6 := hide g6
    have HND := hide hnd
    have HND1 := hide hnd1
    clear hr hnc g1 g2 g3 g4 g5 g6 hnd hnd1 hpre
    gi_wp2_with (gi_at_builtin; refine wpi_append rfl (.tmp 8) (.tmp 10) _ rfl int_slT w.heap.size ((Chg.alloc (fun _ => False) W1 _).owns G2.out (fun _ _ h => h)) (Rd_lit W1 #[.int .i64 x] 3 1) rfl rfl rfl (fun u hu => by rw [List.mem_singleton.1 hu]; rfl) (by unfold maxLen; omega) (by omega) (by have := G6.out; have := HZ0.out; simp; omega) ?_; intro ao1 cap1 w1 hown hg hat hnil; have hg' := (Chg.alloc (fun _ => False) W1 _).trans hg (S'' := fun k => (Value.slice ao pre.length cap).ownBlock = some k) (fun _ _ h => h.elim) (fun _ _ h => h); have hb1 := hg'.heap G1.out (fun e => ownsRow_ne G2.out G1.out (by decide) e); have hcb := cell_of_heap hb1 0; have hfb := free_of_heap hb1 0; have HO1 := hide hown; have HG1 := hide hg'; have HA1 : Hid (∀ k, (Value.slice ao1 (pre.length + 1) cap1).ownBlock = some k → (Value.slice ao pre.length cap).ownBlock = some k ∨ W1.heap.size ≤ k) := (fun k hk => (hat_of hat k hk).imp id (fun h => by simp at h; omega)); clear hown hg hat hnil hg' hb1 hc1)
    have hz0 := HZ0.out
    obtain ⟨ho, hk⟩ := outD_app (by decide) G1.out G3.out G4.out G5.out G6.out HG1.out HO1.out HA1.out (by omega) (by omega)
    have hk' := hk.mono (R' := fun k => R k ∨ D k ∨ k = W0.heap.size ∨ k = W0.heap.size + 1) (fun k h => h.imp (HRR.out k) id)
    have e1 : (pre ++ [x]).length = pre.length + 1 := by simp
    have e2 : (pre ++ [x]).map (Value.int .i64) = pre.map (Value.int .i64) ++ [.int .i64 x] := by simp
    refine ⟨hk', ?_⟩
    show OutD _ _ _ _ _ _ _ _ (pre ++ [x]).length ((pre ++ [x]).map (Value.int .i64)) _
    rw [e1, e2]; exact ho
  case done =>
    rintro D Wd ⟨ao, cap, g1, g2, g3, g4, g5, g6⟩ hdef hnd
    have hc := cell_of_heap g1 0
    have G2 := hide g2
    have G4 := hide g4
    have G3 := hide g3
    clear g1 g2 g3 g4 g5 g6
    gi_wp2
    refine ⟨by simp, .inl ⟨_, _, rfl, run_takeDeferred hdef, ?_⟩⟩
    have hp := chg_putObj Wd W0.heap.size (.deferred none)
    refine ⟨_, results_tmp rfl _ _ _, ao, cap, rfl, hp.owns G2.out (fun k hk e => ?_), G4.out.trans (hp.below G4.out.size (fun k hk e => by have := HZ0.out; omega))⟩
    have := (G3.out k hk).2
    omega
  case stop => exact fun _ _ _ _ _ h => h.elim

/-- A sequence of ints tells zs. -/
def TellsI (zs : List Int) (v : Value) (W : World) : Prop :=
  ∃ (gf : Nat) (lb : Array Value) (R : Nat → Prop), v = .func (.func gf) #[] lb ∧ (∀ args w, (callFunc gf args).run Tryd.prog w = .ok (.enter gf args) w) ∧ SeqD Fence.wide 8 Tryd.prog gf lb (fun x : Int => #[.int .i64 x]) R zs W ∧ ∀ k, R k → k < W.heap.size
theorem TellsI.chg {zs : List Int} {v : Value} {w w' : World} (h : TellsI zs v w) (c : Chg (fun _ => False) w w') : TellsI zs v w' := by
  obtain ⟨gf, lb, R, h1, h2, h3, h4⟩ := h
  exact ⟨gf, lb, R, h1, h2, h3.later (Kpt.of_chg c (fun _ _ _ h => h)), fun k hk => Nat.lt_of_lt_of_le (h4 k hk) c.size⟩
theorem ints_told (w : World) (zs : List Int) (v : Value) (h : TellsI zs v w) (hz : zs.length ≤ 1000) (most : Int) (hm : (zs.length : Int) ≤ most ∧ most ≤ 1000000) :
    Calls Tryd.prog 38 #[v, .int .i64 most] w fun e w' => ∃ ao cap, e = .returned (.slice ao zs.length cap) ∧ w'.ownsRow w.heap.size 3 1 (.slice ao zs.length cap) zs.length (zs.map (Value.int .i64)) ∧ Below w.heap.size w w' := by
  obtain ⟨gf, lb, R, rfl, h2, h3, h4⟩ := h
  have := Ints_ok w gf lb R zs h2 h3 h4 (by omega) most hm.2
  rwa [List.take_of_length_le (by omega)] at this
theorem list_told (w : World) (zs : List Int) (v : Value) (h : TellsI zs v w) (hz : zs.length ≤ 1000) :
    Calls Tryd.prog 75 #[v] w fun e w' => ∃ ao cap, e = .returned (.slice ao zs.length cap) ∧ w'.ownsRow w.heap.size 3 1 (.slice ao zs.length cap) zs.length (zs.map (Value.int .i64)) ∧ Below w.heap.size w w' := by
  obtain ⟨gf, lb, R, rfl, h2, h3, h4⟩ := h
  have HA := hide (AppendSeq_ok w gf lb R zs h2 h3 h4 (by omega))
  have hnn : ∀ w', Sem.run Tryd.prog (binOp BinOp.eql 59 (.func (.func gf) #[] lb) .nilFunc) w' = .ok (.bool false) w' := by intro w'; kernel_rfl
  have HC : Hid (Calls Tryd.prog 104 #[.func (.func gf) #[] lb] w fun e w' => ∃ ao cap, e = .returned (.slice ao zs.length cap) ∧ w'.ownsRow w.heap.size 3 1 (.slice ao zs.length cap) zs.length (zs.map (Value.int .i64)) ∧ Below w.heap.size w w') := by
    clear h2 h3 h4 hnn
    go_enter Tryd.func104, Tryd.ntmps104
    go_wp2_with fail
    refine HA.out.mono ?_
    rintro e w1 ⟨ao, cap, rfl, hown, hb⟩
    have HO := hide hown
    have HB := hide hb
    clear hown hb
    go_wp2_with fail
    go_ret
    exact ⟨ao, cap, rfl, HO.out, HB.out⟩
  clear h2 h3 h4 HA
  go_enter Tryd.func75, Tryd.ntmps75
  go_wp2_with fail
  refine HC.out.mono ?_
  rintro e w1 ⟨ao, cap, rfl, hown, hb⟩
  have HO := hide hown
  have HB := hide hb
  clear hown hb
  go_wp2_with fail
  go_ret
  exact ⟨ao, cap, rfl, HO.out, HB.out⟩
end Go.Proofs.YtnnkbicaokckbaaDoor
