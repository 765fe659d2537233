/- seq.Filter at ints; base.Common. Conditions: none. -/
import Derived.Test.YtnnkbicaokckbaaDoorBsF
namespace Go.Proofs.YtnnkbicaokckbaaDoor
open Go.RowKit Go.Shelf
attribute [local go_sem] Oper.semAt_some

/-- What a predicate that reads the blocks Rf answers. -/
def PredAt (Rf : Nat → Prop) (w : World) (fg : Nat) (lbf : Array Value) (F : Int → Bool) (zs : List Int) : Prop :=
  (∀ args w, (callFunc fg args).run Tryd.prog w = .ok (.enter fg args) w) ∧ (∀ k, Rf k → k < w.heap.size) ∧
  ∀ (Wx : World) (x : Int), Kpt Rf w Wx → x ∈ zs → Calls Tryd.prog fg (#[.int .i64 x] ++ lbf) Wx fun e W' => e = .returned (.bool (F x)) ∧ W' = Wx
set_option maxRecDepth 100000 in
set_option maxHeartbeats 4000000 in
theorem filter_seqd (w : World) (b1 b2 : Nat) (gf : Nat) (lb : Array Value) (R Rf : Nat → Prop) (zs : List Int) (fg : Nat) (lbf : Array Value) (F : Int → Bool) (eg : ∀ args w, (callFunc gf args).run Tryd.prog w = .ok (.enter gf args) w)
    (hs : SeqD Fence.wide 8 Tryd.prog gf lb (fun x => #[.int .i64 x]) R zs w) (hR : ∀ k, R k → k < w.heap.size) (hp : PredAt Rf w fg lbf F zs)
    (h1 : w.cell? ⟨b1, 0, none⟩ = some (.func (.func gf) #[] lb)) (h2 : w.cell? ⟨b2, 0, none⟩ = some (.func (.func fg) #[] lbf)) :
    SeqD Fence.wide 8 Tryd.prog 108 #[.pointer (some ⟨b1, 0, none⟩), .pointer (some ⟨b2, 0, none⟩)] (fun x : Int => #[.int .i64 x]) (fun k => k = b1 ∨ k = b2 ∨ R k ∨ Rf k) (zs.filter F) w := by
  intro ll J Jx W hW hJ hJx hY h0
  have hb1l := World.block_lt_of_cell? w _ h1
  have hb2l := World.block_lt_of_cell? w _ h2
  have hB1 : W.cell? ⟨b1, 0, none⟩ = some (.func (.func gf) #[] lb) := (World.cell?_of_block (hW.2 b1 hb1l (.inl rfl))).trans h1
  have hB2 : W.cell? ⟨b2, 0, none⟩ = some (.func (.func fg) #[] lbf) := (World.cell?_of_block (hW.2 b2 hb2l (.inr (.inl rfl)))).trans h2
  have hnn : ∀ w', Sem.run Tryd.prog (binOp BinOp.eql 59 (.func (.func gf) #[] lb) .nilFunc) w' = .ok (.bool false) w' := by intro w'; kernel_rfl
  have hnf : ∀ w', Sem.run Tryd.prog (binOp BinOp.eql 43 (.func (.func fg) #[] lbf) .nilFunc) w' = .ok (.bool false) w' := by intro w'; kernel_rfl
  have hRW : ∀ k, (k = b1 ∨ k = b2 ∨ R k ∨ Rf k) → k < W.heap.size := fun k hk => by
    have := hW.1
    rcases hk with rfl | rfl | hk | hk
    · have e : k < w.heap.size := hb1l; omega
    · have e : k < w.heap.size := hb2l; omega
    · have := hR k hk; omega
    · have := hp.2.1 k hk; omega
  have HRW := hide hRW
  have HB1 := hide hB1
  have HB2 := hide hB2
  have HJ := hide hJ
  have HJX := hide hJx
  have HY := hide hY
  have H0 := hide h0
  have HEG := hide eg
  have egf := hp.1
  have HPR := hide (fun Wx x (hk : Kpt Rf W Wx) hx => hp.2.2 Wx x ((hW.mono (fun _ h => .inr (.inr (.inr h)))).trans hk) hx)
  have HSW : Hid (SeqD Fence.wide 8 Tryd.prog gf lb (fun x => #[.int .i64 x]) R zs W) := hide (hs.later (hW.mono (fun _ h => .inr (.inr (.inl h)))))
  have hbox0 := heap_alloc_new W (.cells #[.func (.yield ll) #[] #[]] 43)
  have hc00 := Chg.alloc (fun _ => False) W (.cells #[.func (.yield ll) #[] #[]] 43)
  have hz00 : (W.alloc (.cells #[.func (.yield ll) #[] #[]] 43)).heap.size = W.heap.size + 1 := World.size_alloc _ _
  generalize hw2 : W.alloc (.cells #[.func (.yield ll) #[] #[]] 43) = w2 at hbox0 hc00 hz00
  have HW2 := hide hw2
  have HBX := hide hbox0
  have HC02 := hide hc00
  have HZ2 := hide hz00
  have hB1' := hc00.cell hB1 (fun h => h)
  have hB2' := hc00.cell hB2 (fun h => h)
  clear hJ hJx hY h0 hW h1 h2 hs hR hp hB1 hB2 hRW eg hw2 hbox0 hc00 hz00 hb1l hb2l
  refine callsIn_wide.2 ((callsIn_wide (n := 9)).1 ?_)
  refine callsIn_of_wp_marks Tryd.func108 rfl trivial ?_ rfl
  simp only [Tryd.ntmps108, List.size_toArray, List.length_cons, List.length_nil, Nat.reduceAdd, Nat.reduceSub, Array.replicate_succ, Array.replicate_zero, List.push_toArray, List.append_toArray, List.nil_append, List.cons_append]
  gi_wp2_with (rw [HW2.out])
  clear hB1' hB2'
  refine wpIn_range_D (α := Int) rfl (by omega) (gf := gf) (lb := lb) rfl trivial HEG.out
    HSW.out (Kpt.of_chg HC02.out (fun _ _ _ h => h)) (fun k hk => by have := HRW.out k (.inr (.inr (.inl hk))); have := HZ2.out; omega) (fun _ => rfl)
    (fun D' pre Wr => ∃ D, J D (pre.filter F) Wr ∧ (∀ k, D' k → D k ∧ w2.heap.size ≤ k) ∧ (∀ k, W.heap.size ≤ k → k < w2.heap.size + 2 → D k) ∧ Wr.heap[W.heap.size]? = some (.cells #[.func (.yield ll) #[] #[]] 43 (0, 0)) ∧ w2.heap.size + 2 ≤ Wr.heap.size ∧ Kpt (fun k => k = b1 ∨ k = b2 ∨ R k ∨ Rf k) W Wr)
    (fun c D' pre Wr => c = .ret ∧ ∃ D, Jx D (pre.filter F) Wr ∧ (∀ k, D' k → D k) ∧ (∀ k, W.heap.size ≤ k → k < w2.heap.size + 2 → D k)) ?hI ?hIx ?h0
    (fun x a' _ => ∃ u0 u5 u6 u7 u8 u9 u10 u11 u12 u13 u14 u15 u16 u17 u18 u19 u20 u21, a' = { tmps := #[u0, .pointer (some ⟨b1, 0, none⟩), .pointer (some ⟨b2, 0, none⟩), .pointer (some ⟨W.heap.size, 0, none⟩), .int .i64 x, u5, u6, u7, u8, u9, u10, u11, u12, u13, u14, u15, u16, u17, u18, u19, u20, u21], defers := [] })
    (fun _ _ _ _ h _ _ => h) ?assign ?body ?done ?stop
  case hI =>
    have hz2 := HZ2.out
    rintro D' s A A' S ⟨D, hj, hd, hnew, hb, hsz, hk⟩ hc hS
    have hsub : ∀ k, k < A.heap.size → S k → D k := fun k hk hs => (hS k hk hs).elim (fun h => (hd k h).1) (fun h => hnew k (by omega) (by omega))
    have hno : ∀ k, k < w2.heap.size → ¬ S k := fun k hk h => by
      rcases hS k (by omega) h with h1 | h1
      · have := (hd k h1).2; omega
      · omega
    refine ⟨_, HJ.out D _ A A' S hj hc hsub, ?_, fun k h1 h2 => .inl (hnew k h1 h2), hc.heap hb (hno _ (by omega)), Nat.le_trans hsz hc.size, hk.trans (Kpt.of_chg hc (fun k _ hr => hno k (by have := HRW.out k hr; omega)))⟩
    rintro k (h | h)
    · exact ⟨.inl (hd k h).1, (hd k h).2⟩
    · exact ⟨.inr h, by omega⟩
  case hIx =>
    have hz2 := HZ2.out
    rintro c D' s A A' S ⟨rfl, D, hj, hd, hnew⟩ hc hS
    have hsub : ∀ k, k < A.heap.size → S k → D k := fun k hk hs => (hS k hk hs).elim (fun h => hd k h) (fun h => hnew k (by omega) (by omega))
    refine ⟨rfl, _, HJX.out D _ A A' S hj hc hsub, ?_, fun k h1 h2 => .inl (hnew k h1 h2)⟩
    rintro k (h | h)
    · exact .inl (hd k h)
    · exact .inr h
  case h0 =>
    intro W' hc' hz'
    have hc0 := HC02.out.trans hc' (S'' := fun _ => False) (fun _ _ h => h) (fun _ _ h => h)
    refine ⟨_, HJ.out _ [] W W' _ H0.out hc0 (fun _ _ h => h.elim), fun _ h => h.elim, fun k h1 h2 => .inr ⟨h1, by omega⟩, hc'.heap HBX.out (fun h => h), by omega, Kpt.of_chg hc0 (fun _ _ _ h => h)⟩
  case assign =>
    intro lr D pre x W1 K hi hpre hsz hK
    gi_wp2
    exact hK _ _ (Kpt.refl _ _) hi ⟨_, _, _, _, _, _, _, _, _, _, _, _, _, _, _, _, _, _, rfl⟩
  case body =>
    rintro lr D' pre x a' W1 hlr ⟨r, hr⟩ hnc ⟨D, hj, hd, hnew, hb, hsz, hk⟩ ⟨u0, u5, u6, u7, u8, u9, u10, u11, u12, u13, u14, u15, u16, u17, u18, u19, u20, u21, rfl⟩ hpre hnd hnd1
    have hz2 := HZ2.out
    have hcb := cell_of_heap hb 0
    have hc2 : W1.cell? ⟨b2, 0, none⟩ = some (.func (.func fg) #[] lbf) := (World.cell?_of_block (hk.2 b2 (HRW.out b2 (.inr (.inl rfl))) (.inr (.inl rfl)))).trans HB2.out
    have HC := hide (HPR.out W1 x (hk.mono (fun _ h => .inr (.inr (.inr h)))) (hpre.subset (by simp)))
    have HB := hide hb
    have HD := hide hd
    have HNEW := hide hnew
    have HK := hide hk
    have HJ1 := hide hj
    have HPRE := hide hpre
    clear hb hr hnc hj hpre hd hnew hnd hnd1 hk hz2
    cases hF : F x with
    | false =>
      have hfl : (pre ++ [x]).filter F = pre.filter F := by rw [List.filter_append]; simp [hF]
      have HFL := hide hfl
      rw [hF] at HC
      clear hF hfl
      gi_wp2_with fail
      refine ⟨trivial, (CallsIn.inRound _ (callsIn_wide.2 HC.out)).mono ?_⟩
      rintro e w3 ⟨rfl, rfl⟩
      gi_wp2_with fail
      refine ⟨(fun _ h => by cases h), ?_⟩
      gi_wp2_with fail
      refine ⟨Kpt.refl _ _, D, ?_, HD.out, HNEW.out, HB.out, hsz, HK.out⟩
      rw [HFL.out]; exact HJ1.out
    | true =>
      have hfl : (pre ++ [x]).filter F = pre.filter F ++ [x] := by rw [List.filter_append]; simp [hF]
      have hpf := List.IsPrefix.filter F HPRE.out
      rw [hfl] at hpf
      have HFL := hide hfl
      rw [hF] at HC
      obtain ⟨fn, tmps, assign, body, hy, hR⟩ := YieldAt.any rfl 6 (HY.out D (pre.filter F) x W1 HJ1.out hpf)
      have HRR := hide hR
      clear hF hfl hpf hR
      gi_wp2_with fail
      refine ⟨trivial, (CallsIn.inRound _ (callsIn_wide.2 HC.out)).mono ?_⟩
      rintro e w3 ⟨rfl, rfl⟩
      gi_wp2_with fail
      refine HRR.out.mono ?_
      have hz2 := HZ2.out
      rintro e W3 (⟨rfl, hj3, hk3⟩ | ⟨rfl, hx3, hk3⟩)
      · have HJ3 := hide hj3
        have HK3 := hide hk3
        clear hj3 hk3
        gi_wp2
        refine ⟨HK3.out.mono (fun k h => ?_), D, ?_, HD.out, HNEW.out, HK3.out.heap HB.out (.inr (HNEW.out _ (Nat.le_refl _) (by omega))), Nat.le_trans hsz HK3.out.1, HK.out.trans (HK3.out.mono (fun _ h => .inl h))⟩
        · rcases h with h | h | h | h
          · exact .inl (.inr (.inr (.inl h)))
          · exact .inr (HD.out k h).1
          · exact .inr (HNEW.out k (by omega) (by omega))
          · exact .inr (HNEW.out k (by omega) (by omega))
        · rw [HFL.out]; exact HJ3.out
      · have HX3 := hide hx3
        have HK3 := hide hk3
        clear hx3 hk3
        gi_wp2
        refine ⟨HK3.out.mono (fun k h => ?_), rfl, D, ?_, fun k h => (HD.out k h).1, HNEW.out⟩
        · rcases h with h | h | h | h
          · exact .inl (.inr (.inr (.inl h)))
          · exact .inr (HD.out k h).1
          · exact .inr (HNEW.out k (by omega) (by omega))
          · exact .inr (HNEW.out k (by omega) (by omega))
        · rw [HFL.out]; exact HX3.out
  case done =>
    rintro D' Wd ⟨D, hj, hd, hnew, hb, hsz, hk⟩ hdef hnd
    have HJ3 := hide hj
    have HNEW := hide hnew
    have hz2 := HZ2.out
    clear hj hd hnew hb hk
    gi_wp2
    refine ⟨by simp, .inl ⟨_, _, rfl, run_takeDeferred hdef, ?_⟩⟩
    exact ⟨_, results_none rfl _ _ _, ⟨_, rfl⟩, .inl ⟨_, HJ.out D _ Wd _ _ HJ3.out (chg_putObj Wd _ _) (fun k _ e => by subst e; exact HNEW.out _ (by omega) (by omega))⟩⟩
  case stop =>
    rintro D' c pre Wd hpre ⟨rfl, D, hx, hd, hnew⟩ hdef hnd
    have HX3 := hide hx
    have HNEW := hide hnew
    have hz2 := HZ2.out
    have HPF := hide (List.IsPrefix.filter F hpre)
    clear hx hd hnew
    gi_wp2
    refine ⟨by simp, .inl ⟨_, _, rfl, run_takeDeferred hdef, ?_⟩⟩
    exact ⟨_, results_none rfl _ _ _, ⟨_, rfl⟩, .inr ⟨_, _, HPF.out, HJX.out D _ Wd _ _ HX3.out (chg_putObj Wd _ _) (fun k _ e => by subst e; exact HNEW.out _ (by omega) (by omega))⟩⟩
theorem seq_Filter (w : World) (zs : List Int) (v : Value) (h : TellsI zs v w) (Rf : Nat → Prop) (fg : Nat) (lbf : Array Value) (F : Int → Bool) (hp : PredAt Rf w fg lbf F zs) :
    Calls Tryd.prog 81 #[v, .func (.func fg) #[] lbf] w fun e w' => ∃ g, e = .returned g ∧ TellsI (zs.filter F) g w' ∧ Below w.heap.size w w' := by
  obtain ⟨gf, lb, R, rfl, eg, hs, hR⟩ := h
  have hb := (Below.refl w.heap.size w).alloc (Nat.le_refl _) (.cells #[.func (.func gf) #[] lb] 59)
  have h1 := heap_alloc_new w (.cells #[.func (.func gf) #[] lb] 59)
  have hs1 : (w.alloc (.cells #[.func (.func gf) #[] lb] 59)).heap.size = w.heap.size + 1 := World.size_alloc _ _
  generalize hw1 : w.alloc (.cells #[.func (.func gf) #[] lb] 59) = w1 at hb h1 hs1
  have HW1 := hide hw1
  have hb2 := hb.alloc hb.size (.cells #[.func (.func fg) #[] lbf] 43)
  have h2 := (Chg.alloc (fun _ => False) w1 (.cells #[.func (.func fg) #[] lbf] 43)).heap h1 (fun h => h)
  have h3 := heap_alloc_new w1 (.cells #[.func (.func fg) #[] lbf] 43)
  rw [hs1] at h3
  have hs2 : (w1.alloc (.cells #[.func (.func fg) #[] lbf] 43)).heap.size = w.heap.size + 2 := by rw [World.size_alloc, hs1]
  generalize hw2 : w1.alloc (.cells #[.func (.func fg) #[] lbf] 43) = w2 at hb2 h2 h3 hs2
  have HW2 := hide hw2
  have hc2 := Chg.of_below0 (S := fun _ => False) hb2
  have HT := hide (filter_seqd w2 w.heap.size (w.heap.size + 1) gf lb R Rf zs fg lbf F eg (hs.later (Kpt.of_chg hc2 (fun _ _ _ h => h))) (fun k hk => by have := hR k hk; omega)
    ⟨hp.1, fun k hk => by have := hp.2.1 k hk; omega, fun Wx x hk hx => hp.2.2 Wx x ((Kpt.of_chg hc2 (fun _ _ _ h => h)).trans hk) hx⟩ (cell_of_heap h2 0) (cell_of_heap h3 0))
  have HRL := hide (fun k (hk : k = w.heap.size ∨ k = w.heap.size + 1 ∨ R k ∨ Rf k) => (show k < w2.heap.size by rcases hk with rfl | rfl | hk | hk; (· omega); (· omega); (· have := hR k hk; omega); (· have := hp.2.1 k hk; omega)))
  have HB := hide hb2
  have HS1 := hide hs1
  clear hb h1 hs1 hb2 h2 h3 hs2 hw1 hw2 hc2 hs hR hp eg
  go_enter Tryd.func81, Tryd.ntmps81
  go_wp2_with (first | rw [HW1.out] | rw [HW2.out])
  go_ret
  refine ⟨_, rfl, ⟨_, _, _, by rw [HS1.out]; rfl, enters_of Tryd.func108 (by kernel_rfl) rfl, HT.out, HRL.out⟩, HB.out⟩
theorem in_ok (w : World) (b7 b n : Nat) (f : Int → Bool) (hb : w.cell? ⟨b7, 0, none⟩ = some (.map (some b))) (hm : MapB w b n f) (x : Int) (hx : (Lit.int .i64 x).wf = true) :
    Calls Tryd.prog 82 (#[.int .i64 x] ++ #[.pointer (some ⟨b7, 0, none⟩)]) w fun e w' => e = .returned (.bool (f x)) ∧ w' = w := by
  have hl := hm.get x hx
  clear hm
  go_enter Tryd.func82, Tryd.ntmps82
  go_wp2_with fail
  go_ret
  exact ⟨rfl, rfl⟩
set_option maxRecDepth 100000 in
set_option maxHeartbeats 4000000 in
theorem base_Common (w : World) {v : Value} {cs : List Cm} (hd : DagOk cs) (hg : Gets w v cs) (a b : Int) (ha : I64 a) (hb : I64 b) :
    Calls Tryd.prog 50 #[v, .int .i64 a, .int .i64 b] w fun e w' => ∃ ao cap, e = .returned (.slice ao (commonN cs a b).length cap) ∧ w'.ownsRow w.heap.size 3 1 (.slice ao (commonN cs a b).length cap) (commonN cs a b).length ((commonN cs a b).map (Value.int .i64)) ∧ Below w.heap.size w w' := by
  have HSET := hide (base_set w hd hg b hb)
  have HG := hide hg
  have HD := hide hd
  have hl := common_len cs a b
  have hl6 := hd.len
  have hal := aheadN_length cs a
  have hfl := List.length_filter_le (fun x => (aheadN cs b).contains x) (aheadN cs a)
  have HX : Hid (((aheadN cs a).filter (fun x => (aheadN cs b).contains x)).reverse = commonN cs a b) := hide rfl
  have HW : Hid (∀ x ∈ aheadN cs a, (Lit.int .i64 x).wf = true) := hide (fun x hx => by
    have := ahead_range hx
    exact WalkArith.wf_i64 (by omega))
  obtain ⟨av, rfl⟩ := hg.1
  clear hg hd
  go_enter Tryd.func50, Tryd.ntmps50
  go_wp2_with fail
  refine HSET.out.mono ?_
  rintro e w2 ⟨bm, m, rfl, hm2, hbm, hb2⟩
  have hc3 := Chg.alloc (fun _ => False) w2 (.cells #[.map (some bm)] 95)
  have hk3 := heap_alloc_new w2 (.cells #[.map (some bm)] 95)
  generalize hw3 : w2.alloc (.cells #[.map (some bm)] 95) = w3 at hc3 hk3
  have HW3 := hide hw3
  have HK3 := hide hk3
  have HB3 := hide (hb2.trans (hc3.below hb2.size (fun _ _ h => h)))
  have HM3 := hide (hm2.chg hc3 (fun h => h))
  have HC3 := hide ((Chg.of_below0 (S := fun _ => False) hb2).trans hc3 (S'' := fun _ => False) (fun _ _ h => h) (fun _ _ h => h))
  clear hm2 hb2 hc3 hk3 hw3
  go_wp2_with (rw [HW3.out])
  refine (dag_Ahead w3 (HG.out.chg HC3.out) a ha HD.out).mono ?_
  rintro e w4 ⟨gv, rfl, ht4, hb4⟩
  have hc4 := Chg.of_below0 (S := fun _ => False) hb4
  have hk4 := hc4.heap HK3.out (fun h => h)
  have hm4 := HM3.out.chg hc4 (fun h => h)
  have HF := hide (seq_Filter w4 (aheadN cs a) gv ht4 (fun k => k = w2.heap.size ∨ k = bm) 82 #[.pointer (some ⟨w2.heap.size, 0, none⟩)] (fun x => (aheadN cs b).contains x)
    ⟨enters_of Tryd.func82 (by kernel_rfl) rfl, fun k hk => by
      rcases hk with rfl | rfl
      · exact (Array.getElem?_eq_some_iff.1 hk4).1
      · exact hm4.lt,
     fun Wx x hk hx => in_ok Wx w2.heap.size bm m (fun x => (aheadN cs b).contains x) (cell_of_heap (hk.heap hk4 (.inl rfl)) 0) (by
      obtain ⟨D, ⟨es, clock, hbk, F, hs, hD⟩, h2⟩ := hm4
      exact ⟨D, ⟨es, clock, hk.heap hbk (.inr rfl), F, hs, hD⟩, h2⟩) x (HW.out x hx)⟩)
  have HB4 := hide (HB3.out.trans (hb4.mono HB3.out.size))
  clear ht4 hb4 hc4 hk4 hm4
  go_wp2_with fail
  refine HF.out.mono ?_
  rintro e w5 ⟨gv5, rfl, ht5, hb5⟩
  have HLS := hide (list_told w5 _ gv5 ht5 (by omega))
  have HB5 := hide (HB4.out.trans (hb5.mono HB4.out.size))
  clear ht5 hb5 HF
  generalize (aheadN cs a).filter (fun x => (aheadN cs b).contains x) = zs at *
  go_wp2_with fail
  refine HLS.out.mono ?_
  rintro e w6 ⟨ao6, cap6, rfl, ho6, hb6⟩
  have hrv := reverse_ok w6 _ zs ho6 (by omega)
  have HRV := hide hrv
  have HO6 := hide ho6
  have HB6 := hide (HB5.out.trans (hb6.mono HB5.out.size))
  have HS5 := hide HB5.out.size
  clear ho6 hb6 hrv HLS
  go_wp2_with fail
  refine HRV.out.mono ?_
  rintro e w7 ⟨⟨u, rfl⟩, ho7, hc7⟩
  have HO7 := hide ho7
  have HC7 := hide hc7
  clear ho7 hc7
  go_wp2_with fail
  go_ret
  refine ⟨ao6, cap6, ?_, ?_, HB6.out.trans (HC7.out.below HB6.out.size (fun k hk h => by have h1 := (ownsRow_lt HO6.out k h).1; have h2 := HS5.out; omega))⟩
  · rw [← HX.out, List.length_reverse]; rfl
  · rw [← HX.out, List.length_reverse]
    refine ownsRow_base HO7.out (fun k hk => by have h1 := (ownsRow_lt HO7.out k hk).1; have h2 := HS5.out; omega)
end Go.Proofs.YtnnkbicaokckbaaDoor
