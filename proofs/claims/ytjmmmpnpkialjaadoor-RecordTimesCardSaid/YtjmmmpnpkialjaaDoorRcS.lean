/- record.All: what it gives, what it promises. Conditions: the bytes read as said. -/
import Derived.Test.YtjmmmpnpkialjaaDoorRcA
import Derived.Test.YtjmmmpnpkialjaaDoorIterB
import Derived.Test.YtjmmmpnpkialjaaDoorIter
namespace Go.Proofs.YtjmmmpnpkialjaaDoor
open Go.RowKit Go.Shelf
attribute [local go_sem] Oper.semAt_some

theorem record_own (w : World) (vb : Value) (b : List UInt8) (hb : Rd w vb b.length (u8s b)) (hm : b.length ≤ 100000000) :
    Calls Tryd.prog 62 #[vb] w fun e w' => ∃ ao cap, e = .returned (.slice ao b.length cap) ∧ w'.ownsRow w.heap.size 5 1 (.slice ao b.length cap) b.length (u8s b) ∧ Below w.heap.size w w' := by
  have HB := hide hb
  obtain ⟨ab, cb, rfl, -, -⟩ := hb.shape
  clear hb
  go_enter Tryd.func62, Tryd.ntmps62
  go_wp2_with (at_builtin; refine wpl_append rfl _ _ _ rfl slU8 w.heap.size (World.ownsRow_nil w _ _ _) HB.out rfl rfl (u8s_len1 b) (u8s_one b) (by unfold maxLen; omega) (by omega) (Nat.le_refl _) ?_; intro ao9 cap9 w10 ho9 hg9 _ _; simp only [Nat.zero_add, List.nil_append] at ho9; have HO9 := hide ho9; have HG9 := hide hg9; clear ho9 hg9)
  go_ret
  exact ⟨ao9, cap9, rfl, HO9.out, HG9.out.below (n := w.heap.size) (Nat.le_refl _) (fun k _ h => by cases h)⟩
/-- Where the iterator's bytes lie. -/
structure AllAt (w : World) (n0 B : Nat) (ao : Option Addr) (cap : Nat) (b : List UInt8) : Prop where
  box : w.heap[B]? = some (.cells #[.slice ao b.length cap] 30 (0, 0))
  row : w.ownsRow n0 5 1 (.slice ao b.length cap) b.length (u8s b)
  ge : n0 ≤ B
def RA (B : Nat) (ao : Option Addr) (n cap : Nat) (k : Nat) : Prop := k = B ∨ (Value.slice ao n cap).ownBlock = some k
theorem AllAt.kpt {w W : World} {n0 B : Nat} {ao : Option Addr} {cap : Nat} {b : List UInt8} (h : AllAt w n0 B ao cap b) (k : Kpt (RA B ao b.length cap) w W) : AllAt W n0 B ao cap b := by
  refine ⟨k.heap h.box (.inl rfl), ?_, h.ge⟩
  refine ⟨h.row.1, ?_⟩
  rcases h.row.2 with hn | ⟨gg, cap', cur, e1, hb, hgg, rest⟩
  · exact .inl hn
  · exact .inr ⟨gg, cap', cur, e1, hb, k.heap hgg (.inr (by rw [e1]; rfl)), rest⟩
theorem AllAt.chg {S : Nat → Prop} {w W : World} {n0 B : Nat} {ao : Option Addr} {cap : Nat} {b : List UInt8} (h : AllAt w n0 B ao cap b) (c : Chg S w W) (hs : ∀ k, RA B ao b.length cap k → ¬ S k) : AllAt W n0 B ao cap b :=
  h.kpt (Kpt.of_chg c (fun k _ hr => hs k hr))
theorem AllAt.lt {w : World} {n0 B : Nat} {ao : Option Addr} {cap : Nat} {b : List UInt8} (h : AllAt w n0 B ao cap b) : ∀ k, RA B ao b.length cap k → n0 ≤ k ∧ k < w.heap.size := by
  rintro k (rfl | hk)
  · exact ⟨h.ge, (Array.getElem?_eq_some_iff.1 h.box).1⟩
  · exact ownsRow_lt h.row k hk
theorem record_All (w : World) (vb : Value) (b : List UInt8) (hb : Rd w vb b.length (u8s b)) (hm : b.length ≤ 100000000) :
    Calls Tryd.prog 31 #[vb] w fun e w' => ∃ B ao cap, e = .returned (.func (.func 63) #[] #[.pointer (some ⟨B, 0, none⟩)]) ∧ AllAt w' w.heap.size B ao cap b ∧ Below w.heap.size w w' := by
  have HC := hide (record_own w vb b hb hm)
  obtain ⟨ab, cb, rfl, -, -⟩ := hb.shape
  clear hb
  go_enter Tryd.func31, Tryd.ntmps31
  go_wp2_with fail
  refine HC.out.mono ?_
  rintro e w1 ⟨ao, cap, rfl, ho, hb1⟩
  have ha : AllAt (w1.alloc (.cells #[.slice ao b.length cap] 30)) w.heap.size w1.heap.size ao cap b := ⟨heap_alloc_new w1 _, (Chg.alloc (fun _ => False) w1 _).owns ho (fun _ _ h => h), hb1.size⟩
  have HA := hide ha
  have HB := hide (hb1.alloc hb1.size (.cells #[.slice ao b.length cap] 30))
  clear ha ho hb1 HC
  go_wp2_with fail
  go_ret
  exact ⟨w1.heap.size, ao, cap, rfl, HA.out, HB.out⟩
/-- How a record is told: the place behind it, and the record in rows that are no more the iterator's. -/
def RcTold (n0 : Nat) (D : Nat → Prop) (x : Int × Rc) (args : Array Value) (W : World) : Prop :=
  ∃ q : RqV, args = #[.int .i64 x.1, RcV.val ⟨x.2.at_, q⟩] ∧ q.r = x.2.r ∧ Own W n0 q.x ∧ ∀ k, (q.x.vp.ownBlock = some k ∨ q.x.vt.ownBlock = some k) → ¬ D k
theorem rdRcs_step {b : List UInt8} {f : Nat} {p least en : Int} {x : Rc} {pre : List (Int × Rc)} (h : rdRcs b = pre ++ recs b (f + 1) p least) (h1 : rdOne b p least = some (x, en)) : rdRcs b = (pre ++ [(en, x)]) ++ recs b f en x.at_ := by
  rw [h, recs, h1]; simp
theorem rdRcs_stop {b : List UInt8} {f : Nat} {p least : Int} {pre : List (Int × Rc)} (h : rdRcs b = pre ++ recs b (f + 1) p least) (h1 : rdOne b p least = none) : rdRcs b = pre := by
  rw [h, recs, h1]; simp
set_option maxRecDepth 100000 in
set_option maxHeartbeats 4000000 in
theorem all_seqe (w : World) (n0 B : Nat) (ao : Option Addr) (cap : Nat) (b : List UInt8) (h : AllAt w n0 B ao cap b) (hm : b.length ≤ 100000000) (hM : Mx w) :
    SeqE Fence.wide 8 Tryd.prog 63 #[.pointer (some ⟨B, 0, none⟩)] (RcTold w.heap.size) (fun k => k = 0 ∨ RA B ao b.length cap k) (rdRcs b) w := by
  intro ll J Jx W hW hJ hJx hY h0
  have HA : Hid (∀ Wx, Kpt (fun k => k = 0 ∨ RA B ao b.length cap k) w Wx → AllAt Wx n0 B ao cap b ∧ Mx Wx) := hide (fun Wx hk => ⟨h.kpt (hk.mono (fun k hr => .inr hr)), by
    obtain ⟨m, hm1⟩ := hM
    exact ⟨m, (World.cell?_of_block (hk.2 0 (World.block_lt_of_cell? w _ hm1) (.inl rfl))).trans hm1⟩⟩)
  have HW := hide hW
  have HJ := hide hJ
  have HJx := hide hJx
  have HY := hide hY
  have H0 := hide h0
  have HLT := hide h.lt
  have HNW := hide (show n0 ≤ W.heap.size by have h5 := (Array.getElem?_eq_some_iff.1 h.box).1; have h6 := hW.1; have h7 := h.ge; omega)
  clear hJ hJx hY h0 h hW hM
  refine callsIn_of_wp Tryd.func63 rfl trivial ?_ rfl
  simp only [Tryd.ntmps63, List.size_toArray, List.length_cons, List.length_nil, Nat.reduceAdd, Nat.reduceSub, Array.replicate_succ, Array.replicate_zero, List.push_toArray, List.append_toArray, List.nil_append, List.cons_append]
  gi_wp2
  gi_loopw [3, 4, 8] (fun av lv i wr => ∃ k : Nat, k ≤ 2000 ∧ i = .int .i64 k ∧ ∃ (p least : Int), av = .int .i64 p ∧ lv = .int .i64 least ∧
    Hid (∃ D pre, J D pre wr ∧ rdRcs b = pre ++ recs b (2000 - k) p least ∧ (∀ j, D j → W.heap.size ≤ j ∧ j < wr.heap.size)) ∧ Hid (Kpt (fun k => k = 0 ∨ RA B ao b.length cap k) W wr)) (fun _ _ i _ => 2000 - (intOf i).toNat)
  case atStart => exact ⟨0, by omega, rfl, 0, 0, rfl, rfl, ⟨_, [], H0.out, rfl, fun _ h => h.elim⟩, Kpt.refl _ _⟩
  case round =>
    obtain ⟨k, hk, rfl, p, least, rfl, rfl, HR, HK⟩ := hrel
    obtain ⟨D, pre, hj, hpre, hD⟩ := HR.out
    by_cases hlt : k < 2000
    · have hw := HA.out wr (HW.out.trans HK.out)
      have hone := record_one wr _ b p least (Rd.of_owns hw.1.row) (by omega) hw.2
      have c1 := cell_of_heap hw.1.box 0
      simp at c1
      have HONE := hide hone
      have HJ1 := hide hj
      have HPRE := hide hpre
      have HD := hide hD
      clear hj hpre hD hw hone HR
      gi_wp2_with fail
      refine ⟨trivial, ?_⟩
      gi_at_call 64
      refine (callsIn_wide.2 HONE.out).mono ?_
      rintro e W3 hs
      obtain ⟨x, en, ok, rfl, ho, hb3, hno, hyes⟩ := hs
      have HS3 := hide hb3.size
      have hc3 := Chg.of_below0 (S := fun _ => False) hb3
      obtain ⟨t, qk, qi, qn, ql, qs, ⟨⟨xps, xts, xn⟩, xp, xt⟩⟩ := x
      obtain ⟨px, qx, hpx⟩ := ownsRow_shape ho.ps
      obtain ⟨pt, qt, hpt⟩ := ownsRow_shape ho.ts
      simp only at hpx hpt
      subst hpx hpt
      have hc4 := hc3.trans (Chg.alloc (fun _ => False) W3 (.cells #[.int .i64 t, .int .i64 qk, .int .i64 qi, .int .i64 qn, .int .i64 ql, .bool qs, .slice px xps.length qx, .slice pt xts.length qt, .string xn] 54)) (S'' := fun _ => False) (fun _ _ h => h) (fun _ _ h => h)
      have ho4 := ho.chg (Chg.alloc (fun _ => False) W3 (.cells #[.int .i64 t, .int .i64 qk, .int .i64 qi, .int .i64 qn, .int .i64 ql, .bool qs, .slice px xps.length qx, .slice pt xts.length qt, .string xn] 54)) (fun _ _ _ h => h)
      have hn4 := heap_alloc_new W3 (.cells #[.int .i64 t, .int .i64 qk, .int .i64 qi, .int .i64 qn, .int .i64 ql, .bool qs, .slice px xps.length qx, .slice pt xts.length qt, .string xn] 54)
      have hz4 : (W3.alloc (.cells #[.int .i64 t, .int .i64 qk, .int .i64 qi, .int .i64 qn, .int .i64 ql, .bool qs, .slice px xps.length qx, .slice pt xts.length qt, .string xn] 54)).heap.size = W3.heap.size + 1 := World.size_alloc _ _
      generalize hw4 : W3.alloc (.cells #[.int .i64 t, .int .i64 qk, .int .i64 qi, .int .i64 qn, .int .i64 ql, .bool qs, .slice px xps.length qx, .slice pt xts.length qt, .string xn] 54) = W4 at hc4 ho4 hn4 hz4
      have HW4 := hide hw4
      have HC4 := hide hc4
      have HO4 := hide ho4
      have HO3 := hide ho
      have HN4 := hide hn4
      have HZ4 := hide hz4
      have HNO := hide hno
      have HYES := hide hyes
      unfold RcV.val
      simp only
      clear hb3 hc3 hw4 hc4 ho4 ho hn4 hz4 hno hyes HONE c1
      cases ok with
      | false =>
        have hz : rdRcs b = pre := rdRcs_stop (f := 2000 - k - 1) (by rw [HPRE.out]; congr 2; omega) (HNO.out rfl)
        have HZ := hide hz
        clear hz
        gi_wp2_with fail
        refine ⟨(fun _ h => by cases h), ?_⟩
        gi_wp2_with fail
        rw [HW4.out]
        refine bodyPost_ret (results_none rfl _ _ _) rfl ?_
        refine ⟨⟨_, rfl⟩, .inl ⟨D, ?_⟩⟩
        rw [HZ.out]
        exact HJ.out D pre wr W4 _ D HJ1.out HC4.out (fun _ _ h => h.elim) (fun _ h => h) (fun _ h => .inl h)
      | true =>
        have hone := HYES.out rfl
        have hnx := rdRcs_step (f := 2000 - (k + 1)) (by rw [HPRE.out]; congr 2; omega) hone
        have HNX := hide hnx
        let D2 : Nat → Prop := fun c => D c ∨ (wr.heap.size ≤ c ∧ c < W4.heap.size ∧ ¬ ((Value.slice px xps.length qx).ownBlock = some c ∨ (Value.slice pt xts.length qt).ownBlock = some c))
        have hj4 : J D2 pre W4 := HJ.out D pre wr W4 _ D2 HJ1.out HC4.out (fun _ _ h => h.elim) (fun _ h => .inl h) (fun c h => h.elim .inl (fun h => .inr ⟨h.1, h.2.1⟩))
        have hct : RcTold w.heap.size D2 (en, RcV.rc ⟨t, qk, qi, qn, ql, qs, ⟨⟨xps, xts, xn⟩, .slice px xps.length qx, .slice pt xts.length qt⟩⟩) #[.int .i64 en, .agg #[.int .i64 t, .int .i64 qk, .int .i64 qi, .int .i64 qn, .int .i64 ql, .bool qs, .slice px xps.length qx, .slice pt xts.length qt, .string xn]] W4 := by
          refine ⟨⟨qk, qi, qn, ql, qs, ⟨⟨xps, xts, xn⟩, .slice px xps.length qx, .slice pt xts.length qt⟩⟩, rfl, rfl, HO4.out.base (by have h5 := HW.out.1; have h6 := HK.out.1; omega), fun c hc hD => ?_⟩
          rcases hD with hD | hD
          · have h3 := (HD.out c hD).2
            rcases hc with hc | hc
            · have := (ownsRow_lt HO3.out.ps c hc).1; omega
            · have := (ownsRow_lt HO3.out.ts c hc).1; omega
          · exact hD.2.2 hc
        obtain ⟨fn, tmps, assign, body, hy, hR⟩ := HY.out D2 pre _ _ W4 hj4 hct (by rw [hnx]; exact List.prefix_append _ _)
        have HRR := hide hR
        have HD2 : Hid (∀ c, D2 c → W.heap.size ≤ c ∧ c < W4.heap.size) := hide (fun c h => by
          rcases h with h | h
          · have := HD.out c h; exact ⟨this.1, Nat.lt_of_lt_of_le this.2 HC4.out.size⟩
          · have h5 := h.1; have h6 := HK.out.1; exact ⟨by omega, h.2.1⟩)
        have HD5 : Hid (D2 W3.heap.size) := hide (.inr ⟨by have h6 := HS3.out; omega, by have h5 := HZ4.out; omega, fun h => by
          rcases h with h | h
          · have h7 := (ownsRow_lt HO3.out.ps _ h).2; omega
          · have h7 := (ownsRow_lt HO3.out.ts _ h).2; omega⟩)
        clear hone hnx hj4 hct hR
        clear_value D2
        have q0 := cell_of_heap HN4.out 0
        have q1 := cell_of_heap HN4.out 1
        have q2 := cell_of_heap HN4.out 2
        have q3 := cell_of_heap HN4.out 3
        have q4 := cell_of_heap HN4.out 4
        have q5 := cell_of_heap HN4.out 5
        have q6 := cell_of_heap HN4.out 6
        have q7 := cell_of_heap HN4.out 7
        have q8 := cell_of_heap HN4.out 8
        simp at q0 q1 q2 q3 q4 q5 q6 q7 q8
        gi_wp2_with (rw [HW4.out])
        refine HRR.out.mono ?_
        rintro e W5 (⟨rfl, hj5, hk5⟩ | ⟨rfl, hx5, hk5⟩)
        · have HJ5 := hide hj5
          have HK5 := hide hk5
          have r0 := cell_of_heap (hk5.heap HN4.out (.inr HD5.out)) 0
          simp at r0
          clear hj5 hk5 q0 q1 q2 q3 q4 q5 q6 q7 q8
          gi_wp2_with fail
          gi_region
          gi_wp2_with fail
          go_roundw
          case rel =>
            refine ⟨k + 1, by omega, by go_num, en, t, rfl, rfl, ⟨D2, _, HJ.out D2 _ W5 _ (fun _ => False) D2 HJ5.out (Chg.drew _ W5) (fun _ _ h => h.elim) (fun _ h => h) (fun _ h => .inl h), HNX.out, fun c hc => ⟨(HD2.out c hc).1, Nat.lt_of_lt_of_le (HD2.out c hc).2 HK5.out.1⟩⟩, ((HK.out.trans (Kpt.of_chg HC4.out (fun _ _ _ h => h))).trans (HK5.out.mono (fun c h => .inl h))).trans (Kpt.of_chg (Chg.drew (fun _ => False) W5) (fun _ _ _ h => h))⟩
          case measure => simp [intOf]; omega
        · have HX5 := hide hx5
          clear hx5 hk5 q0 q1 q2 q3 q4 q5 q6 q7 q8
          gi_wp2_with fail
          refine bodyPost_ret (results_none rfl _ _ _) rfl ?_
          exact ⟨⟨_, rfl⟩, .inr ⟨D2, _, by rw [HNX.out]; exact List.prefix_append _ _, HX5.out⟩⟩
    · obtain rfl : k = 2000 := by omega
      have HJ1 := hide hj
      have hz : rdRcs b = pre := by rw [hpre]; simp [recs]
      have HZ := hide hz
      clear hj hpre hD HR hz
      gi_wp2
      go_end0
      exact ⟨⟨_, rfl⟩, .inl ⟨D, by rw [HZ.out]; exact HJ1.out⟩⟩
end Go.Proofs.YtjmmmpnpkialjaaDoor
