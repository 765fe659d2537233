/- The document's request: Read. Conditions: the bytes read as said. -/
import Derived.Test.YtjmmmpnpkialjaaDoorRfK
import Derived.Test.YtjmmmpnpkialjaaDoorRfL
import Derived.Test.YtjmmmpnpkialjaaDoorReqD
import Derived.Deep.CutRange
namespace Go.Proofs.YtjmmmpnpkialjaaDoor
open Go.RowKit Go.Shelf
attribute [local go_sem] Oper.semAt_some

/-- Rows of unlike elements lie in unlike blocks. -/
theorem owns_apart {w : World} {b1 b2 : Nat} {e1 e2 : TypeId} {s1 s2 : Nat} {v1 v2 : Value} {n1 n2 : Nat} {x1 x2 : List Value} (h1 : w.ownsRow b1 e1 s1 v1 n1 x1) (h2 : w.ownsRow b2 e2 s2 v2 n2 x2) (hne : e1 ≠ e2) :
    ∀ k, v1.ownBlock = some k → v2.ownBlock ≠ some k := by
  intro k hk
  rcases h1.2 with ⟨rfl, -⟩ | ⟨g, cap, cur, rfl, -, hg, -⟩
  · cases hk
  · cases hk
    exact ownsRow_ne h2 hg hne
set_option maxHeartbeats 4000000 in
set_option maxRecDepth 100000 in
theorem ref17_Read (w : World) (vb : Value) (b : List UInt8) (hb : Rd w vb b.length (u8s b)) (hm0 : b.length ≤ 100000) :
    Calls Tryd.prog 23 #[vb] w fun e w' => Below w.heap.size w w' ∧ ((rdRq b = none ∧ e = .returned (.tuple #[.agg rqZ, .int .i64 5])) ∨ ∃ q : RqV, rdRq b = some q.r ∧ e = .returned (.tuple #[q.val, .int .i64 0]) ∧ Own w' w.heap.size q.x) := by
  have hm : b.length ≤ 140737488351232 := by omega
  have HB := hide hb
  obtain ⟨ab, cb, rfl, -, -⟩ := hb.shape
  clear hb
  obtain ⟨n0, a0, d0, h0⟩ : ∃ n a d, stR b 0 = (n, a, d) := ⟨_, _, _, rfl⟩
  obtain ⟨n1, a1, d1, h1⟩ : ∃ n a d, stR b 1 = (n, a, d) := ⟨_, _, _, rfl⟩
  obtain ⟨n2, a2, d2, h2⟩ : ∃ n a d, stR b 2 = (n, a, d) := ⟨_, _, _, rfl⟩
  obtain ⟨n3, a3, d3, h3⟩ : ∃ n a d, stR b 3 = (n, a, d) := ⟨_, _, _, rfl⟩
  obtain ⟨n4, a4, d4, h4⟩ : ∃ n a d, stR b 4 = (n, a, d) := ⟨_, _, _, rfl⟩
  have q1 : numS b a0 d0 = (n1, a1, d1) := by rw [← h1]; show _ = numS b (stR b 0).2.1 (stR b 0).2.2; rw [h0]
  have q2 : numS b a1 d1 = (n2, a2, d2) := by rw [← h2]; show _ = numS b (stR b 1).2.1 (stR b 1).2.2; rw [h1]
  have q3 : numS b a2 d2 = (n3, a3, d3) := by rw [← h3]; show _ = numS b (stR b 2).2.1 (stR b 2).2.2; rw [h2]
  have q4 : numS b a3 d3 = (n4, a4, d4) := by rw [← h4]; show _ = numS b (stR b 3).2.1 (stR b 3).2.2; rw [h3]
  have hcd : candR b = if n0 = 1 then (⟨1, n1, n2, n3, n4 == 1, (cmR b a4 d4).1⟩, (cmR b a4 d4).2.2) else (⟨n0, n1, n2, n3, n4 == 1, cmZ⟩, d4) := by
    simp only [candR, h0, h1, h2, h3, h4]
  have HCD := hide hcd
  have Q0 := hide h0
  have Q1 := hide q1
  have Q2 := hide q2
  have Q3 := hide q3
  have Q4 := hide q4
  clear hcd h0 h1 h2 h3 h4 q1 q2 q3 q4
  go_enter Tryd.func23, Tryd.ntmps23
  go_wp2_with fail
  have hy0 := heap_alloc_new w (Obj.cells rqZ 27)
  have hb0 := (Below.refl w.heap.size w).alloc (Nat.le_refl _) (Obj.cells rqZ 27)
  have hy1 := heap_alloc_new (w.alloc (Obj.cells rqZ 27)) (Obj.cells #[.slice ab b.length cb, .int .i64 0, .bool false] 89)
  have hb1 := hb0.alloc (by simp) (Obj.cells #[.slice ab b.length cb, .int .i64 0, .bool false] 89)
  have hy2 := heap_alloc_new ((w.alloc (Obj.cells rqZ 27)).alloc (Obj.cells #[.slice ab b.length cb, .int .i64 0, .bool false] 89)) (Obj.cells rqZ 27)
  have hb2 := hb1.alloc (by simp; omega) (Obj.cells rqZ 27)
  rw [World.size_alloc] at hy1
  rw [World.size_alloc, World.size_alloc] at hy2
  have hz := (Chg.alloc (fun _ => False) _ (Obj.cells rqZ 27)).heap ((Chg.alloc (fun _ => False) _ (Obj.cells #[.slice ab b.length cb, .int .i64 0, .bool false] 89)).heap hy0 (fun h => h)) (fun h => h)
  have hr := (Chg.alloc (fun _ => False) _ (Obj.cells rqZ 27)).heap hy1 (fun h => h)
  obtain ⟨W0, hW⟩ : ∃ W0, W0 = (((w.alloc (Obj.cells rqZ 27)).alloc (Obj.cells #[.slice ab b.length cb, .int .i64 0, .bool false] 89)).alloc (Obj.cells rqZ 27)) := ⟨_, rfl⟩
  rw [← hW] at hz hr hy2 hb2
  unfold rqZ at hW
  rw [← hW]
  clear hW hy0 hb0 hy1 hb1
  obtain ⟨p1, hp1⟩ : ∃ p1, p1 = w.heap.size + 1 := ⟨_, rfl⟩
  rw [← hp1] at hr hy2
  rw [← hp1]
  obtain ⟨p2, hp2⟩ : ∃ p2, p2 = p1 + 1 := ⟨_, rfl⟩
  rw [← hp2] at hy2
  rw [← hp2]
  have HP1 := hide hp1
  have HP2 := hide hp2
  have HZ := hide hz
  have HR := hide hr
  have HQ := hide hy2
  have HBW := hide hb2
  clear hp1 hp2 hz hr hy2 hb2
  unfold rqZ at HQ
  have hN := reader_num W0 p1 _ b 0 false (HB.out.chg (Chg.of_below0 (S := fun _ => False) HBW.out) (fun _ _ _ h => h)) hm HR.out
  rw [show numS b 0 false = (n0, a0, d0) from Q0.out] at hN
  have HN := hide hN
  clear hN
  refine HN.out.mono ?_
  rintro e w1 ⟨rfl, hr, hc7⟩
  have hc := hc7
  replace HR := hide hr
  replace HZ := hide (hc.heap HZ.out (fun h => by have h5 : w.heap.size = p1 := h; have h6 := HP1.out; omega))
  replace HQ := hide (hc.heap HQ.out (fun h => by have h5 : p2 = p1 := h; have h6 := HP2.out; omega))
  replace HBW := hide (HBW.out.trans (hc.below (n := w.heap.size) HBW.out.size (fun k hk h => by have h5 : k = p1 := h; have h6 := HP1.out; omega)))
  clear hr hc HN
  have f0 := free_of_heap HQ.out 0
  have g0 := cell_of_heap HQ.out 0
  simp at g0 f0
  go_wp2_with fail
  replace HQ : Hid ((w1.setCell ⟨p2, 0, none⟩ (.int .i64 n0)).heap[p2]? = some (.cells #[.int .i64 n0, .int .i64 0, .int .i64 0, .int .i64 0, .bool false, .slice none 0 0, .slice none 0 0, .string ⟨#[]⟩] 27 (0, 0))) := heap_setCell_same HQ.out (i := 0) (.int .i64 n0)
  replace HR := hide ((Chg.setCell w1 ⟨p2, 0, none⟩ (.int .i64 n0)).heap HR.out (fun h => by have h5 : p1 = p2 := h; have h6 := HP2.out; omega))
  replace HZ := hide ((Chg.setCell w1 ⟨p2, 0, none⟩ (.int .i64 n0)).heap HZ.out (fun h => by have h5 : w.heap.size = p2 := h; have h6 := HP2.out; have h7 := HP1.out; omega))
  replace HBW : Hid (Below w.heap.size w (w1.setCell ⟨p2, 0, none⟩ (.int .i64 n0))) := hide (HBW.out.setCell (by have h6 := HP2.out; have h7 := HP1.out; show w.heap.size ≤ p2; omega) _)
  clear f0 g0
  generalize w1.setCell ⟨p2, 0, none⟩ (.int .i64 n0) = W1 at HQ HR HZ HBW ⊢
  clear w1 hc7
  have hN := reader_num W1 p1 _ b a0 d0 (HB.out.chg (Chg.of_below0 (S := fun _ => False) HBW.out) (fun _ _ _ h => h)) hm HR.out
  rw [show numS b a0 d0 = (n1, a1, d1) from Q1.out] at hN
  have HN := hide hN
  clear hN
  refine HN.out.mono ?_
  rintro e w2 ⟨rfl, hr, hc7⟩
  have hc := hc7
  replace HR := hide hr
  replace HZ := hide (hc.heap HZ.out (fun h => by have h5 : w.heap.size = p1 := h; have h6 := HP1.out; omega))
  replace HQ := hide (hc.heap HQ.out (fun h => by have h5 : p2 = p1 := h; have h6 := HP2.out; omega))
  replace HBW := hide (HBW.out.trans (hc.below (n := w.heap.size) HBW.out.size (fun k hk h => by have h5 : k = p1 := h; have h6 := HP1.out; omega)))
  clear hr hc HN
  have f0 := free_of_heap HQ.out 1
  have g0 := cell_of_heap HQ.out 1
  simp at g0 f0
  go_wp2_with fail
  replace HQ : Hid ((w2.setCell ⟨p2, 1, none⟩ (.int .i64 n1)).heap[p2]? = some (.cells #[.int .i64 n0, .int .i64 n1, .int .i64 0, .int .i64 0, .bool false, .slice none 0 0, .slice none 0 0, .string ⟨#[]⟩] 27 (0, 0))) := heap_setCell_same HQ.out (i := 1) (.int .i64 n1)
  replace HR := hide ((Chg.setCell w2 ⟨p2, 1, none⟩ (.int .i64 n1)).heap HR.out (fun h => by have h5 : p1 = p2 := h; have h6 := HP2.out; omega))
  replace HZ := hide ((Chg.setCell w2 ⟨p2, 1, none⟩ (.int .i64 n1)).heap HZ.out (fun h => by have h5 : w.heap.size = p2 := h; have h6 := HP2.out; have h7 := HP1.out; omega))
  replace HBW : Hid (Below w.heap.size w (w2.setCell ⟨p2, 1, none⟩ (.int .i64 n1))) := hide (HBW.out.setCell (by have h6 := HP2.out; have h7 := HP1.out; show w.heap.size ≤ p2; omega) _)
  clear f0 g0
  generalize w2.setCell ⟨p2, 1, none⟩ (.int .i64 n1) = W2 at HQ HR HZ HBW ⊢
  clear w2 hc7
  have hN := reader_num W2 p1 _ b a1 d1 (HB.out.chg (Chg.of_below0 (S := fun _ => False) HBW.out) (fun _ _ _ h => h)) hm HR.out
  rw [show numS b a1 d1 = (n2, a2, d2) from Q2.out] at hN
  have HN := hide hN
  clear hN
  refine HN.out.mono ?_
  rintro e w3 ⟨rfl, hr, hc7⟩
  have hc := hc7
  replace HR := hide hr
  replace HZ := hide (hc.heap HZ.out (fun h => by have h5 : w.heap.size = p1 := h; have h6 := HP1.out; omega))
  replace HQ := hide (hc.heap HQ.out (fun h => by have h5 : p2 = p1 := h; have h6 := HP2.out; omega))
  replace HBW := hide (HBW.out.trans (hc.below (n := w.heap.size) HBW.out.size (fun k hk h => by have h5 : k = p1 := h; have h6 := HP1.out; omega)))
  clear hr hc HN
  have f0 := free_of_heap HQ.out 2
  have g0 := cell_of_heap HQ.out 2
  simp at g0 f0
  go_wp2_with fail
  replace HQ : Hid ((w3.setCell ⟨p2, 2, none⟩ (.int .i64 n2)).heap[p2]? = some (.cells #[.int .i64 n0, .int .i64 n1, .int .i64 n2, .int .i64 0, .bool false, .slice none 0 0, .slice none 0 0, .string ⟨#[]⟩] 27 (0, 0))) := heap_setCell_same HQ.out (i := 2) (.int .i64 n2)
  replace HR := hide ((Chg.setCell w3 ⟨p2, 2, none⟩ (.int .i64 n2)).heap HR.out (fun h => by have h5 : p1 = p2 := h; have h6 := HP2.out; omega))
  replace HZ := hide ((Chg.setCell w3 ⟨p2, 2, none⟩ (.int .i64 n2)).heap HZ.out (fun h => by have h5 : w.heap.size = p2 := h; have h6 := HP2.out; have h7 := HP1.out; omega))
  replace HBW : Hid (Below w.heap.size w (w3.setCell ⟨p2, 2, none⟩ (.int .i64 n2))) := hide (HBW.out.setCell (by have h6 := HP2.out; have h7 := HP1.out; show w.heap.size ≤ p2; omega) _)
  clear f0 g0
  generalize w3.setCell ⟨p2, 2, none⟩ (.int .i64 n2) = W3 at HQ HR HZ HBW ⊢
  clear w3 hc7
  have hN := reader_num W3 p1 _ b a2 d2 (HB.out.chg (Chg.of_below0 (S := fun _ => False) HBW.out) (fun _ _ _ h => h)) hm HR.out
  rw [show numS b a2 d2 = (n3, a3, d3) from Q3.out] at hN
  have HN := hide hN
  clear hN
  refine HN.out.mono ?_
  rintro e w4 ⟨rfl, hr, hc7⟩
  have hc := hc7
  replace HR := hide hr
  replace HZ := hide (hc.heap HZ.out (fun h => by have h5 : w.heap.size = p1 := h; have h6 := HP1.out; omega))
  replace HQ := hide (hc.heap HQ.out (fun h => by have h5 : p2 = p1 := h; have h6 := HP2.out; omega))
  replace HBW := hide (HBW.out.trans (hc.below (n := w.heap.size) HBW.out.size (fun k hk h => by have h5 : k = p1 := h; have h6 := HP1.out; omega)))
  clear hr hc HN
  have f0 := free_of_heap HQ.out 3
  have g0 := cell_of_heap HQ.out 3
  simp at g0 f0
  go_wp2_with fail
  replace HQ : Hid ((w4.setCell ⟨p2, 3, none⟩ (.int .i64 n3)).heap[p2]? = some (.cells #[.int .i64 n0, .int .i64 n1, .int .i64 n2, .int .i64 n3, .bool false, .slice none 0 0, .slice none 0 0, .string ⟨#[]⟩] 27 (0, 0))) := heap_setCell_same HQ.out (i := 3) (.int .i64 n3)
  replace HR := hide ((Chg.setCell w4 ⟨p2, 3, none⟩ (.int .i64 n3)).heap HR.out (fun h => by have h5 : p1 = p2 := h; have h6 := HP2.out; omega))
  replace HZ := hide ((Chg.setCell w4 ⟨p2, 3, none⟩ (.int .i64 n3)).heap HZ.out (fun h => by have h5 : w.heap.size = p2 := h; have h6 := HP2.out; have h7 := HP1.out; omega))
  replace HBW : Hid (Below w.heap.size w (w4.setCell ⟨p2, 3, none⟩ (.int .i64 n3))) := hide (HBW.out.setCell (by have h6 := HP2.out; have h7 := HP1.out; show w.heap.size ≤ p2; omega) _)
  clear f0 g0
  generalize w4.setCell ⟨p2, 3, none⟩ (.int .i64 n3) = W4 at HQ HR HZ HBW ⊢
  clear w4 hc7
  have hN := reader_num W4 p1 _ b a3 d3 (HB.out.chg (Chg.of_below0 (S := fun _ => False) HBW.out) (fun _ _ _ h => h)) hm HR.out
  rw [show numS b a3 d3 = (n4, a4, d4) from Q4.out] at hN
  have HN := hide hN
  clear hN
  refine HN.out.mono ?_
  rintro e w5 ⟨rfl, hr, hc7⟩
  have hc := hc7
  replace HR := hide hr
  replace HZ := hide (hc.heap HZ.out (fun h => by have h5 : w.heap.size = p1 := h; have h6 := HP1.out; omega))
  replace HQ := hide (hc.heap HQ.out (fun h => by have h5 : p2 = p1 := h; have h6 := HP2.out; omega))
  replace HBW := hide (HBW.out.trans (hc.below (n := w.heap.size) HBW.out.size (fun k hk h => by have h5 : k = p1 := h; have h6 := HP1.out; omega)))
  clear hr hc HN
  have f0 := free_of_heap HQ.out 4
  have g0 := cell_of_heap HQ.out 4
  simp at g0 f0
  go_upto_region 8 with (fail)
  replace HQ : Hid ((w5.setCell ⟨p2, 4, none⟩ (.bool (n4 == 1))).heap[p2]? = some (.cells #[.int .i64 n0, .int .i64 n1, .int .i64 n2, .int .i64 n3, .bool (n4 == 1), .slice none 0 0, .slice none 0 0, .string ⟨#[]⟩] 27 (0, 0))) := heap_setCell_same HQ.out (i := 4) (.bool (n4 == 1))
  replace HR := hide ((Chg.setCell w5 ⟨p2, 4, none⟩ (.bool (n4 == 1))).heap HR.out (fun h => by have h5 : p1 = p2 := h; have h6 := HP2.out; omega))
  replace HZ := hide ((Chg.setCell w5 ⟨p2, 4, none⟩ (.bool (n4 == 1))).heap HZ.out (fun h => by have h5 : w.heap.size = p2 := h; have h6 := HP2.out; have h7 := HP1.out; omega))
  replace HBW : Hid (Below w.heap.size w (w5.setCell ⟨p2, 4, none⟩ (.bool (n4 == 1)))) := hide (HBW.out.setCell (by have h6 := HP2.out; have h7 := HP1.out; show w.heap.size ≤ p2; omega) _)
  clear f0 g0
  generalize w5.setCell ⟨p2, 4, none⟩ (.bool (n4 == 1)) = W5 at HQ HR HZ HBW ⊢
  clear w5 hc7
  clear Q0 Q1 Q2 Q3 Q4
  have e0 := cell_of_heap HQ.out 0
  simp at e0
  by_cases k1 : n0 = 1
  · subst k1
    have hcd := HCD.out
    rw [if_pos rfl] at hcd
    obtain ⟨m0, b0, c0, hm0⟩ : ∃ m a d, numS b a4 d4 = (m, a, d) := ⟨_, _, _, rfl⟩
    obtain ⟨P, hP⟩ : ∃ P, P = loopR (numS b) m0 3 0 b0 c0 [] := ⟨_, rfl⟩
    have hps : psR b a4 d4 = P := by rw [hP, psR, hm0]
    have hplen : P.1.length ≤ 3 := by rw [← hps]; exact psR_len b a4 d4
    obtain ⟨m1, b1, c1, hm1⟩ : ∃ m a d, numS b P.2.1 P.2.2 = (m, a, d) := ⟨_, _, _, rfl⟩
    obtain ⟨T, hT⟩ : ∃ T, T = loopR (fileS b) m1 13 0 b1 c1 [] := ⟨_, rfl⟩
    have hfs : fsR b P.2.1 P.2.2 = T := by rw [hT, fsR, hm1]
    have htlen : T.1.length ≤ 13 := by rw [← hfs]; exact fsR_len b _ _
    have htpath : ∀ f ∈ T.1, f.path.size ≤ b.length := by rw [← hfs]; exact fsR_path b _ _
    obtain ⟨xn, b2, c2, hm2⟩ : ∃ t a d, textS b T.2.1 T.2.2 = (t, a, d) := ⟨_, _, _, rfl⟩
    have hcm : cmR b a4 d4 = (⟨P.1, T.1, xn⟩, b2, c2) := by simp only [cmR, hps, hfs, hm2]
    rw [hcm] at hcd
    have HCAND := hide hcd
    have M0 := hide hm0
    have M1 := hide hm1
    have M2 := hide hm2
    have HP := hide hP
    have HT := hide hT
    have HPL := hide hplen
    have HTL := hide htlen
    have HTP := hide htpath
    clear hcd HCD hm0 hP hps hplen hm1 hT hfs htlen htpath hm2 hcm
    go_wp2_with fail
    have hN := reader_num W5 p1 _ b a4 d4 (HB.out.chg (Chg.of_below0 (S := fun _ => False) HBW.out) (fun _ _ _ h => h)) hm HR.out
    rw [show numS b a4 d4 = (m0, b0, c0) from M0.out] at hN
    have HN := hide hN
    clear hN
    refine HN.out.mono ?_
    rintro e w6 ⟨rfl, hr, hc7⟩
    have hc := hc7
    replace HR := hide hr
    replace HZ := hide (hc.heap HZ.out (fun h => by have h5 : w.heap.size = p1 := h; have h6 := HP1.out; omega))
    replace HQ := hide (hc.heap HQ.out (fun h => by have h5 : p2 = p1 := h; have h6 := HP2.out; omega))
    replace HBW := hide (HBW.out.trans (hc.below (n := w.heap.size) HBW.out.size (fun k hk h => by have h5 : k = p1 := h; have h6 := HP1.out; omega)))
    clear hr hc HN
    go_wp2_with fail
    go_loopw [7] (fun iv wr => ∃ j : Nat, j ≤ 3 ∧ iv = .int .i64 j ∧
      Hid (∃ l a d, P = loopR (numS b) m0 (3 - j) j a d l ∧ l.length = j ∧ wr.heap[p1]? = some (.cells #[.slice ab b.length cb, .int .i64 a, .bool d] 89 (0, 0)) ∧
        ∃ ao cap, wr.heap[p2]? = some (.cells #[.int .i64 1, .int .i64 n1, .int .i64 n2, .int .i64 n3, .bool (n4 == 1), .slice ao l.length cap, .slice none 0 0, .string ⟨#[]⟩] 27 (0, 0)) ∧
          wr.ownsRow (p2 + 1) 3 1 (.slice ao l.length cap) l.length (l.map (Value.int .i64))) ∧
      Hid (wr.heap[w.heap.size]? = some (.cells rqZ 27 (0, 0))) ∧ Hid (Below w.heap.size w wr)) (fun i _ => 3 - (intOf i).toNat)
    case atStart => exact ⟨0, by omega, rfl, ⟨[], b0, c0, HP.out, rfl, HR.out, none, 0, HQ.out, World.ownsRow_nil _ _ _ _⟩, HZ.out, HBW.out⟩
    case round =>
      clear HR HQ HZ HBW e0
      obtain ⟨j, hj, rfl, HV, HZ, HBW⟩ := hrel
      obtain ⟨l, a, d, hl, hlj, hr, ao, cap, hq, ho⟩ := HV.out
      have HL := hide hl
      have HLJ := hide hlj
      have HR := hide hr
      have HQ := hide hq
      have HO := hide ho
      clear HV hl hlj hr hq ho
      have r2 := cell_of_heap HR.out 2
      simp at r2
      go_upto_region 11 with (fail)
      go_cut [50] from 37 to 50 (fun s wc => s = .bool (decide ((j : Int) < m0) && (decide (j < 3) && !d)) ∧ wc = wr)
      case first =>
        by_cases x1 : (j : Int) < m0
        · have y1 : decide ((j : Int) < m0) = true := decide_eq_true x1
          by_cases x2 : j < 3
          · have y2 : decide ((j : Int) < 3) = true := decide_eq_true (by omega)
            have HX := hide x1
            clear x1
            go_wp2_with fail
            go_meet
            exact ⟨by rw [decide_eq_true HX.out, decide_eq_true x2]; rfl, rfl⟩
          · have y2 : decide ((j : Int) < 3) = false := decide_eq_false (by omega)
            have HX := hide x1
            clear x1
            go_wp2_with fail
            go_meet
            exact ⟨by rw [decide_eq_true HX.out, decide_eq_false x2]; rfl, rfl⟩
        · have y1 : decide ((j : Int) < m0) = false := decide_eq_false x1
          have HX := hide x1
          clear x1
          go_wp2_with fail
          go_meet
          exact ⟨by rw [decide_eq_false (Int.not_lt.2 HX.out)]; rfl, rfl⟩
      case rest =>
      obtain ⟨rfl, hwc⟩ := hcut
      rw [hwc]
      clear hwc r2
      cases hcond : (decide ((j : Int) < m0) && (decide (j < 3) && !d)) with
      | true =>
        simp only [Bool.and_eq_true, decide_eq_true_eq, Bool.not_eq_true'] at hcond
        obtain ⟨x1, x2, rfl⟩ := hcond
        have HX1 := hide x1
        clear x1
        obtain ⟨t0, a2, d2, ht⟩ : ∃ t a2 d2, numS b a false = (t, a2, d2) := ⟨_, _, _, rfl⟩
        have e5 := cell_of_heap HQ.out 5
        simp at e5
        have HT0 := hide ht
        have HRB := hide (HB.out.chg (Chg.of_below0 (S := fun _ => False) HBW.out) (fun _ _ _ h => h))
        have hps : (p2 : Nat) < wr.heap.size := (Array.getElem?_eq_some_iff.1 HQ.out).1
        have HPS := hide hps
        clear ht hps
        go_upto_region 13 with (fail)
        refine reg_start (Chg (fun k => k ≠ p2) wr) 10 9 (by rfl) (by kernel_rfl) (Chg.drew _ _) ?_
        intro hS0
        have hSc := hS0
        refine reg_take (i := 0) (v := ?g2v) rfl (by kernel_rfl) (by kernel_rfl) (by kernel_rfl) (by kernel_rfl) (fun _ _ _ h => h) (by rfl) ?g2y (by assumption) ?g2r
        case g2y => (intro W hS; first | (go_simp; done) | (go_simp; with_reducible rfl))
        simp only [Act.put, List.setIfInBounds_toArray, List.set_cons_zero, List.set_cons_succ]
        refine reg_take (i := 1) (v := ?g3v) rfl (by kernel_rfl) (by kernel_rfl) (by kernel_rfl) (by kernel_rfl) (fun _ _ _ h => h) (by rfl) ?g3y (by assumption) ?g3r
        case g3y => (intro W hS; first | (go_simp; done) | (go_simp; with_reducible rfl))
        simp only [Act.put, List.setIfInBounds_toArray, List.set_cons_zero, List.set_cons_succ]
        refine reg_take (i := 2) (v := ?g4v) rfl (by kernel_rfl) (by kernel_rfl) (by kernel_rfl) (by kernel_rfl) (fun _ _ _ h => h) (by rfl) ?g4y (by assumption) ?g4r
        case g4y => (intro W hS; have f5 := hS.cell e5 (fun h => h rfl); first | (go_simp; done) | (go_simp; with_reducible rfl))
        simp only [Act.put, List.setIfInBounds_toArray, List.set_cons_zero, List.set_cons_succ]
        refine reg_take (i := 3) (v := ?g5v) rfl (by kernel_rfl) (by kernel_rfl) (by kernel_rfl) (by kernel_rfl) (fun _ _ _ h => h) (by rfl) ?g5y (by assumption) ?g5r
        case g5y => (intro W hS; first | (go_simp; done) | (go_simp; with_reducible rfl))
        simp only [Act.put, List.setIfInBounds_toArray, List.set_cons_zero, List.set_cons_succ]
        refine reg_one (i := 4) (by kernel_rfl) ?_
        refine op_call (i := 4) (#[.pointer (some ⟨p1, 0, none⟩)]) rfl (by rfl) (enters_of Tryd.func57 (by kernel_rfl) rfl) (by first | (simp [Act.eval]; done) | rfl | (simp only [List.map_toArray, List.map_cons, List.map_nil, Act.eval]; rfl) | (simp [Act.eval]; trace_state; done)) ?_
        have hN := reader_num wr.drew p1 _ b a false HRB.out hm HR.out
        rw [HT0.out] at hN
        refine hN.mono ?_
        clear hN
        rintro e w7 ⟨rfl, hr7, hc7⟩
        have hSc := hSc.trans hc7 (S'' := fun k => k ≠ p2) (fun _ _ h => h) (fun k _ h => by have h5 : k = p1 := h; have h6 := HP2.out; show k ≠ p2; omega)
        have HR7 := hide hr7
        have HC7 := hide hc7
        clear hr7 hc7
        refine ⟨_, rfl, hSc, ?_⟩
        simp only [Act.put, List.setIfInBounds_toArray, List.set_cons_zero, List.set_cons_succ]
        refine reg_one (i := 5) (by kernel_rfl) ?_
        refine op_val (i := 5) rfl (by rfl) (v := .slice (some ⟨w7.heap.size, 0, none⟩) 1 1) (w' := w7.alloc (.cells #[.int .i64 t0] 3)) (by go_simp) ?_
        have hSc := hSc.trans (Chg.alloc (fun _ => False) w7 (.cells #[.int .i64 t0] 3)) (S'' := fun k => k ≠ p2) (fun _ _ h => h) (fun _ _ h => h.elim)
        have HC8 := hide (HC7.out.trans (Chg.alloc (fun _ => False) w7 (.cells #[.int .i64 t0] 3)) (S'' := fun k => k = p1) (fun _ _ h => h) (fun _ _ h => h.elim))
        have hlit := Rd_lit w7 #[.int .i64 t0] 3 1
        have ho8 := HC8.out.owns HO.out (fun k hk h => by have h5 := (ownsRow_lt HO.out k hk).1; have h6 : k = p1 := h; have h7 := HP2.out; omega)
        have hps8 := HC8.out.size
        have hp9 := HPS.out
        have hd8 : wr.drew.heap.size = wr.heap.size := rfl
        refine ⟨hSc, ?_⟩
        simp only [Act.put, List.setIfInBounds_toArray, List.set_cons_zero, List.set_cons_succ]
        refine reg_one (i := 6) (by kernel_rfl) ?_
        refine op_append (i := 6) rfl (by rfl) int_slT (p2 + 1) ho8 hlit rfl rfl rfl (by simp [Value.oneCell']) (by have := HLJ.out; unfold maxLen; omega) (by have := HLJ.out; omega) (by omega) ?_
        intro ao9 cap9 w9 ho9 hg9 hat9
        have hn9 : ∀ k, (Value.slice ao l.length cap).ownBlock = some k → p2 + 1 ≤ k := fun k hk => (ownsRow_lt HO.out k hk).1
        have hSc := hSc.trans hg9 (S'' := fun k => k ≠ p2) (fun _ _ h => h) (fun k _ h => by have h5 := hn9 k h; show k ≠ p2; omega)
        have HO9 := hide ho9
        have HS9 := hide hSc
        have HR9 := hide (hg9.heap ((Chg.alloc (fun _ => False) w7 (.cells #[.int .i64 t0] 3)).heap HR7.out (fun h => h)) (fun h => by have h5 := hn9 p1 h; have h6 := HP2.out; omega))
        have HZ9 := hide (hg9.heap (HC8.out.heap HZ.out (fun h => by have h5 : w.heap.size = p1 := h; have h6 := HP1.out; omega)) (fun h => by have h5 := hn9 _ h; have h6 := HP2.out; have h7 := HP1.out; omega))
        have HB9 := hide (((bdrewN HBW.out 1).trans ((HC8.out.below (n := w.heap.size) HBW.out.size (fun k hk h => by have h5 : k = p1 := h; have h6 := HP1.out; omega)))).trans (hg9.below (n := w.heap.size) (by have h6 := HBW.out.size; omega) (fun k hk h => by have h5 := hn9 k h; have h6 := HP2.out; have h7 := HP1.out; omega)))
        have HQ9 := hide (hSc.heap HQ.out (fun h => h rfl))
        have gf9 := free_of_heap HQ9.out 5
        have gg9 := cell_of_heap HQ9.out 5
        simp at gg9 gf9
        refine ⟨hSc, ?_⟩
        simp only [Act.put, List.setIfInBounds_toArray, List.set_cons_zero, List.set_cons_succ]
        refine reg_one (i := 7) (by kernel_rfl) ?_
        refine op_val (i := 7) (v := .pointer (some ⟨p2, 5, none⟩)) (w' := w9) rfl (by rfl) (by go_simp) ?_
        refine ⟨hSc, ?_⟩
        simp only [Act.put, List.setIfInBounds_toArray, List.set_cons_zero, List.set_cons_succ]
        refine reg_take (i := 8) (v := ?g6v) rfl (by kernel_rfl) (by kernel_rfl) (by kernel_rfl) (by kernel_rfl) (fun _ _ _ h => h) (by rfl) ?g6y (by assumption) ?g6r
        case g6y => (intro W hS; first | (go_simp; done) | (go_simp; with_reducible rfl))
        simp only [Act.put, List.setIfInBounds_toArray, List.set_cons_zero, List.set_cons_succ]
        refine reg_late (i := 9) (by kernel_rfl) (by decide) ?_
        refine op_store (i := 9) rfl (by rfl) (w' := w9.setCell ⟨p2, 5, none⟩ (.slice ao9 (l.length + 1) cap9)) (by go_simp) ?_
        simp only [Act.put]
        refine wpAnyG_done (by kernel_rfl) ?_ _
        clear hS0 hSc hlit ho8 hps8 hp9 hd8 hat9 gf9 gg9
        have hz := heap_setCell_same HQ9.out (i := 5) (.slice ao9 (l.length + 1) cap9)
        have hch := Chg.setCell w9 ⟨p2, 5, none⟩ (.slice ao9 (l.length + 1) cap9)
        have HQ10 : Hid ((w9.setCell ⟨p2, 5, none⟩ (.slice ao9 (l.length + 1) cap9)).heap[p2]? = some (.cells #[.int .i64 1, .int .i64 n1, .int .i64 n2, .int .i64 n3, .bool (n4 == 1), .slice ao9 (l ++ [t0]).length cap9, .slice none 0 0, .string ⟨#[]⟩] 27 (0, 0))) := by rw [List.length_append, List.length_singleton]; exact hz
        have HO10 := hide (hch.owns HO9.out (fun k hk h => by have h5 := (ownsRow_lt HO9.out k hk).1; have h6 : k = p2 := h; omega))
        have HR10 := hide (hch.heap HR9.out (fun h => by have h5 : p1 = p2 := h; have h6 := HP2.out; omega))
        have HZ10 := hide (hch.heap HZ9.out (fun h => by have h5 : w.heap.size = p2 := h; have h6 := HP2.out; have h7 := HP1.out; omega))
        have HB10 := hide (HB9.out.trans (hch.below (n := w.heap.size) HB9.out.size (fun k hk h => by have h5 : k = p2 := h; have h6 := HP2.out; have h7 := HP1.out; omega)))
        clear hz hch
        go_wp2_with fail
        go_roundw
        case rel =>
          refine ⟨j + 1, by omega, by go_num, ⟨l ++ [t0], a2, d2, ?_, by simp [HLJ.out], HR10.out, ao9, cap9, HQ10.out, ?_⟩, HZ10.out, HB10.out⟩
          · rw [HL.out, show 3 - j = (3 - (j + 1)) + 1 by omega, loopR, if_pos ⟨HX1.out, rfl⟩, HT0.out]
          · have h5 := HO10.out
            rw [List.length_append, List.length_singleton, List.map_append]
            exact h5
        case measure => simp [intOf]; omega
      | false =>
        have hend : P = (l, a, d) := by
          rw [HL.out]
          cases hf : 3 - j with
          | zero => rw [loopR]
          | succ f =>
            rw [loopR, if_neg]
            rintro ⟨h5, h6⟩
            rw [decide_eq_true h5, h6, decide_eq_true (show j < 3 by omega)] at hcond
            cases hcond
        clear hcond
        have M1' : numS b a d = (m1, b1, c1) := by have h5 := M1.out; rw [hend] at h5; exact h5
        have HPE := hide hend
        clear hend
        go_wp2_with fail
        have hN := reader_num wr p1 _ b a d (HB.out.chg (Chg.of_below0 (S := fun _ => False) HBW.out) (fun _ _ _ h => h)) hm HR.out
        rw [show numS b a d = (m1, b1, c1) from M1'] at hN
        have HN := hide hN
        clear hN
        refine HN.out.mono ?_
        rintro e w7 ⟨rfl, hr, hc7⟩
        have hc := hc7
        replace HR := hide hr
        replace HZ := hide (hc.heap HZ.out (fun h => by have h5 : w.heap.size = p1 := h; have h6 := HP1.out; omega))
        replace HQ := hide (hc.heap HQ.out (fun h => by have h5 : p2 = p1 := h; have h6 := HP2.out; omega))
        replace HBW := hide (HBW.out.trans (hc.below (n := w.heap.size) HBW.out.size (fun k hk h => by have h5 : k = p1 := h; have h6 := HP1.out; omega)))
        clear hr hc HN
        have HO7 := hide (hc7.owns HO.out (fun k hk h => by have h5 := (ownsRow_lt HO.out k hk).1; have h6 : k = p1 := h; have h7 := HP2.out; omega))
        clear hc7 HO
        go_wp2_with fail
        go_loopw [8] (fun iv wr => ∃ j : Nat, j ≤ 13 ∧ iv = .int .i64 j ∧
          Hid (∃ g a d, T = loopR (fileS b) m1 (13 - j) j a d g ∧ g.length = j ∧ wr.heap[p1]? = some (.cells #[.slice ab b.length cb, .int .i64 a, .bool d] 89 (0, 0)) ∧
            ∃ ag cg, wr.heap[p2]? = some (.cells #[.int .i64 1, .int .i64 n1, .int .i64 n2, .int .i64 n3, .bool (n4 == 1), .slice ao l.length cap, .slice ag g.length cg, .string ⟨#[]⟩] 27 (0, 0)) ∧
              wr.ownsRow (p2 + 1) 68 2 (.slice ag g.length cg) g.length (flat fl_enc g)) ∧
          Hid (wr.ownsRow (p2 + 1) 3 1 (.slice ao l.length cap) l.length (l.map (Value.int .i64))) ∧
          Hid (wr.heap[w.heap.size]? = some (.cells rqZ 27 (0, 0))) ∧ Hid (Below w.heap.size w wr)) (fun i _ => 13 - (intOf i).toNat)
        case atStart => exact ⟨0, by omega, rfl, ⟨[], b1, c1, HT.out, rfl, HR.out, none, 0, HQ.out, World.ownsRow_nil _ _ _ _⟩, HO7.out, HZ.out, HBW.out⟩
        case round =>
          clear HR HQ HZ HBW HO7
          obtain ⟨i, hi, rfl, HV, HO, HZ, HBW⟩ := hrel
          obtain ⟨g, a, d, hl, hlj, hr, ag, cg, hq, ho⟩ := HV.out
          have HL := hide hl
          have HLI := hide hlj
          have HR := hide hr
          have HQ := hide hq
          have HG := hide ho
          clear HV hl hlj hr hq ho
          have r2 := cell_of_heap HR.out 2
          simp at r2
          go_upto_region 16 with (fail)
          go_cut [77] from 64 to 77 (fun s wc => s = .bool (decide ((i : Int) < m1) && (decide (i < 13) && !d)) ∧ wc = wr)
          case first =>
            by_cases x1 : (i : Int) < m1
            · have y1 : decide ((i : Int) < m1) = true := decide_eq_true x1
              by_cases x2 : i < 13
              · have y2 : decide ((i : Int) < 13) = true := decide_eq_true (by omega)
                have HX := hide x1
                clear x1
                go_wp2_with fail
                go_meet
                exact ⟨by rw [decide_eq_true HX.out, decide_eq_true x2]; rfl, rfl⟩
              · have y2 : decide ((i : Int) < 13) = false := decide_eq_false (by omega)
                have HX := hide x1
                clear x1
                go_wp2_with fail
                go_meet
                exact ⟨by rw [decide_eq_true HX.out, decide_eq_false x2]; rfl, rfl⟩
            · have y1 : decide ((i : Int) < m1) = false := decide_eq_false x1
              have HX := hide x1
              clear x1
              go_wp2_with fail
              go_meet
              exact ⟨by rw [decide_eq_false (Int.not_lt.2 HX.out)]; rfl, rfl⟩
          case rest =>
          obtain ⟨rfl, hwc⟩ := hcut
          rw [hwc]
          clear hwc r2
          cases hcond : (decide ((i : Int) < m1) && (decide (i < 13) && !d)) with
          | true =>
            simp only [Bool.and_eq_true, decide_eq_true_eq, Bool.not_eq_true'] at hcond
            obtain ⟨x1, x2, rfl⟩ := hcond
            have HX1 := hide x1
            clear x1
            obtain ⟨s0, a2, d2, ht⟩ : ∃ t a2 d2, textS b a false = (t, a2, d2) := ⟨_, _, _, rfl⟩
            obtain ⟨s1, a3, d3, ht2⟩ : ∃ t a3 d3, textS b a2 d2 = (t, a3, d3) := ⟨_, _, _, rfl⟩
            have HF := hide (show fileS b a false = (⟨s0, s1⟩, a3, d3) by simp only [fileS, ht, ht2])
            have HT0 := hide ht
            have HT1 := hide ht2
            clear ht ht2
            go_wp2_with fail
            have hN := reader_text wr p1 _ b a false (HB.out.chg (Chg.of_below0 (S := fun _ => False) HBW.out) (fun _ _ _ h => h)) hm HR.out
            rw [show textS b a false = (s0, a2, d2) from HT0.out] at hN
            have HN := hide hN
            clear hN
            refine HN.out.mono ?_
            rintro e w7 ⟨rfl, hr, hc7⟩
            have hc := hc7
            replace HR := hide hr
            replace HZ := hide (hc.heap HZ.out (fun h => by have h5 : w.heap.size = p1 := h; have h6 := HP1.out; omega))
            replace HQ := hide (hc.heap HQ.out (fun h => by have h5 : p2 = p1 := h; have h6 := HP2.out; omega))
            replace HBW := hide (HBW.out.trans (hc.below (n := w.heap.size) HBW.out.size (fun k hk h => by have h5 : k = p1 := h; have h6 := HP1.out; omega)))
            clear hr hc HN
            replace HO := hide (hc7.owns HO.out (fun k hk h => by have h5 := (ownsRow_lt HO.out k hk).1; have h6 : k = p1 := h; have h7 := HP2.out; omega))
            replace HG := hide (hc7.owns HG.out (fun k hk h => by have h5 := (ownsRow_lt HG.out k hk).1; have h6 : k = p1 := h; have h7 := HP2.out; omega))
            clear hc7
            go_wp2_with fail
            have hc8 := Chg.alloc (fun _ => False) w7 (Obj.cells #[.string s0, .string ⟨#[]⟩] 68)
            have h3 := heap_alloc_new w7 (Obj.cells #[.string s0, .string ⟨#[]⟩] 68)
            obtain ⟨p3, hp3⟩ : ∃ p3, p3 = w7.heap.size := ⟨_, rfl⟩
            have HKO := hide (show ∀ k, (Value.slice ao l.length cap).ownBlock = some k → p2 < k ∧ k < p3 from fun k hk => by have h5 := ownsRow_lt HO.out k hk; omega)
            have HKG := hide (show ∀ k, (Value.slice ag g.length cg).ownBlock = some k → p2 < k ∧ k < p3 from fun k hk => by have h5 := ownsRow_lt HG.out k hk; omega)
            rw [← hp3] at h3
            rw [← hp3]
            have hq3 : p2 < p3 := by rw [hp3]; exact (Array.getElem?_eq_some_iff.1 HQ.out).1
            replace HO := hide (hc8.owns HO.out (fun _ _ h => h))
            replace HG := hide (hc8.owns HG.out (fun _ _ h => h))
            replace HR := hide (hc8.heap HR.out (fun h => h))
            replace HQ := hide (hc8.heap HQ.out (fun h => h))
            replace HZ := hide (hc8.heap HZ.out (fun h => h))
            replace HBW := hide (HBW.out.trans (hc8.below (n := w.heap.size) HBW.out.size (fun _ _ h => h)))
            have H3 := hide h3
            have HQ3 := hide hq3
            clear h3 hq3 hp3
            generalize w7.alloc (Obj.cells #[.string s0, .string ⟨#[]⟩] 68) = w8 at hc8 HO HG H3 HR HQ HZ HBW ⊢
            clear hc8
            have hN := reader_text w8 p1 _ b a2 d2 (HB.out.chg (Chg.of_below0 (S := fun _ => False) HBW.out) (fun _ _ _ h => h)) hm HR.out
            rw [show textS b a2 d2 = (s1, a3, d3) from HT1.out] at hN
            have HN := hide hN
            clear hN
            refine HN.out.mono ?_
            rintro e w9 ⟨rfl, hr, hc7⟩
            have hc := hc7
            replace HR := hide hr
            replace HZ := hide (hc.heap HZ.out (fun h => by have h5 : w.heap.size = p1 := h; have h6 := HP1.out; omega))
            replace HQ := hide (hc.heap HQ.out (fun h => by have h5 : p2 = p1 := h; have h6 := HP2.out; omega))
            replace HBW := hide (HBW.out.trans (hc.below (n := w.heap.size) HBW.out.size (fun k hk h => by have h5 : k = p1 := h; have h6 := HP1.out; omega)))
            clear hr hc HN
            replace HO := hide (hc7.owns HO.out (fun k hk h => by have h5 := HKO.out k hk; have h6 : k = p1 := h; have h7 := HP2.out; omega))
            replace HG := hide (hc7.owns HG.out (fun k hk h => by have h5 := HKG.out k hk; have h6 : k = p1 := h; have h7 := HP2.out; omega))
            replace H3 := hide (hc7.heap H3.out (fun h => by have h5 : p3 = p1 := h; have h6 := HQ3.out; have h7 := HP2.out; omega))
            clear hc7
            have f1 := free_of_heap H3.out 1
            have g1 := cell_of_heap H3.out 1
            simp at f1 g1
            go_upto_region 20 with (fail)
            have hc10 := Chg.setCell w9 ⟨p3, 1, none⟩ (.string s1)
            replace HO := hide (hc10.owns HO.out (fun k hk h => by have h5 := HKO.out k hk; have h6 : k = p3 := h; omega))
            replace HG := hide (hc10.owns HG.out (fun k hk h => by have h5 := HKG.out k hk; have h6 : k = p3 := h; omega))
            replace HR := hide (hc10.heap HR.out (fun h => by have h5 : p1 = p3 := h; have h6 := HQ3.out; have h7 := HP2.out; omega))
            replace HQ := hide (hc10.heap HQ.out (fun h => by have h5 : p2 = p3 := h; have h6 := HQ3.out; omega))
            replace HZ := hide (hc10.heap HZ.out (fun h => by have h5 : w.heap.size = p3 := h; have h6 := HQ3.out; have h7 := HP2.out; have h8 := HP1.out; omega))
            replace HBW := hide (HBW.out.trans (hc10.below (n := w.heap.size) HBW.out.size (fun k hk h => by have h5 : k = p3 := h; have h6 := HQ3.out; have h7 := HP2.out; have h8 := HP1.out; omega)))
            have H3 : Hid ((w9.setCell ⟨p3, 1, none⟩ (.string s1)).heap[p3]? = some (.cells #[.string s0, .string s1] 68 (0, 0))) := heap_setCell_same H3.out (i := 1) (.string s1)
            clear f1 g1
            generalize w9.setCell ⟨p3, 1, none⟩ (.string s1) = w10 at hc10 HO HG H3 HR HQ HZ HBW ⊢
            clear hc10
            have e6 := cell_of_heap HQ.out 6
            have u0 := cell_of_heap H3.out 0
            have u1 := cell_of_heap H3.out 1
            simp at e6 u0 u1
            have hps : p2 < w10.heap.size := (Array.getElem?_eq_some_iff.1 HQ.out).1
            have HPS := hide hps
            clear hps
            go_wp2_with (at_builtin; refine wpl_append rfl _ _ _ rfl fl_slT (p2 + 1) (HG.out.alloc _) (Rd_lit w10 #[.string s0, .string s1] 68 1) rfl rfl rfl (by simp [Value.oneCell']) (by have := HLI.out; unfold maxLen; omega) (by have := HLI.out; omega) (by have := HPS.out; simp; omega) ?_; intro ao4 cap4 w11 hown hg _ _; have HG4 := hide hown; have HC4 := hide hg; clear hown hg; have hq11 := HC4.out.heap ((Chg.alloc (fun _ => False) w10 _).heap HQ.out (fun h => h)) (fun h => by have h5 := HKG.out p2 h; omega); have HQ11 := hide hq11; have f6 := free_of_heap hq11 6; have g6 := cell_of_heap hq11 6; simp at f6 g6; clear hq11)
            go_roundw
            case rel =>
              have hap := owns_apart HO.out HG.out (by decide)
              have hca := Chg.alloc (fun _ => False) w10 (Obj.cells #[.string s0, .string s1] 68)
              have hcs := Chg.setCell w11 ⟨p2, 6, none⟩ (.slice ao4 (g.length + 1) cap4)
              have ho := hcs.owns (HC4.out.owns (hca.owns HO.out (fun _ _ h => h)) (fun k hk h => hap k hk h)) (fun k hk h => by have h5 := HKO.out k hk; have h6 : k = p2 := h; omega)
              have hg := hcs.owns HG4.out (fun k hk h => by have h5 := (ownsRow_lt HG4.out k hk).1; have h6 : k = p2 := h; omega)
              have hr := hcs.heap (HC4.out.heap (hca.heap HR.out (fun h => h)) (fun h => by have h5 := HKG.out p1 h; have h6 := HP2.out; omega)) (fun h => by have h5 : p1 = p2 := h; have h6 := HP2.out; omega)
              have hz := hcs.heap (HC4.out.heap (hca.heap HZ.out (fun h => h)) (fun h => by have h5 := HKG.out _ h; have h6 := HP2.out; have h7 := HP1.out; omega)) (fun h => by have h5 : w.heap.size = p2 := h; have h6 := HP2.out; have h7 := HP1.out; omega)
              have hq := heap_setCell_same HQ11.out (i := 6) (.slice ao4 (g.length + 1) cap4)
              have hb1 := HBW.out.trans (hca.below (n := w.heap.size) HBW.out.size (fun _ _ h => h))
              have hb2 := hb1.trans (HC4.out.below (n := w.heap.size) hb1.size (fun k hk h => by have h5 := HKG.out k h; have h6 := HP2.out; have h7 := HP1.out; omega))
              have hb3 := hb2.trans (hcs.below (n := w.heap.size) hb2.size (fun k hk h => by have h5 : k = p2 := h; have h6 := HP2.out; have h7 := HP1.out; omega))
              refine ⟨i + 1, by omega, by go_num, ⟨g ++ [⟨s0, s1⟩], a3, d3, ?_, by simp [HLI.out], hr, ao4, cap4, ?_, ?_⟩, ho, hz, hb3⟩
              · rw [HL.out, show 13 - i = (13 - (i + 1)) + 1 by omega, loopR, if_pos ⟨HX1.out, rfl⟩, HF.out]
              · rw [List.length_append, List.length_singleton]; exact hq
              · rw [List.length_append, List.length_singleton, flat_append]; exact hg
            case measure => simp [intOf]; omega
          | false =>
            have hend : T = (g, a, d) := by
              rw [HL.out]
              cases hf : 13 - i with
              | zero => rw [loopR]
              | succ f =>
                rw [loopR, if_neg]
                rintro ⟨h5, h6⟩
                rw [decide_eq_true h5, h6, decide_eq_true (show i < 13 by omega)] at hcond
                cases hcond
            clear hcond
            have M2' : textS b a d = (xn, b2, c2) := by have h5 := M2.out; rw [hend] at h5; exact h5
            have HTE := hide hend
            clear hend
            go_wp2_with fail
            have hN := reader_text wr p1 _ b a d (HB.out.chg (Chg.of_below0 (S := fun _ => False) HBW.out) (fun _ _ _ h => h)) hm HR.out
            rw [show textS b a d = (xn, b2, c2) from M2'] at hN
            have HN := hide hN
            clear hN
            refine HN.out.mono ?_
            rintro e w9 ⟨rfl, hr, hc7⟩
            have hc := hc7
            replace HR := hide hr
            replace HZ := hide (hc.heap HZ.out (fun h => by have h5 : w.heap.size = p1 := h; have h6 := HP1.out; omega))
            replace HQ := hide (hc.heap HQ.out (fun h => by have h5 : p2 = p1 := h; have h6 := HP2.out; omega))
            replace HBW := hide (HBW.out.trans (hc.below (n := w.heap.size) HBW.out.size (fun k hk h => by have h5 : k = p1 := h; have h6 := HP1.out; omega)))
            clear hr hc HN
            replace HO := hide (hc7.owns HO.out (fun k hk h => by have h5 := (ownsRow_lt HO.out k hk).1; have h6 : k = p1 := h; have h7 := HP2.out; omega))
            replace HG := hide (hc7.owns HG.out (fun k hk h => by have h5 := (ownsRow_lt HG.out k hk).1; have h6 : k = p1 := h; have h7 := HP2.out; omega))
            clear hc7 M2'
            have f7 := free_of_heap HQ.out 7
            have g7 := cell_of_heap HQ.out 7
            simp at g7 f7
            go_upto_region 22 with (fail)
            have hcs := Chg.setCell w9 ⟨p2, 7, none⟩ (.string xn)
            replace HO := hide (hcs.owns HO.out (fun k hk h => by have h5 := (ownsRow_lt HO.out k hk).1; have h6 : k = p2 := h; omega))
            replace HG := hide (hcs.owns HG.out (fun k hk h => by have h5 := (ownsRow_lt HG.out k hk).1; have h6 : k = p2 := h; omega))
            replace HR := hide (hcs.heap HR.out (fun h => by have h5 : p1 = p2 := h; have h6 := HP2.out; omega))
            replace HZ := hide (hcs.heap HZ.out (fun h => by have h5 : w.heap.size = p2 := h; have h6 := HP2.out; have h7 := HP1.out; omega))
            replace HBW := hide (HBW.out.trans (hcs.below (n := w.heap.size) HBW.out.size (fun k hk h => by have h5 : k = p2 := h; have h6 := HP2.out; have h7 := HP1.out; omega)))
            replace HQ : Hid ((w9.setCell ⟨p2, 7, none⟩ (.string xn)).heap[p2]? = some (.cells #[.int .i64 1, .int .i64 n1, .int .i64 n2, .int .i64 n3, .bool (n4 == 1), .slice ao l.length cap, .slice ag g.length cg, .string xn] 27 (0, 0))) := heap_setCell_same HQ.out (i := 7) (.string xn)
            clear f7 g7
            generalize w9.setCell ⟨p2, 7, none⟩ (.string xn) = W5 at hcs HO HG HR HQ HZ HBW ⊢
            clear hcs
            have hpe := HPE.out
            have hte := HTE.out
            have hcd := HCAND.out
            rw [hpe, hte] at hcd
            have hpl := HPL.out
            have htl := HTL.out
            have htp := HTP.out
            rw [hpe] at hpl
            rw [hte] at htl htp
            simp only at hpl htl htp hcd
            replace HCAND := hide hcd
            have HOW : Hid (Own W5 (w.heap.size + 1) ⟨⟨l, g, xn⟩, .slice ao l.length cap, .slice ag g.length cg⟩) := by
              refine hide (Own.base (base := p2 + 1) ⟨?_, HG.out⟩ (by have h6 := HP2.out; have h7 := HP1.out; omega))
              rw [show flat int_enc l = l.map (Value.int .i64) from flat_int l]
              exact HO.out
            have HAT := hide HOW.out.at
            have HFEW : Hid (Few ⟨l, g, xn⟩) := hide ⟨Nat.le_trans hpl (by decide), Nat.le_trans htl (by decide)⟩
            have HSZ : Hid (∀ f ∈ (⟨l, g, xn⟩ : Cm).tree, f.path.size ≤ 100000) := hide (fun f hf => Nat.le_trans (htp f hf) hm0)
            clear hpe hte hcd hpl htl htp HPE HTE HPL HTL HTP HP HT M0 M1 M2 M1' HL HLJ HLI HO HG
            have HCALL := hide (ref17_Lay W5 ⟨1, n1, n2, n3, n4 == 1, ⟨⟨l, g, xn⟩, .slice ao l.length cap, .slice ag g.length cg⟩⟩ HAT.out HFEW.out HSZ.out)
            clear HSZ HFEW HAT
            unfold RqV.val at HCALL
            simp only at HCALL
            have e0 := cell_of_heap HQ.out 0
            have e1 := cell_of_heap HQ.out 1
            have e2 := cell_of_heap HQ.out 2
            have e3 := cell_of_heap HQ.out 3
            have e4 := cell_of_heap HQ.out 4
            have e5 := cell_of_heap HQ.out 5
            have e6 := cell_of_heap HQ.out 6
            have e7 := cell_of_heap HQ.out 7
            simp at e0 e1 e2 e3 e4 e5 e6 e7
            go_wp2_with fail
            refine HCALL.out.mono ?_
            rintro e w8 ⟨hb8, hres⟩
            have HS8 := hide HBW.out.size
            have HB8 := hide (HBW.out.trans (hb8.mono HBW.out.size))
            have HQ8 := hide ((Chg.of_below0 (S := fun _ => False) hb8).heap HQ.out (fun h => h))
            have HR8 := hide ((Chg.of_below0 (S := fun _ => False) hb8).heap HR.out (fun h => h))
            have HZ8 := hide ((Chg.of_below0 (S := fun _ => False) hb8).heap HZ.out (fun h => h))
            have HO8 := hide (HOW.out.chg (Chg.of_below0 (S := fun _ => False) hb8) (fun _ _ _ h => h))
            have HRd8 := hide (HB.out.chg (Chg.of_below0 (S := fun _ => False) HB8.out) (fun _ _ _ h => h))
            clear hb8 HCALL e0 e1 e2 e3 e4 e5 e6 e7 HQ HR HZ HOW HBW
            have r2 := cell_of_heap HR8.out 2
            have f0 := free_of_heap HZ8.out 0
            have g0 := cell_of_heap HZ8.out 0
            have f1 := free_of_heap HZ8.out 1
            have g1 := cell_of_heap HZ8.out 1
            have f2 := free_of_heap HZ8.out 2
            have g2 := cell_of_heap HZ8.out 2
            have f3 := free_of_heap HZ8.out 3
            have g3 := cell_of_heap HZ8.out 3
            have f4 := free_of_heap HZ8.out 4
            have g4 := cell_of_heap HZ8.out 4
            have f5 := free_of_heap HZ8.out 5
            have g5 := cell_of_heap HZ8.out 5
            have f6 := free_of_heap HZ8.out 6
            have g6 := cell_of_heap HZ8.out 6
            have f7 := free_of_heap HZ8.out 7
            have g7 := cell_of_heap HZ8.out 7
            unfold rqZ at g0 g1 g2 g3 g4 g5 g6 g7
            simp at g0 g1 g2 g3 g4 g5 g6 g7 r2
            cases hd : c2 with
            | true =>
              have HR := hide (show rdRq b = none from rd_bad (by rw [HCAND.out]; exact hd))
              rw [hd] at r2
              have hqs : ∃ vv : Value, e = .returned vv := by rcases hres with ⟨-, rfl⟩ | ⟨-, _, _, rfl, -⟩ <;> exact ⟨_, rfl⟩
              obtain ⟨aL, n9, capL, c9, rfl⟩ : ∃ aL n9 capL c9, e = .returned (.tuple #[.slice aL n9 capL, .int .i64 c9]) := by rcases hres with ⟨-, rfl⟩ | ⟨-, _, _, rfl, -⟩ <;> exact ⟨_, _, _, _, rfl⟩
              clear hd hqs hres
              go_wp2_with fail
              have hy := heap_setCell_same (heap_setCell_same (heap_setCell_same (heap_setCell_same (heap_setCell_same (heap_setCell_same (heap_setCell_same (heap_setCell_same (HZ8.out) (i := 0) (.int .i64 0)) (i := 1) (.int .i64 0)) (i := 2) (.int .i64 0)) (i := 3) (.int .i64 0)) (i := 4) (.bool false)) (i := 5) (.slice none 0 0)) (i := 6) (.slice none 0 0)) (i := 7) (.string ⟨#[]⟩)
              simp only [Array.setIfInBounds, rqZ, List.size_toArray] at hy
              refine bodyPost_ret (results_cu rfl _ _ w.heap.size _ _ _ _ rfl hy Tryd.underlying27 rfl (by kernel_rfl)) rfl ?_
              exact ⟨((((((((HB8.out.setCell (Nat.le_refl _) _).setCell (Nat.le_refl _) _).setCell (Nat.le_refl _) _).setCell (Nat.le_refl _) _).setCell (Nat.le_refl _) _).setCell (Nat.le_refl _) _).setCell (Nat.le_refl _) _).setCell (Nat.le_refl _) _), .inl ⟨HR.out, rfl⟩⟩
            | false =>
              rw [hd] at r2
              clear hd
              rcases hres with ⟨hno, rfl⟩ | ⟨hyes, aL, capL, rfl, hown⟩
              · have HR := hide (show rdRq b = none from rdR_may (by rw [HCAND.out]; exact hno))
                clear hno
                go_wp2_with fail
                have hy := heap_setCell_same (heap_setCell_same (heap_setCell_same (heap_setCell_same (heap_setCell_same (heap_setCell_same (heap_setCell_same (heap_setCell_same (HZ8.out) (i := 0) (.int .i64 0)) (i := 1) (.int .i64 0)) (i := 2) (.int .i64 0)) (i := 3) (.int .i64 0)) (i := 4) (.bool false)) (i := 5) (.slice none 0 0)) (i := 6) (.slice none 0 0)) (i := 7) (.string ⟨#[]⟩)
                simp only [Array.setIfInBounds, rqZ, List.size_toArray] at hy
                refine bodyPost_ret (results_cu rfl _ _ w.heap.size _ _ _ _ rfl hy Tryd.underlying27 rfl (by kernel_rfl)) rfl ?_
                exact ⟨((((((((HB8.out.setCell (Nat.le_refl _) _).setCell (Nat.le_refl _) _).setCell (Nat.le_refl _) _).setCell (Nat.le_refl _) _).setCell (Nat.le_refl _) _).setCell (Nat.le_refl _) _).setCell (Nat.le_refl _) _).setCell (Nat.le_refl _) _), .inl ⟨HR.out, rfl⟩⟩
              · have v1 := conv_rd w8 _ _ (Rd.of_owns hown)
                have v2 := conv_rd w8 _ _ HRd8.out
                obtain ⟨LL, hLL⟩ : ∃ LL, LL = layRq (RqV.r ⟨1, n1, n2, n3, n4 == 1, ⟨⟨l, g, xn⟩, .slice ao l.length cap, .slice ag g.length cg⟩⟩) := ⟨_, rfl⟩
                rw [← hLL] at v1
                rw [← hLL]
                have HLL := hide hLL
                have HY := hide hyes
                clear hown hLL hyes
                by_cases hq : LL = b
                · have HR := hide (show rdRq b = some (RqV.r ⟨1, n1, n2, n3, n4 == 1, ⟨⟨l, g, xn⟩, .slice ao l.length cap, .slice ag g.length cg⟩⟩) from rdRq_some.2 ⟨HY.out, by rw [← HLL.out]; exact hq⟩)
                  subst hq
                  have e0 := cell_of_heap HQ8.out 0
                  have e1 := cell_of_heap HQ8.out 1
                  have e2 := cell_of_heap HQ8.out 2
                  have e3 := cell_of_heap HQ8.out 3
                  have e4 := cell_of_heap HQ8.out 4
                  have e5 := cell_of_heap HQ8.out 5
                  have e6 := cell_of_heap HQ8.out 6
                  have e7 := cell_of_heap HQ8.out 7
                  simp at e0 e1 e2 e3 e4 e5 e6 e7
                  go_wp2_with fail
                  have hy := heap_setCell_same (heap_setCell_same (heap_setCell_same (heap_setCell_same (heap_setCell_same (heap_setCell_same (heap_setCell_same (heap_setCell_same (HZ8.out) (i := 0) (.int .i64 1)) (i := 1) (.int .i64 n1)) (i := 2) (.int .i64 n2)) (i := 3) (.int .i64 n3)) (i := 4) (.bool (n4 == 1))) (i := 5) (.slice ao l.length cap)) (i := 6) (.slice ag g.length cg)) (i := 7) (.string xn)
                  simp only [Array.setIfInBounds, rqZ, List.size_toArray] at hy
                  refine bodyPost_ret (results_cu rfl _ _ w.heap.size _ _ _ _ rfl hy Tryd.underlying27 rfl (by kernel_rfl)) rfl ?_
                  refine ⟨((((((((HB8.out.setCell (Nat.le_refl _) _).setCell (Nat.le_refl _) _).setCell (Nat.le_refl _) _).setCell (Nat.le_refl _) _).setCell (Nat.le_refl _) _).setCell (Nat.le_refl _) _).setCell (Nat.le_refl _) _).setCell (Nat.le_refl _) _), .inr ⟨⟨1, n1, n2, n3, n4 == 1, ⟨⟨l, g, xn⟩, .slice ao l.length cap, .slice ag g.length cg⟩⟩, HR.out, rfl, ?_⟩⟩
                  exact Own.base (own_sets HO8.out _ _ _ _ _ _ _ _) (Nat.le_succ _)
                · have HR := hide (show rdRq b = none from rdR_other (by rw [HCAND.out]; show ¬ layRq (RqV.r ⟨1, n1, n2, n3, n4 == 1, ⟨⟨l, g, xn⟩, .slice ao l.length cap, .slice ag g.length cg⟩⟩) = b; rw [← HLL.out]; exact hq))
                  have hqb : (LL == b) = false := by simpa using hq
                  have hqn : (LL != b) = true := by simpa using hq
                  clear hq
                  go_wp2_with fail
                  have hy := heap_setCell_same (heap_setCell_same (heap_setCell_same (heap_setCell_same (heap_setCell_same (heap_setCell_same (heap_setCell_same (heap_setCell_same (HZ8.out) (i := 0) (.int .i64 0)) (i := 1) (.int .i64 0)) (i := 2) (.int .i64 0)) (i := 3) (.int .i64 0)) (i := 4) (.bool false)) (i := 5) (.slice none 0 0)) (i := 6) (.slice none 0 0)) (i := 7) (.string ⟨#[]⟩)
                  simp only [Array.setIfInBounds, rqZ, List.size_toArray] at hy
                  refine bodyPost_ret (results_cu rfl _ _ w.heap.size _ _ _ _ rfl hy Tryd.underlying27 rfl (by kernel_rfl)) rfl ?_
                  exact ⟨((((((((HB8.out.setCell (Nat.le_refl _) _).setCell (Nat.le_refl _) _).setCell (Nat.le_refl _) _).setCell (Nat.le_refl _) _).setCell (Nat.le_refl _) _).setCell (Nat.le_refl _) _).setCell (Nat.le_refl _) _).setCell (Nat.le_refl _) _), .inl ⟨HR.out, rfl⟩⟩
  · have z1 : (n0 == 1) = false := by simp [k1]
    have hcd := HCD.out
    rw [if_neg k1] at hcd
    have HCAND := hide hcd
    clear hcd HCD k1
    have HOW : Hid (Own W5 (w.heap.size + 1) ⟨cmZ, .slice none 0 0, .slice none 0 0⟩) := hide ⟨World.ownsRow_nil _ _ _ _, World.ownsRow_nil _ _ _ _⟩
    have HAT := hide HOW.out.at
    have HFEW : Hid (Few cmZ) := hide ⟨Nat.zero_le _, Nat.zero_le _⟩
    have HSZ : Hid (∀ f ∈ cmZ.tree, f.path.size ≤ 100000) := hide (fun f h => by cases h)
    go_upto_region 22 with (fail)
    have HCALL := hide (ref17_Lay W5 ⟨n0, n1, n2, n3, n4 == 1, ⟨cmZ, .slice none 0 0, .slice none 0 0⟩⟩ HAT.out HFEW.out HSZ.out)
    clear HSZ HFEW HAT
    unfold RqV.val at HCALL
    simp only at HCALL
    have e0 := cell_of_heap HQ.out 0
    have e1 := cell_of_heap HQ.out 1
    have e2 := cell_of_heap HQ.out 2
    have e3 := cell_of_heap HQ.out 3
    have e4 := cell_of_heap HQ.out 4
    have e5 := cell_of_heap HQ.out 5
    have e6 := cell_of_heap HQ.out 6
    have e7 := cell_of_heap HQ.out 7
    simp at e0 e1 e2 e3 e4 e5 e6 e7
    go_wp2_with fail
    refine HCALL.out.mono ?_
    rintro e w8 ⟨hb8, hres⟩
    have HS8 := hide HBW.out.size
    have HB8 := hide (HBW.out.trans (hb8.mono HBW.out.size))
    have HQ8 := hide ((Chg.of_below0 (S := fun _ => False) hb8).heap HQ.out (fun h => h))
    have HR8 := hide ((Chg.of_below0 (S := fun _ => False) hb8).heap HR.out (fun h => h))
    have HZ8 := hide ((Chg.of_below0 (S := fun _ => False) hb8).heap HZ.out (fun h => h))
    have HO8 := hide (HOW.out.chg (Chg.of_below0 (S := fun _ => False) hb8) (fun _ _ _ h => h))
    have HRd8 := hide (HB.out.chg (Chg.of_below0 (S := fun _ => False) HB8.out) (fun _ _ _ h => h))
    clear hb8 HCALL e0 e1 e2 e3 e4 e5 e6 e7 HQ HR HZ HOW HBW
    have r2 := cell_of_heap HR8.out 2
    have f0 := free_of_heap HZ8.out 0
    have g0 := cell_of_heap HZ8.out 0
    have f1 := free_of_heap HZ8.out 1
    have g1 := cell_of_heap HZ8.out 1
    have f2 := free_of_heap HZ8.out 2
    have g2 := cell_of_heap HZ8.out 2
    have f3 := free_of_heap HZ8.out 3
    have g3 := cell_of_heap HZ8.out 3
    have f4 := free_of_heap HZ8.out 4
    have g4 := cell_of_heap HZ8.out 4
    have f5 := free_of_heap HZ8.out 5
    have g5 := cell_of_heap HZ8.out 5
    have f6 := free_of_heap HZ8.out 6
    have g6 := cell_of_heap HZ8.out 6
    have f7 := free_of_heap HZ8.out 7
    have g7 := cell_of_heap HZ8.out 7
    unfold rqZ at g0 g1 g2 g3 g4 g5 g6 g7
    simp at g0 g1 g2 g3 g4 g5 g6 g7 r2
    cases hd : d4 with
    | true =>
      have HR := hide (show rdRq b = none from rd_bad (by rw [HCAND.out]; exact hd))
      rw [hd] at r2
      have hqs : ∃ vv : Value, e = .returned vv := by rcases hres with ⟨-, rfl⟩ | ⟨-, _, _, rfl, -⟩ <;> exact ⟨_, rfl⟩
      obtain ⟨aL, n9, capL, c9, rfl⟩ : ∃ aL n9 capL c9, e = .returned (.tuple #[.slice aL n9 capL, .int .i64 c9]) := by rcases hres with ⟨-, rfl⟩ | ⟨-, _, _, rfl, -⟩ <;> exact ⟨_, _, _, _, rfl⟩
      clear hd hqs hres
      go_wp2_with fail
      have hy := heap_setCell_same (heap_setCell_same (heap_setCell_same (heap_setCell_same (heap_setCell_same (heap_setCell_same (heap_setCell_same (heap_setCell_same (HZ8.out) (i := 0) (.int .i64 0)) (i := 1) (.int .i64 0)) (i := 2) (.int .i64 0)) (i := 3) (.int .i64 0)) (i := 4) (.bool false)) (i := 5) (.slice none 0 0)) (i := 6) (.slice none 0 0)) (i := 7) (.string ⟨#[]⟩)
      simp only [Array.setIfInBounds, rqZ, List.size_toArray] at hy
      refine bodyPost_ret (results_cu rfl _ _ w.heap.size _ _ _ _ rfl hy Tryd.underlying27 rfl (by kernel_rfl)) rfl ?_
      exact ⟨((((((((HB8.out.setCell (Nat.le_refl _) _).setCell (Nat.le_refl _) _).setCell (Nat.le_refl _) _).setCell (Nat.le_refl _) _).setCell (Nat.le_refl _) _).setCell (Nat.le_refl _) _).setCell (Nat.le_refl _) _).setCell (Nat.le_refl _) _), .inl ⟨HR.out, rfl⟩⟩
    | false =>
      rw [hd] at r2
      clear hd
      rcases hres with ⟨hno, rfl⟩ | ⟨hyes, aL, capL, rfl, hown⟩
      · have HR := hide (show rdRq b = none from rdR_may (by rw [HCAND.out]; exact hno))
        clear hno
        go_wp2_with fail
        have hy := heap_setCell_same (heap_setCell_same (heap_setCell_same (heap_setCell_same (heap_setCell_same (heap_setCell_same (heap_setCell_same (heap_setCell_same (HZ8.out) (i := 0) (.int .i64 0)) (i := 1) (.int .i64 0)) (i := 2) (.int .i64 0)) (i := 3) (.int .i64 0)) (i := 4) (.bool false)) (i := 5) (.slice none 0 0)) (i := 6) (.slice none 0 0)) (i := 7) (.string ⟨#[]⟩)
        simp only [Array.setIfInBounds, rqZ, List.size_toArray] at hy
        refine bodyPost_ret (results_cu rfl _ _ w.heap.size _ _ _ _ rfl hy Tryd.underlying27 rfl (by kernel_rfl)) rfl ?_
        exact ⟨((((((((HB8.out.setCell (Nat.le_refl _) _).setCell (Nat.le_refl _) _).setCell (Nat.le_refl _) _).setCell (Nat.le_refl _) _).setCell (Nat.le_refl _) _).setCell (Nat.le_refl _) _).setCell (Nat.le_refl _) _).setCell (Nat.le_refl _) _), .inl ⟨HR.out, rfl⟩⟩
      · have v1 := conv_rd w8 _ _ (Rd.of_owns hown)
        have v2 := conv_rd w8 _ _ HRd8.out
        obtain ⟨LL, hLL⟩ : ∃ LL, LL = layRq (RqV.r ⟨n0, n1, n2, n3, n4 == 1, ⟨cmZ, .slice none 0 0, .slice none 0 0⟩⟩) := ⟨_, rfl⟩
        rw [← hLL] at v1
        rw [← hLL]
        have HLL := hide hLL
        have HY := hide hyes
        clear hown hLL hyes
        by_cases hq : LL = b
        · have HR := hide (show rdRq b = some (RqV.r ⟨n0, n1, n2, n3, n4 == 1, ⟨cmZ, .slice none 0 0, .slice none 0 0⟩⟩) from rdRq_some.2 ⟨HY.out, by rw [← HLL.out]; exact hq⟩)
          subst hq
          have e0 := cell_of_heap HQ8.out 0
          have e1 := cell_of_heap HQ8.out 1
          have e2 := cell_of_heap HQ8.out 2
          have e3 := cell_of_heap HQ8.out 3
          have e4 := cell_of_heap HQ8.out 4
          have e5 := cell_of_heap HQ8.out 5
          have e6 := cell_of_heap HQ8.out 6
          have e7 := cell_of_heap HQ8.out 7
          simp at e0 e1 e2 e3 e4 e5 e6 e7
          go_wp2_with fail
          have hy := heap_setCell_same (heap_setCell_same (heap_setCell_same (heap_setCell_same (heap_setCell_same (heap_setCell_same (heap_setCell_same (heap_setCell_same (HZ8.out) (i := 0) (.int .i64 n0)) (i := 1) (.int .i64 n1)) (i := 2) (.int .i64 n2)) (i := 3) (.int .i64 n3)) (i := 4) (.bool (n4 == 1))) (i := 5) (.slice none 0 0)) (i := 6) (.slice none 0 0)) (i := 7) (.string cmZ.note)
          simp only [Array.setIfInBounds, rqZ, List.size_toArray] at hy
          refine bodyPost_ret (results_cu rfl _ _ w.heap.size _ _ _ _ rfl hy Tryd.underlying27 rfl (by kernel_rfl)) rfl ?_
          refine ⟨((((((((HB8.out.setCell (Nat.le_refl _) _).setCell (Nat.le_refl _) _).setCell (Nat.le_refl _) _).setCell (Nat.le_refl _) _).setCell (Nat.le_refl _) _).setCell (Nat.le_refl _) _).setCell (Nat.le_refl _) _).setCell (Nat.le_refl _) _), .inr ⟨⟨n0, n1, n2, n3, n4 == 1, ⟨cmZ, .slice none 0 0, .slice none 0 0⟩⟩, HR.out, rfl, ?_⟩⟩
          exact Own.base (own_sets HO8.out _ _ _ _ _ _ _ _) (Nat.le_succ _)
        · have HR := hide (show rdRq b = none from rdR_other (by rw [HCAND.out]; show ¬ layRq (RqV.r ⟨n0, n1, n2, n3, n4 == 1, ⟨cmZ, .slice none 0 0, .slice none 0 0⟩⟩) = b; rw [← HLL.out]; exact hq))
          have hqb : (LL == b) = false := by simpa using hq
          have hqn : (LL != b) = true := by simpa using hq
          clear hq
          go_wp2_with fail
          have hy := heap_setCell_same (heap_setCell_same (heap_setCell_same (heap_setCell_same (heap_setCell_same (heap_setCell_same (heap_setCell_same (heap_setCell_same (HZ8.out) (i := 0) (.int .i64 0)) (i := 1) (.int .i64 0)) (i := 2) (.int .i64 0)) (i := 3) (.int .i64 0)) (i := 4) (.bool false)) (i := 5) (.slice none 0 0)) (i := 6) (.slice none 0 0)) (i := 7) (.string ⟨#[]⟩)
          simp only [Array.setIfInBounds, rqZ, List.size_toArray] at hy
          refine bodyPost_ret (results_cu rfl _ _ w.heap.size _ _ _ _ rfl hy Tryd.underlying27 rfl (by kernel_rfl)) rfl ?_
          exact ⟨((((((((HB8.out.setCell (Nat.le_refl _) _).setCell (Nat.le_refl _) _).setCell (Nat.le_refl _) _).setCell (Nat.le_refl _) _).setCell (Nat.le_refl _) _).setCell (Nat.le_refl _) _).setCell (Nat.le_refl _) _).setCell (Nat.le_refl _) _), .inl ⟨HR.out, rfl⟩⟩
end Go.Proofs.YtjmmmpnpkialjaaDoor
