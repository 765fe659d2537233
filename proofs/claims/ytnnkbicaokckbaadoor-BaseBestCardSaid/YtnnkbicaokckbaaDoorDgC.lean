/- dag.First: what it gives, what it promises; dag.Is. Conditions: none. -/
import Derived.Test.YtnnkbicaokckbaaDoorDgB
namespace Go.Proofs.YtnnkbicaokckbaaDoor
open Go.RowKit Go.Shelf
attribute [local go_sem] Oper.semAt_some

set_option maxRecDepth 100000 in
set_option maxHeartbeats 8000000 in
theorem first_seqd (w : World) (b1 b2 : Nat) {R0 : Nat → Prop} {v : Value} {cs : List Cm} (hd : DagOk cs) (hg : GetsR R0 w v cs) (hv : ∃ a, v = .pointer a) (n : Int) (hn : I64 n)
    (h1 : w.cell? ⟨b1, 0, none⟩ = some v) (h2 : w.cell? ⟨b2, 0, none⟩ = some (.int .i64 n)) :
    SeqD Fence.wide 8 Tryd.prog 79 #[.pointer (some ⟨b2, 0, none⟩), .pointer (some ⟨b1, 0, none⟩)] (fun x : Int => #[.int .i64 x]) (fun k => k = b1 ∨ k = b2 ∨ R0 k) (firstN cs n) w := by
  intro ll J Jx W hW hJ hJx hY h0
  have hb1l := World.block_lt_of_cell? w _ h1
  have hb2l := World.block_lt_of_cell? w _ h2
  have hB1 : W.cell? ⟨b1, 0, none⟩ = some v := (World.cell?_of_block (hW.2 b1 hb1l (.inl rfl))).trans h1
  have hB2 : W.cell? ⟨b2, 0, none⟩ = some (.int .i64 n) := (World.cell?_of_block (hW.2 b2 hb2l (.inr (.inl rfl)))).trans h2
  obtain ⟨av, rfl⟩ := hv
  have HGW : Hid (GetsR R0 W (.pointer av) cs) := hide (hg.later (hW.mono (fun _ h => .inr (.inr h))))
  have HRW : Hid (∀ k, (k = b1 ∨ k = b2 ∨ R0 k) → k < W.heap.size) := hide (fun k hk => by
    have := hW.1
    rcases hk with rfl | rfl | hk
    · have e : k < w.heap.size := hb1l; omega
    · have e : k < w.heap.size := hb2l; omega
    · have := hg.1 k hk; omega)
  have HB1 := hide hB1
  have HJ := hide hJ
  have HJX := hide hJx
  have HY := hide hY
  have H0 := hide h0
  have HD := hide hd
  clear hJ hJx hY h0 hW h1 h2 hg hb1l hb2l hd hB1
  refine callsIn_of_wp Tryd.func79 rfl trivial ?_ rfl
  simp only [Tryd.ntmps79, List.size_toArray, List.length_cons, List.length_nil, Nat.reduceAdd, Nat.reduceSub, Array.replicate_succ, Array.replicate_zero, List.push_toArray, List.append_toArray, List.nil_append, List.cons_append]
  gi_wp2_with fail
  clear hB2
  gi_loopw [4] (fun i wr => ∃ at_ : Int, i = .int .i64 at_ ∧ I64 at_ ∧ Hid (∃ D pre, J D pre wr ∧ pre ++ firstN cs at_ = firstN cs n ∧ Kpt (fun k => k = b1 ∨ k = b2 ∨ R0 k) W wr)) (fun i _ => (intOf i).toNat)
  case atStart => exact ⟨n, rfl, hn, _, [], H0.out, rfl, Kpt.refl _ _⟩
  case round =>
    obtain ⟨x, rfl, hx, HS⟩ := hrel
    obtain ⟨D, pre, hj, hr, hk⟩ := HS.out
    have hbc := (World.cell?_of_block (hk.2 b1 (HRW.out b1 (.inl rfl)) (.inl rfl))).trans HB1.out
    have hget := HGW.out.2 wr x (hk.mono (fun _ h => .inr (.inr h))) hx
    obtain ⟨c, hc⟩ : ∃ c, c = cmN cs x := ⟨_, rfl⟩
    have hpar : parN cs x = c.parents := by rw [parN_eq, hc]
    rw [← hc] at hget
    have HGET := hide hget
    have HJ1 := hide hj
    have HR1 := hide hr
    have HK1 := hide hk
    have HPAR := hide hpar
    have HX := hide hx
    clear hget hc hpar hj hr hk
    gi_wp2_with fail
    refine ⟨trivial, ?_⟩
    gi_at_call 25
    refine (callsIn_wide.2 HGET.out).mono ?_
    rintro e W3 ⟨vp, vt, rfl, hown3, hb3⟩
    have hps : W3.ownsRow _ _ _ vp c.parents.length _ := hown3.ps
    have hts : W3.ownsRow _ _ _ vt c.tree.length _ := hown3.ts
    obtain ⟨aop, cap1, rfl⟩ := ownsRow_shape hps
    obtain ⟨aot, cap2, rfl⟩ := ownsRow_shape hts
    have hc4 := (Chg.of_below0 (S := fun _ => False) hb3).trans (Chg.alloc (fun _ => False) W3 (.cells #[.slice aop c.parents.length cap1, .slice aot c.tree.length cap2, .string c.note] 33)) (S'' := fun _ => False) (fun _ _ h => h) (fun _ _ h => h)
    have hps4 := (Chg.alloc (fun _ => False) W3 (.cells #[.slice aop c.parents.length cap1, .slice aot c.tree.length cap2, .string c.note] 33)).owns hps (fun _ _ h => h)
    have hn4 := heap_alloc_new W3 (.cells #[.slice aop c.parents.length cap1, .slice aot c.tree.length cap2, .string c.note] 33)
    simp only [val_eq]
    have hw3 := hb3.size
    generalize hw4 : W3.alloc (.cells #[.slice aop c.parents.length cap1, .slice aot c.tree.length cap2, .string c.note] 33) = W4 at hc4 hps4 hn4
    have HW4 := hide hw4
    have hj4 := HJ.out _ _ _ W4 _ HJ1.out hc4 (fun _ _ h => h.elim)
    have hlb := (Array.getElem?_eq_some_iff.1 hn4).1
    cases hin : inN cs x with
    | false =>
      have hz : firstN cs x = [] := firstN_out (by rw [← inN_iff, hin]; simp)
      have hr := HR1.out
      rw [hz, List.append_nil] at hr
      rw [hr] at hj4
      have HJ4 := hide hj4
      clear hin hz hr hps hts hown3 hb3 hc4 hps4 hn4 hw4 hj4
      gi_wp2_with (rw [HW4.out])
      refine ⟨(fun _ h => by cases h), ?_⟩
      gi_wp2_with fail
      refine bodyPost_ret (results_none rfl _ _ _) rfl ?_
      exact ⟨⟨_, rfl⟩, .inl ⟨_, HJ4.out⟩⟩
    | true =>
      have hin' := inN_iff.1 hin
      have hfi := firstN_in HD.out hin'
      have hr := HR1.out
      rw [hfi] at hr
      have hpre : pre ++ [x] <+: firstN cs n := ⟨_, by rw [← hr, List.append_assoc]; rfl⟩
      obtain ⟨fn, tmps, assign, body, hy, hR⟩ := HY.out _ _ x W4 hj4 hpre
      have HRY := hide hR
      have HIN := hide hin'
      have HR2 := hide hr
      have HPRE := hide hpre
      have HPS := hide hps4
      have HN4 := hide hn4
      have HC4 := hide hc4
      clear hin hin' hfi hr hps hts hown3 hb3 hc4 hps4 hn4 hw4 hj4 hR hpre
      gi_wp2_with (rw [HW4.out])
      refine HRY.out.mono ?_
      rintro e W5 (⟨rfl, hj5, hk5⟩ | ⟨rfl, hx5, -⟩)
      · have hfr : ∀ b, wr.heap.size ≤ b → b < W4.heap.size → Plus D wr W4 b := fun b h1 h2 => .inr ⟨h1, h2⟩
        have hn5 : W5.heap[W3.heap.size]? = some (.cells #[.slice aop c.parents.length cap1, .slice aot c.tree.length cap2, .string c.note] 33 (0, 0)) := hk5.heap HN4.out (.inr (hfr _ (by omega) (by omega)))
        have q0 := cell_of_heap hn5 0
        simp at q0
        have hpo : W5.ownsRow wr.heap.size 3 1 (.slice aop c.parents.length cap1) c.parents.length (flat int_enc c.parents) := by
          refine ⟨HPS.out.1, ?_⟩
          rcases HPS.out.2 with hn | ⟨gg, cap', cur, e1, hb, hgg, rest⟩
          · exact .inl hn
          · exact .inr ⟨gg, cap', cur, e1, hb, hk5.heap hgg (.inr (hfr gg hb (Array.getElem?_eq_some_iff.1 hgg).1)), rest⟩
        have hkw := (HK1.out.trans (Kpt.of_chg HC4.out (fun _ _ _ h => h))).trans (hk5.mono (fun _ h => .inl h))
        have HJ5 := hide hj5
        have HKW := hide hkw
        have hrr := HR2.out
        rw [HPAR.out] at hrr
        have hpp := HD.out.par x
        rw [HPAR.out] at hpp
        clear hj5 hk5 hn5 hkw hfr
        cases hcp : c.parents with
        | nil =>
          rw [hcp] at hrr q0
          simp only [List.length_nil] at q0
          have HEND := hide (show J (Plus D wr W4) (firstN cs n) W5 by rw [← hrr]; exact HJ5.out)
          clear hrr hpp hpo hcp
          gi_wp2_with fail
          refine bodyPost_ret (results_none rfl _ _ _) rfl ?_
          exact ⟨⟨_, rfl⟩, .inl ⟨_, HEND.out⟩⟩
        | cons p ps =>
          rw [hcp] at hrr q0 hpo hpp
          have hp1 := hpp p (by simp)
          obtain ⟨a', c', e, -, hcs0⟩ := (Rd.of_owns hpo).shape
          obtain ⟨b, off, rfl, hcs⟩ := hcs0 (by simp)
          cases e
          have hx0 : W5.cell? ⟨b, off, none⟩ = some (.int .i64 p) := hcs 0 (.int .i64 p) rfl
          have HRR := hide hrr
          have hxr := HX.out
          have hpi : I64 p := by unfold I64 at hxr ⊢; omega
          have HPI := hide hpi
          have HP1 := hide hp1
          have HX1 := hide (show 1 ≤ x from HIN.out.1)
          have hl0 : (((p :: ps).length : Int) == 0) = false := by simp; omega
          clear hrr hpp hpo hcs hcs0 hcp hxr hpi hp1
          simp only [List.length_cons] at q0 hl0
          gi_wp2_with fail
          go_roundw
          case rel => exact ⟨p, rfl, HPI.out, _, pre ++ [x], HJ5.out, by rw [List.append_assoc]; exact HRR.out, HKW.out⟩
          case measure => simp only [intOf]; have := HP1.out; have := HX1.out; omega
      · have HX5 := hide hx5
        clear hx5
        gi_wp2_with fail
        refine bodyPost_ret (results_none rfl _ _ _) rfl ?_
        exact ⟨⟨_, rfl⟩, .inr ⟨_, _, HPRE.out, HX5.out⟩⟩
/-- A function that boxes two and gives a closure of both. -/
theorem dag_First_0 (w : World) {v : Value} {cs : List Cm} {R0 : Nat → Prop} (hv : ∃ a, v = .pointer a) (hg : GetsR R0 w v cs) (n : Int) (hn : I64 n) (hd : DagOk cs) :
    Calls Tryd.prog 46 #[v, .int .i64 n] w fun e w' => e = .returned (.func (.func 79) #[] #[.pointer (some ⟨w.heap.size + 1, 0, none⟩), .pointer (some ⟨w.heap.size, 0, none⟩)]) ∧ SeqD Fence.wide 8 Tryd.prog 79 #[.pointer (some ⟨w.heap.size + 1, 0, none⟩), .pointer (some ⟨w.heap.size, 0, none⟩)] (fun x : Int => #[.int .i64 x]) (fun k => k = w.heap.size ∨ k = w.heap.size + 1 ∨ R0 k) (firstN cs n) w' ∧ w'.heap.size = w.heap.size + 2 ∧ Below w.heap.size w w' := by
  obtain ⟨a, rfl⟩ := hv
  have hb := (Below.refl w.heap.size w).alloc (Nat.le_refl _) (.cells #[.pointer a] 25)
  have h1 := heap_alloc_new w (.cells #[.pointer a] 25)
  have hs : (w.alloc (.cells #[.pointer a] 25)).heap.size = w.heap.size + 1 := World.size_alloc _ _
  generalize hw1 : w.alloc (.cells #[.pointer a] 25) = w1 at hb h1 hs
  have HW1 := hide hw1
  have hb2 := hb.alloc hb.size (.cells #[.int .i64 n] 3)
  have h2 := (Chg.alloc (fun _ => False) w1 (.cells #[.int .i64 n] 3)).heap h1 (fun h => h)
  have h3 := heap_alloc_new w1 (.cells #[.int .i64 n] 3)
  rw [hs] at h3
  have hs2 : (w1.alloc (.cells #[.int .i64 n] 3)).heap.size = w.heap.size + 2 := by rw [World.size_alloc, hs]
  generalize hw2 : w1.alloc (.cells #[.int .i64 n] 3) = w2 at hb2 h2 h3 hs2
  have HW2 := hide hw2
  have hg2 := hg.later (Kpt.of_chg (Chg.of_below0 (S := fun _ => False) hb2) (fun _ _ _ h => h))
  have HT := hide (show SeqD Fence.wide 8 Tryd.prog 79 #[.pointer (some ⟨w.heap.size + 1, 0, none⟩), .pointer (some ⟨w.heap.size, 0, none⟩)] (fun x : Int => #[.int .i64 x]) (fun k => k = w.heap.size ∨ k = w.heap.size + 1 ∨ R0 k) (firstN cs n) w2 from first_seqd w2 _ _ hd hg2 ⟨_, rfl⟩ n hn (cell_of_heap h2 0) (cell_of_heap h3 0))
  have HB := hide hb2
  have HS := hide hs
  have HS2 := hide hs2
  clear hg hb h1 hs hb2 h2 h3 hg2 hw1 hw2 hs2
  go_enter Tryd.func46, Tryd.ntmps46
  go_wp2_with (first | rw [HW1.out] | rw [HW2.out])
  go_ret
  exact ⟨by rw [HS.out]; rfl, HT.out, HS2.out, HB.out⟩
theorem dag_First (w : World) {v : Value} {cs : List Cm} (hg : Gets w v cs) (n : Int) (hn : I64 n) (hd : DagOk cs) :
    Calls Tryd.prog 46 #[v, .int .i64 n] w fun e w' => ∃ g, e = .returned g ∧ TellsI (firstN cs n) g w' ∧ Below w.heap.size w w' := by
  obtain ⟨hv, R0, hg⟩ := hg
  refine (dag_First_0 w hv hg n hn hd).mono ?_
  rintro e w' ⟨rfl, hs, hz, hb⟩
  exact ⟨_, rfl, ⟨_, _, _, rfl, enters_of Tryd.func79 (by kernel_rfl) rfl, hs, fun k hk => by rcases hk with rfl | rfl | hk; (· omega); (· omega); (· have := hg.1 k hk; omega)⟩, hb⟩
end Go.Proofs.YtnnkbicaokckbaaDoor
