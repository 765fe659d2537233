/- slices.Backward at ints; base.Best. Conditions: none. -/
import Derived.Test.YtnnkbicaokckbaaDoorBsG
import Derived.Test.YtnnkbicaokckbaaDoorIterN
namespace Go.Proofs.YtnnkbicaokckbaaDoor
open Go.RowKit Go.Shelf
attribute [local go_sem] Oper.semAt_some

/-- From the last one on, each with how many came ahead of it. -/
def bwL (xs : List Int) : List (Int × Nat) := xs.reverse.zipIdx
theorem bwL_length (xs : List Int) : (bwL xs).length = xs.length := by simp [bwL]
theorem bwL_get (xs : List Int) {k : Nat} (h : k < xs.length) (h' : k < (bwL xs).length) : (bwL xs)[k] = (xs[xs.length - 1 - k], k) := by simp [bwL]
theorem bwL_fst (xs : List Int) : (bwL xs).map Prod.fst = xs.reverse := by simp [bwL]
def bwE (n : Nat) (p : Int × Nat) : Array Value := #[.int .i64 ((n : Int) - 1 - p.2), .int .i64 p.1]
set_option maxRecDepth 100000 in
set_option maxHeartbeats 2000000 in
theorem backward_seqd (w : World) (B : Nat) (v : Value) (xs : List Int) (hm : xs.length ≤ 1000000) (hB : w.cell? ⟨B, 0, none⟩ = some v) (hr : Rd w v xs.length (xs.map (Value.int .i64))) (hbl : ∀ k, v.ownBlock = some k → k < w.heap.size) :
    SeqD Fence.wide 8 Tryd.prog 109 #[.pointer (some ⟨B, 0, none⟩)] (bwE xs.length) (fun k => k = B ∨ v.ownBlock = some k) (bwL xs) w := by
  intro l J Jx W hW hJ hJx hY h0
  have hBl := World.block_lt_of_cell? w _ hB
  have hBW : W.cell? ⟨B, 0, none⟩ = some v := (World.cell?_of_block (hW.2 B hBl (.inl rfl))).trans hB
  have kcell : ∀ (A : World), Kpt (fun k => k = B ∨ v.ownBlock = some k) W A → Rd A v xs.length (xs.map (Value.int .i64)) ∧ A.cell? ⟨B, 0, none⟩ = some v := fun A hA => by
    have hk := hW.trans hA
    refine ⟨?_, (World.cell?_of_block (hk.2 B hBl (.inl rfl))).trans hB⟩
    rcases hr with h | ⟨a, cap, rfl, hcap, ⟨ha, h⟩ | h⟩
    · exact .inl h
    · exact .inr ⟨a, cap, rfl, hcap, .inl ⟨ha, fun j u hu => (World.cell?_of_block (a := ⟨a.block, a.off + j, none⟩) (hk.2 a.block (hbl _ rfl) (.inr rfl))).trans (h j u hu)⟩⟩
    · exact .inr ⟨a, cap, rfl, hcap, .inr h⟩
  have KC := hide kcell
  obtain ⟨ao, cap, rfl, -, -⟩ := hr.shape
  have HY := hide hY
  have hwn : IntKind.i64.wrap ((xs.length : Int) - 1) = (xs.length : Int) - 1 := IntWalk.i64_in _ (by omega)
  clear hY hr hB hW kcell hBl hbl
  refine callsIn_of_wp Tryd.func109 rfl trivial ?_ rfl
  simp only [Tryd.ntmps109, List.size_toArray, List.length_cons, List.length_nil, Nat.reduceAdd, Nat.reduceSub, Array.replicate_succ, Array.replicate_zero, List.push_toArray, List.append_toArray, List.nil_append, List.cons_append]
  gi_wp2
  clear hBW
  gi_loopw [3] (fun i wr => ∃ k : Nat, k ≤ xs.length ∧ i = .int .i64 ((xs.length : Int) - 1 - k) ∧ Hid (∃ D, J D ((bwL xs).take k) wr) ∧ Hid (Kpt (fun k => k = B ∨ (Value.slice ao xs.length cap).ownBlock = some k) W wr)) (fun i _ => (intOf i + 1).toNat)
  case atStart => exact ⟨0, Nat.zero_le _, by show Value.int .i64 _ = Value.int .i64 _; congr 1; omega, ⟨_, h0⟩, Kpt.refl _ _⟩
  case round =>
    obtain ⟨k, hk, rfl, HJ, HK⟩ := hrel
    obtain ⟨hrr, hbb⟩ := KC.out wr HK.out
    have hbl := bwL_length xs
    by_cases hlt : k < xs.length
    · obtain ⟨m, hmm⟩ : ∃ m : Nat, m = xs.length - 1 - k := ⟨_, rfl⟩
      have hme : (xs.length : Int) - 1 - (k : Int) = (m : Int) := by omega
      have hml : m < xs.length := by omega
      obtain ⟨a, cap', e, -, hcs0⟩ := hrr.shape
      obtain ⟨b, off, rfl, hcs⟩ := hcs0 (by omega)
      cases e
      have hcx := hcs m (.int .i64 xs[m]) (by simp [hml])
      obtain ⟨D, hj⟩ := HJ.out
      have htk : (bwL xs).take (k + 1) = (bwL xs).take k ++ [(xs[m], k)] := by
        rw [take_succ_get (bwL xs) k (by omega), bwL_get xs hlt (by omega)]
        simp only [hmm]
      have hpre : (bwL xs).take k ++ [(xs[m], k)] <+: bwL xs := by rw [← htk]; exact List.take_prefix _ _
      obtain ⟨fn, tmps, assign, body, hy, hR⟩ := HY.out D _ (xs[m], k) wr hj hpre
      have he : bwE xs.length (xs[m], k) = #[.int .i64 (m : Int), .int .i64 xs[m]] := by unfold bwE; rw [hme]
      rw [he] at hy
      have HTK := hide htk
      have HME := hide hme
      have hmi : (m : Int) < (xs.length : Int) := by omega
      have hwm : IntKind.i64.wrap ((m : Int) - 1) = (m : Int) - 1 := IntWalk.i64_in _ (by omega)
      rw [hme]
      generalize xs[m] = xm at *
      clear hcs hcs0 hj hpre he htk hme hmm hrr hbl
      gi_wp2
      refine hR.mono ?_
      rintro e W3 (⟨rfl, hJ3, hk3⟩ | ⟨rfl, hJx3, -⟩)
      · have HJ3 := hide hJ3
        have HK3 := hide hk3
        clear hJ3 hk3
        gi_wp2
        go_roundw
        case rel => exact ⟨k + 1, by omega, by (show Value.int .i64 _ = Value.int .i64 _; congr 1; have := HME.out; omega), ⟨D, by rw [HTK.out]; exact HJ3.out⟩, HK.out.trans (HK3.out.mono (fun _ h => .inl h))⟩
        case measure => simp only [intOf]; omega
      · have HX3 := hide hJx3
        clear hJx3
        gi_wp2
        refine bodyPost_ret (results_none rfl _ _ _) rfl ?_
        exact ⟨⟨_, rfl⟩, .inr ⟨D, _, by rw [← HTK.out]; exact List.take_prefix _ _, HX3.out⟩⟩
    · obtain rfl : k = xs.length := by omega
      have d1 : decide ((xs.length : Int) - 1 - (xs.length : Int) ≥ 0) = false := decide_eq_false (by omega)
      gi_wp2
      go_end0
      obtain ⟨D, hj⟩ := HJ.out
      exact ⟨⟨_, rfl⟩, .inl ⟨D, by rw [List.take_of_length_le (by omega)] at hj; exact hj⟩⟩
theorem slices_Backward {base : Nat} (w : World) (v : Value) (xs : List Int) (hm : xs.length ≤ 1000000) (hr : w.ownsRow base 3 1 v xs.length (xs.map (Value.int .i64))) :
    Calls Tryd.prog 84 #[v] w fun e w' => e = .returned (.func (.func 109) #[] #[.pointer (some ⟨w.heap.size, 0, none⟩)]) ∧
      SeqD Fence.wide 8 Tryd.prog 109 #[.pointer (some ⟨w.heap.size, 0, none⟩)] (bwE xs.length) (fun k => k = w.heap.size ∨ v.ownBlock = some k) (bwL xs) w' ∧ w'.heap.size = w.heap.size + 1 ∧ Chg (fun _ => False) w w' := by
  have hc := Chg.alloc (fun _ => False) w (.cells #[v] 27)
  have h1 := heap_alloc_new w (.cells #[v] 27)
  have hs1 : (w.alloc (.cells #[v] 27)).heap.size = w.heap.size + 1 := World.size_alloc _ _
  obtain ⟨ao, cap, rfl⟩ := ownsRow_shape hr
  have HS := hide (backward_seqd (w.alloc (.cells #[.slice ao xs.length cap] 27)) w.heap.size _ xs hm (cell_of_heap h1 0) ((Rd.of_owns hr).chg hc (fun _ _ _ h => h)) (fun k hk => Nat.lt_of_lt_of_le (ownsRow_lt hr k hk).2 hc.size))
  have HC := hide hc
  have HS1 := hide hs1
  clear hc h1 hs1 hr
  go_enter Tryd.func84, Tryd.ntmps84
  go_wp2_with fail
  go_ret
  exact ⟨rfl, HS.out, HS1.out, HC.out⟩
/-- Where the choice of the best stands in memory. -/
structure BsSt (w : World) (v : Value) (B : Nat) (D : Nat → Prop) (ao : Option Addr) (cap : Nat) (L : List Int) (m : Nat) (f : Int → Bool) (W : World) : Prop where
  rb : W.heap[w.heap.size]? = some (.cells #[v] 25 (0, 0))
  bc : W.heap[w.heap.size + 2]? = some (.cells #[.map (some (w.heap.size + 1))] 95 (0, 0))
  bl : W.heap[w.heap.size + 3]? = some (.cells #[.slice ao L.length cap] 27 (0, 0))
  mp : MapB W (w.heap.size + 1) m f
  row : W.ownsRow w.heap.size 3 1 (.slice ao L.length cap) L.length (L.map (Value.int .i64))
  own : ∀ k, (Value.slice ao L.length cap).ownBlock = some k → ¬ D k ∧ B + 2 ≤ k
  bel : Below w.heap.size w W
  far : ∀ k, D k → B + 2 ≤ k ∧ k < W.heap.size
  big : B + 2 ≤ W.heap.size
theorem BsSt.turn {w : World} {v : Value} {B : Nat} {D D' : Nat → Prop} {ao : Option Addr} {cap : Nat} {L : List Int} {m : Nat} {f : Int → Bool} {W W' : World} {S : Nat → Prop}
    (h : BsSt w v B D ao cap L m f W) (c : Chg S W W') (hb : w.heap.size + 3 < B) (hS : ∀ k, k < B → ¬ S k) (ho : ∀ k, (Value.slice ao L.length cap).ownBlock = some k → ¬ S k ∧ ¬ D' k) (hD : ∀ k, D' k → B + 2 ≤ k ∧ k < W'.heap.size) : BsSt w v B D' ao cap L m f W' :=
  ⟨c.heap h.rb (hS _ (by omega)), c.heap h.bc (hS _ (by omega)), c.heap h.bl (hS _ (by omega)), h.mp.chg c (hS _ (by omega)), c.owns h.row (fun k hk => (ho k hk).1), fun k hk => ⟨(ho k hk).2, (h.own k hk).2⟩, h.bel.trans (c.below h.bel.size (fun k hk => hS k (by omega))), hD, Nat.le_trans h.big c.size⟩
theorem BsSt.same {w : World} {v : Value} {B : Nat} {D : Nat → Prop} {ao : Option Addr} {cap : Nat} {L : List Int} {m : Nat} {f : Int → Bool} {W W' : World}
    (h : BsSt w v B D ao cap L m f W) (c : Chg (fun _ => False) W W') (hb : w.heap.size + 3 < B) : BsSt w v B D ao cap L m f W' :=
  h.turn c hb (fun _ _ h => h) (fun k hk => ⟨fun h => h, (h.own k hk).1⟩) (fun k hk => ⟨(h.far k hk).1, Nat.lt_of_lt_of_le (h.far k hk).2 c.size⟩)
theorem BsSt.mput {w : World} {v : Value} {B : Nat} {D : Nat → Prop} {ao : Option Addr} {cap : Nat} {L : List Int} {m m' : Nat} {f f' : Int → Bool} {W W' : World}
    (h : BsSt w v B D ao cap L m f W) (c : Chg (fun k => k = w.heap.size + 1) W W') (hb : w.heap.size + 3 < B) (hm : MapB W' (w.heap.size + 1) m' f') : BsSt w v B D ao cap L m' f' W' :=
  ⟨c.heap h.rb (fun e => by have e' : w.heap.size = w.heap.size + 1 := e; omega), c.heap h.bc (fun e => by have e' : w.heap.size + 2 = w.heap.size + 1 := e; omega), c.heap h.bl (fun e => by have e' : w.heap.size + 3 = w.heap.size + 1 := e; omega), hm,
   c.owns h.row (fun k hk e => by have := h.own k hk; omega), h.own, h.bel.trans (c.below h.bel.size (fun k hk e => by omega)), fun k hk => ⟨(h.far k hk).1, Nat.lt_of_lt_of_le (h.far k hk).2 c.size⟩, Nat.le_trans h.big c.size⟩
theorem BsSt.app {w : World} {v : Value} {B : Nat} {D : Nat → Prop} {ao ao1 : Option Addr} {cap cap1 : Nat} {L : List Int} {m : Nat} {f : Int → Bool} {W w1 : World} {y : Int}
    (h : BsSt w v B D ao cap L m f W) (hb : w.heap.size + 3 < B) (hg : Chg (fun k => (Value.slice ao L.length cap).ownBlock = some k) W w1) (hown : w1.ownsRow w.heap.size 3 1 (.slice ao1 (L.length + 1) cap1) (L.length + 1) (L.map (Value.int .i64) ++ [.int .i64 y]))
    (hat : ∀ k, (Value.slice ao1 (L.length + 1) cap1).ownBlock = some k → (Value.slice ao L.length cap).ownBlock = some k ∨ W.heap.size ≤ k) :
    BsSt w v B D ao1 cap1 (L ++ [y]) m f (w1.setCell ⟨w.heap.size + 3, 0, none⟩ (.slice ao1 (L.length + 1) cap1)) ∧ Chg (fun k => (Value.slice ao L.length cap).ownBlock = some k ∨ k = w.heap.size + 3) W (w1.setCell ⟨w.heap.size + 3, 0, none⟩ (.slice ao1 (L.length + 1) cap1)) := by
  have hno : ∀ k, k < B → (Value.slice ao L.length cap).ownBlock ≠ some k := fun k hk e => by have := (h.own k e).2; omega
  have hb1 := hg.heap h.bl (hno _ (by omega))
  have c2 := Chg.setCell w1 ⟨w.heap.size + 3, 0, none⟩ (.slice ao1 (L.length + 1) cap1)
  have c : Chg (fun k => (Value.slice ao L.length cap).ownBlock = some k ∨ k = w.heap.size + 3) W (w1.setCell ⟨w.heap.size + 3, 0, none⟩ (.slice ao1 (L.length + 1) cap1)) := hg.trans c2 (fun _ _ h => .inl h) (fun _ _ h => .inr h)
  have hS : ∀ k, k < B → k ≠ w.heap.size + 3 → ¬ ((Value.slice ao L.length cap).ownBlock = some k ∨ k = w.heap.size + 3) := fun k hk hn e => e.elim (hno k hk) hn
  have hbig := h.big
  refine ⟨⟨c.heap h.rb (hS _ (by omega) (by omega)), c.heap h.bc (hS _ (by omega) (by omega)), ?_, h.mp.chg c (hS _ (by omega) (by omega)), ?_, fun k hk => ?_, h.bel.trans (c.below h.bel.size (fun k hk => hS k (by omega) (by omega))), fun k hk => ⟨(h.far k hk).1, Nat.lt_of_lt_of_le (h.far k hk).2 c.size⟩, Nat.le_trans h.big c.size⟩, c⟩
  · rw [List.length_append]; exact heap_setCell_same hb1 _
  · rw [List.length_append, List.map_append]
    exact c2.owns hown (fun k hk e => by
      have e' : k = w.heap.size + 3 := e
      rcases hat k hk with h1 | h1
      · exact hno k (by omega) h1
      · omega)
  · rw [List.length_append] at hk
    rcases hat k hk with h1 | h1
    · exact h.own k h1
    · exact ⟨fun hd => by have := (h.far k hd).2; omega, by omega⟩
/-- What was chosen, and what is still to be looked at. -/
def BsEq (cs : List Cm) (C pre L : List Int) (f : Int → Bool) : Prop := ∃ rest, pre ++ rest = C.reverse ∧ L ++ bestF cs rest f = bestF cs C.reverse (fun _ => false)

set_option maxRecDepth 100000 in
set_option maxHeartbeats 8000000 in
theorem base_Best (w : World) {v : Value} {cs : List Cm} (hd : DagOk cs) (hg : Gets w v cs) (a b : Int) (ha : I64 a) (hb : I64 b) :
    Calls Tryd.prog 51 #[v, .int .i64 a, .int .i64 b] w fun e w' => ∃ ao cap, e = .returned (.slice ao (bestN cs a b).length cap) ∧ w'.ownsRow w.heap.size 3 1 (.slice ao (bestN cs a b).length cap) (bestN cs a b).length ((bestN cs a b).map (Value.int .i64)) ∧ Below w.heap.size w w' := by
  obtain ⟨-, R0, hgr⟩ := id hg
  have HGR := hide hgr
  clear hgr
  have HD := hide hd
  have HCM := hide (fun Wx (hc : Chg (fun _ => False) w Wx) => base_Common Wx hd (hg.chg hc) a b ha hb)
  have hcl := common_len cs a b
  have hl6 := hd.len
  have HBN : Hid (bestN cs a b = (bestF cs (commonN cs a b).reverse (fun _ => false)).reverse) := hide rfl
  have HWF : Hid (∀ x ∈ commonN cs a b, I64 x ∧ (Lit.int .i64 x).wf = true) := hide (fun x hx => by
    have := ahead_range (common_mem.1 hx).1
    exact ⟨by unfold I64; omega, WalkArith.wf_i64 (by omega)⟩)
  obtain ⟨C, hC⟩ : ∃ C, C = commonN cs a b := ⟨_, rfl⟩
  obtain ⟨BN, hBN⟩ : ∃ BN, BN = bestN cs a b := ⟨_, rfl⟩
  rw [← hC] at HBN HCM HWF hcl
  rw [← hBN] at HBN ⊢
  have hmm := @run_makeMap Tryd.prog
  obtain ⟨av, rfl⟩ := hg.1
  have hc1 := Chg.alloc (fun _ => False) w (.cells #[.pointer av] 25)
  have hk1 := heap_alloc_new w (.cells #[.pointer av] 25)
  have hs1 : (w.alloc (.cells #[.pointer av] 25)).heap.size = w.heap.size + 1 := World.size_alloc _ _
  generalize hw1 : w.alloc (.cells #[.pointer av] 25) = w1 at hc1 hk1 hs1
  have HW1 := hide hw1
  have hc2 := Chg.alloc (fun _ => False) w1 (.map #[] 0)
  have hm2 := MapB.made w1
  rw [hs1] at hm2
  have hs2 : (w1.alloc (.map #[] 0)).heap.size = w.heap.size + 2 := by rw [World.size_alloc, hs1]
  generalize hw2 : w1.alloc (.map #[] 0) = w2 at hc2 hm2 hs2
  have HW2 := hide hw2
  have hc3 := Chg.alloc (fun _ => False) w2 (.cells #[.map (some (w.heap.size + 1))] 95)
  have hk3 := heap_alloc_new w2 (.cells #[.map (some (w.heap.size + 1))] 95)
  rw [hs2] at hk3
  have hs3 : (w2.alloc (.cells #[.map (some (w.heap.size + 1))] 95)).heap.size = w.heap.size + 3 := by rw [World.size_alloc, hs2]
  generalize hw3 : w2.alloc (.cells #[.map (some (w.heap.size + 1))] 95) = w3 at hc3 hk3 hs3
  have HW3 := hide hw3
  have hc4 := Chg.alloc (fun _ => False) w3 (.cells #[.slice none 0 0] 27)
  have hk4 := heap_alloc_new w3 (.cells #[.slice none 0 0] 27)
  rw [hs3] at hk4
  have hs4 : (w3.alloc (.cells #[.slice none 0 0] 27)).heap.size = w.heap.size + 4 := by rw [World.size_alloc, hs3]
  generalize hw4 : w3.alloc (.cells #[.slice none 0 0] 27) = w4 at hc4 hk4 hs4
  have HW4 := hide hw4
  have hb1 := ((hc4.heap (hc3.heap (hc2.heap hk1 (fun h => h)) (fun h => h)) (fun h => h)))
  have HC4 := hide (((hc1.trans hc2 (S'' := fun _ => False) (fun _ _ h => h) (fun _ _ h => h)).trans hc3 (S'' := fun _ => False) (fun _ _ h => h) (fun _ _ h => h)).trans hc4 (S'' := fun _ => False) (fun _ _ h => h) (fun _ _ h => h))
  have HK := hide (And.intro hb1 (And.intro (hc4.heap hk3 (fun h => h)) (And.intro hk4 ((hm2.chg hc3 (fun h => h)).chg hc4 (fun h => h)))))
  have q0 := cell_of_heap hb1 0
  have HS := hide (And.intro hs1 (And.intro hs2 (And.intro hs3 hs4)))
  have HS1 := hide hs1
  have HS2 := hide hs2
  have HS3 := hide hs3
  clear hg hd hC hBN hw1 hw2 hw3 hw4 hc1 hc2 hc3 hc4 hk1 hk3 hk4 hs1 hs2 hs3 hm2 hb1
  refine (callsIn_wide (n := 9)).1 ?_
  refine callsIn_of_wp_marks Tryd.func51 rfl trivial ?_ rfl
  simp only [Tryd.ntmps51, List.size_toArray, List.length_cons, List.length_nil, Nat.reduceAdd, Nat.reduceSub, Array.replicate_succ, Array.replicate_zero, List.push_toArray, List.append_toArray, List.nil_append, List.cons_append]
  gi_wp2_with (first | rw [HW1.out] | rw [HW2.out] | rw [HW3.out] | rw [HW4.out] | rw [HS1.out])
  rw [HS2.out, HS3.out]
  refine ⟨trivial, ?_⟩
  gi_at_call 50
  refine (callsIn_wide.2 (HCM.out w4 HC4.out)).mono ?_
  rintro e w5 ⟨ao5, cap5, rfl, ho5, hb5⟩
  have hsz4 : w4.heap.size = w.heap.size + 4 := HS.out.2.2.2
  have hbk := slices_Backward w5 (.slice ao5 C.length cap5) C (by omega) ho5
  have HBK := hide hbk
  have HO5 := hide ho5
  have HB5 := hide hb5
  clear q0 hbk ho5 hb5
  gi_wp2_with fail
  refine ⟨trivial, ?_⟩
  gi_at_call 84
  refine (callsIn_wide.2 HBK.out).mono ?_
  rintro e w6 ⟨rfl, hs6, hz6, hc6⟩
  have hc46 : Chg (fun _ => False) w4 w6 := (Chg.of_below0 (S := fun _ => False) HB5.out).trans hc6 (fun _ _ h => h) (fun _ _ h => h)
  have hz56 := HB5.out.size
  have HSQ := hide hs6
  have HC46 := hide hc46
  have HOL := hide (fun k hk => ownsRow_lt HO5.out k hk)
  have hB : w.heap.size + 3 < w6.heap.size := by omega
  have hz46 : w4.heap.size ≤ w5.heap.size := hz56
  clear hs6 hc6 hc46 hz56
  gi_wp2_with fail
  refine wpIn_range_D (α := Int × Nat) rfl (by omega) (gf := 109) (lb := #[.pointer (some ⟨w5.heap.size, 0, none⟩)]) rfl trivial (enters_of Tryd.func109 (by kernel_rfl) rfl)
    HSQ.out (Kpt.refl _ _) (fun k hk => by
      rcases hk with rfl | hk
      · omega
      · have := (HOL.out k hk).2; omega) (fun _ => rfl)
    (fun D pre Wr => ∃ ao cap L m f, BsSt w (.pointer av) w6.heap.size D ao cap L m f Wr ∧ m ≤ 100 * pre.length ∧ BsEq cs C (pre.map Prod.fst) L f)
    (fun _ _ _ _ => False) ?hI ?hIx ?h0
    (fun x a' _ => ∃ u0 u1 u2 u4 u5 u6 u9 u11 u12 u13 u14 u15 u16 u17 u18 u19 u20 u21 u22 u23 u24 u25 u26 u27 u28 u29 u30 u31 u32 u33 u34 u35, a' = { tmps := #[u0, u1, u2, .pointer (some ⟨w.heap.size, 0, none⟩), u4, u5, u6, .pointer (some ⟨w.heap.size + 2, 0, none⟩), .pointer (some ⟨w.heap.size + 3, 0, none⟩), u9, .int .i64 x.1, u11, u12, u13, u14, u15, u16, u17, u18, u19, u20, u21, u22, u23, u24, u25, u26, u27, u28, u29, u30, u31, u32, u33, u34, u35], defers := [] })
    (fun _ _ _ _ h _ _ => h) ?assign ?body ?done ?stop
  case hI =>
    rintro D s A A' S ⟨ao, cap, L, m, f, h, hml, hq⟩ hc hS
    have hb1 := h.big
    refine ⟨ao, cap, L, m, f, h.turn hc hB (fun k hk h1 => ?_) (fun k hk => ?_) (fun k hk => ?_), hml, hq⟩
    · rcases hS k (by omega) h1 with h2 | h2
      · have := (h.far k h2).1; omega
      · omega
    · have h3 := h.own k hk
      have h4 := (ownsRow_lt h.row k hk).2
      refine ⟨fun h1 => ?_, fun h1 => ?_⟩
      · rcases hS k h4 h1 with h2 | h2
        · exact h3.1 h2
        · exact NonC.not_owns h.row hk h2.2
      · rcases h1 with h2 | h2
        · exact h3.1 h2
        · omega
    · have := hc.size
      rcases hk with h2 | h2
      · have := h.far k h2; omega
      · omega
  case hIx => exact fun _ _ _ _ _ _ h _ _ => h.elim
  case h0 =>
    intro W' hc' hz'
    obtain ⟨k0, k2, k3, km⟩ := HK.out
    have hcw := HC46.out.trans hc' (S'' := fun _ => False) (fun _ _ h => h) (fun _ _ h => h)
    refine ⟨none, 0, [], 0, fun _ => false, ?_, Nat.zero_le _, _, rfl, rfl⟩
    exact ⟨hcw.heap k0 (fun h => h), hcw.heap k2 (fun h => h), hcw.heap k3 (fun h => h), km.chg hcw (fun h => h), World.ownsRow_nil _ _ _ _, (fun _ h => by cases h), (HC4.out.trans hcw (S'' := fun _ => False) (fun _ _ h => h) (fun _ _ h => h)).below (Nat.le_refl _) (fun _ _ h => h), (fun _ h => h.elim), by omega⟩
  case assign =>
    rintro lr D pre x W1 K hi hpre hsz hK
    unfold bwE
    gi_wp2
    exact hK _ _ (Kpt.refl _ _) hi ⟨_, _, _, _, _, _, _, _, _, _, _, _, _, _, _, _, _, _, _, _, _, _, _, _, _, _, _, _, _, _, _, _, rfl⟩
  case body =>
    rintro lr D pre x a' W1 hlr ⟨r, hr⟩ hnc ⟨ao, cap, L, m, f, hst, hml, hq⟩ ⟨u0, u1, u2, u4, u5, u6, u9, u11, u12, u13, u14, u15, u16, u17, u18, u19, u20, u21, u22, u23, u24, u25, u26, u27, u28, u29, u30, u31, u32, u33, u34, u35, rfl⟩ hpre hnd hnd1
    obtain ⟨y, q⟩ := x
    obtain ⟨rest, hrest, heq⟩ := hq
    have hpm : pre.map Prod.fst ++ [y] <+: C.reverse := by
      rw [← bwL_fst]
      have := List.IsPrefix.map Prod.fst hpre
      simpa using this
    obtain ⟨rest', hr1⟩ : ∃ rest', rest = y :: rest' := by
      obtain ⟨t, ht⟩ := hpm
      rw [← hrest, List.append_assoc] at ht
      exact ⟨t, (List.append_cancel_left ht).symm⟩
    subst hr1
    have hyC : y ∈ C := by have := hpm.subset (show y ∈ pre.map Prod.fst ++ [y] by simp); simpa using this
    obtain ⟨hyi, hyw⟩ := HWF.out y hyC
    have hpl : pre.length < 61 := by
      have h1 := hpre.length_le
      rw [bwL_length] at h1
      simp at h1; omega
    have hrest2 : (pre ++ [(y, q)]).map Prod.fst ++ rest' = C.reverse := by rw [← hrest]; simp
    have hlk := hst.mp.get y hyw
    have c0 := cell_of_heap hst.bc 0
    cases hfy : f y with
    | true =>
      rw [hfy] at hlk
      have heq2 : L ++ bestF cs rest' f = bestF cs C.reverse (fun _ => false) := by
        rw [← heq]
        conv => rhs; rw [bestF, if_pos hfy]
      have HST := hide hst
      have HEQ : Hid (BsEq cs C ((pre ++ [(y, q)]).map Prod.fst) L f) := hide ⟨rest', hrest2, heq2⟩
      clear hst hfy heq heq2 hrest hrest2 hpm hyC hyi hyw hr hnc hpre hnd hnd1
      gi_wp2_with fail
      exact ⟨Kpt.refl _ _, ao, cap, L, m, f, HST.out, by rw [List.length_append]; omega, HEQ.out⟩
    | false =>
      rw [hfy] at hlk
      have hbf : bestF cs (y :: rest') f = y :: bestF cs rest' (fun z => f z || (aheadN cs y).contains z) := by
        conv => lhs; rw [bestF, hfy, if_neg (by decide)]
      rw [hbf] at heq
      have HEQ : Hid (BsEq cs C ((pre ++ [(y, q)]).map Prod.fst) (L ++ [y]) (fun z => f z || (aheadN cs y).contains z)) := hide ⟨rest', hrest2, by rw [← heq, List.append_assoc]; rfl⟩
      have hLl : L.length ≤ 60 := by
        have := congrArg List.length heq
        have h2 := bestF_len cs C.reverse (fun _ => false)
        rw [List.length_append] at this
        rw [List.length_reverse] at h2
        omega
      have c1 := cell_of_heap hst.bl 0
      have HST := hide hst
      have HR := hide hr
      have HND := hide (And.intro hnd hnd1)
      have HYI := hide hyi
      clear hst hfy heq hrest hrest2 hpm hyC hyi hyw hr hnc hpre hnd hnd1 hbf
      gi_wp2_with (gi_at_builtin; refine wpi_append rfl (.tmp 23) (.tmp 25) _ rfl int_slT w.heap.size ((Chg.alloc (fun _ => False) W1 _).owns HST.out.row (fun _ _ h => h)) (Rd_lit W1 #[.int .i64 y] 3 1) rfl rfl rfl (fun u hu => by rw [List.mem_singleton.1 hu]; rfl) (by unfold maxLen; omega) (by omega) (by have := HST.out.bel.size; simp; omega) ?_; intro ao1 cap1 w1 hown hg hat hnil; have hg' := (Chg.alloc (fun _ => False) W1 _).trans hg (S'' := fun k => (Value.slice ao L.length cap).ownBlock = some k) (fun _ _ h => h.elim) (fun _ _ h => h); have hb1 := hg'.heap HST.out.bl (fun e => (by have := (HST.out.own _ e).2; omega)); have hb0 := hg'.heap HST.out.rb (fun e => (by have := (HST.out.own _ e).2; omega)); have hcb := cell_of_heap hb1 0; have hc0 := cell_of_heap hb0 0; have hfb := free_of_heap hb1 0; have HO1 := hide hown; have HG1 := hide hg'; have HA1 : Hid (∀ k, (Value.slice ao1 (L.length + 1) cap1).ownBlock = some k → (Value.slice ao L.length cap).ownBlock = some k ∨ W1.heap.size ≤ k) := (fun k hk => (hat_of hat k hk).imp id (fun h => (by simp at h; omega))); clear hown hg hat hnil hg' hb1 hb0 c0 c1)
      have happ := HST.out.app hB HG1.out HO1.out HA1.out
      clear hcb hc0 hfb
      generalize w1.setCell ⟨w.heap.size + 3, 0, none⟩ (.slice ao1 (L.length + 1) cap1) = W2 at happ ⊢
      obtain ⟨hst2, hc12⟩ := happ
      refine ⟨trivial, ?_⟩
      gi_at_call 40
      refine (CallsIn.inRound _ (callsIn_wide.2 (dag_Ahead_0 W2 ⟨_, rfl⟩ (HGR.out.later (Kpt.of_chg (Chg.of_below0 (S := fun _ => False) hst2.bel) (fun _ _ _ h => h))) y HYI.out HD.out))).mono ?_
      rintro e W3 ⟨rfl, hs3, hz3, hb3⟩
      have hc23 := Chg.of_below0 (S := fun _ => False) hb3
      have hst3 := hst2.same hc23 hB
      have hc13 : Chg (fun k => (Value.slice ao L.length cap).ownBlock = some k ∨ k = w.heap.size + 3) W1 W3 := hc12.trans hc23 (fun _ _ h => h) (fun _ _ h => h.elim)
      have hl0 : W3.heap[lr]? = some (.loop r) := hc13.heap HR.out (fun e => by
        rcases e with e | e
        · have := (HST.out.own _ e).2; omega
        · have e' : lr = w.heap.size + 3 := e; omega)
      have hwfA : ∀ x ∈ aheadN cs y, (Lit.int .i64 x).wf = true := fun x hx => by
        have := ahead_range hx
        exact WalkArith.wf_i64 (by omega)
      have hAl := aheadN_length cs y
      obtain ⟨A, hA⟩ : ∃ A, A = aheadN cs y := ⟨_, rfl⟩
      rw [← hA] at hs3 hwfA hAl HEQ
      have HWA := hide hwfA
      have HS3' := hide hs3
      have HST3 := hide hst3
      have HC13 := hide hc13
      have HL0 := hide hl0
      have hbig3 := hst3.big
      have hR0l := HGR.out.1
      have HRL : Hid (∀ k, (k = W2.heap.size ∨ k = W2.heap.size + 1 ∨ R0 k) → k < W3.heap.size ∧ k ≠ w.heap.size + 1) := hide (fun k hk => by
        have h1 := hst2.big
        have h2 := HST.out.bel.size
        have h3 := hst2.bel.size
        rcases hk with rfl | rfl | hk
        · omega
        · omega
        · have := hR0l k hk; omega)
      clear hs3 hb3 hc23 hst3 hc13 hl0 hwfA hA hst2 hc12 hR0l
      gi_wp2_with fail
      refine wpIn_range_DN (α := Int) (l0 := lr) rfl HL0.out (by omega) (gf := 69) (lb := #[.pointer (some ⟨W2.heap.size, 0, none⟩), .pointer (some ⟨W2.heap.size + 1, 0, none⟩)]) rfl trivial (enters_of Tryd.func69 (by kernel_rfl) rfl)
        (SeqD.inRound _ (SeqD.any 6 HS3'.out)) (Kpt.refl _ _) (fun k hk => (HRL.out k hk).1) (fun _ => rfl)
        (fun D' pre' Wr => BsSt w (.pointer av) w6.heap.size D ao1 cap1 (L ++ [y]) (m + pre'.length) (fun z => f z || pre'.contains z) Wr ∧ Chg (fun k => k = w.heap.size + 1) W3 Wr ∧ (∀ k, D' k → W3.heap.size + 1 ≤ k ∧ k < Wr.heap.size) ∧ W3.heap.size + 1 ≤ Wr.heap.size)
        (fun _ _ _ _ => False) ?nI ?nIx ?n0
        (fun x a' _ => ∃ u0 u1 u2 u4 u5 u6 u9 u10 u12 u13 u14 u15 u16 u17 u18 u19 u20 u21 u22 u23 u24 u25 u26 u27 u28 u29 u30 u31 u32 u33 u34 u35, a' = { tmps := #[u0, u1, u2, .pointer (some ⟨w.heap.size, 0, none⟩), u4, u5, u6, .pointer (some ⟨w.heap.size + 2, 0, none⟩), .pointer (some ⟨w.heap.size + 3, 0, none⟩), u9, u10, .int .i64 x, u12, u13, u14, u15, u16, u17, u18, u19, u20, u21, u22, u23, u24, u25, u26, u27, u28, u29, u30, u31, u32, u33, u34, u35], defers := [] })
        (fun _ _ _ _ h _ _ => h) ?nassign ?nbody ?ndone ?nstop
      case nI =>
        rintro D' s X X' S ⟨h, hc, hd, hz⟩ hcc hS
        have hno : ∀ k, k < W3.heap.size → ¬ S k := fun k hk h1 => by
          rcases hS k (by omega) h1 with h2 | h2
          · have := (hd k h2).1; omega
          · omega
        refine ⟨h.turn hcc hB (fun k hk => hno k (by omega)) (fun k hk => ⟨?_, (h.own k hk).1⟩) (fun k hk => ⟨(h.far k hk).1, Nat.lt_of_lt_of_le (h.far k hk).2 hcc.size⟩), hc.trans hcc (fun _ _ h => h) (fun k hk h1 => absurd h1 (hno k hk)), fun k hk => ?_, Nat.le_trans hz hcc.size⟩
        · exact hno k (by have := (ownsRow_lt HST3.out.row k hk).2; exact this)
        · have := hcc.size
          rcases hk with h1 | h1
          · have := hd k h1; omega
          · omega
      case nIx => exact fun _ _ _ _ _ _ h _ _ => h.elim
      case n0 =>
        intro W' hc' hz'
        refine ⟨?_, hc'.mono (fun _ _ h => h.elim), fun _ h => h.elim, by omega⟩
        have h1 := HST3.out.same hc' hB
        exact ⟨h1.rb, h1.bc, h1.bl, (h1.mp.mono (Nat.le_refl _)).congr (fun x => by simp), h1.row, h1.own, h1.bel, h1.far, h1.big⟩
      case nassign =>
        rintro ln D' pre' x X K hi hpre hsz hK
        gi_wp2
        exact hK _ _ (Kpt.refl _ _) hi ⟨_, _, _, _, _, _, _, _, _, _, _, _, _, _, _, _, _, _, _, _, _, _, _, _, _, _, _, _, _, _, _, _, rfl⟩
      case nbody =>
        rintro ln D' pre' x a' X hln ⟨rn, hrn⟩ ⟨h, hc, hd, hz⟩ ⟨u0, u1, u2, u4, u5, u6, u9, u10, u12, u13, u14, u15, u16, u17, u18, u19, u20, u21, u22, u23, u24, u25, u26, u27, u28, u29, u30, u31, u32, u33, u34, u35, rfl⟩ hpre hnd'
        have hplen : pre'.length < 61 := by have := hpre.length_le; simp at this; omega
        obtain ⟨X', hrun, hm', hcx⟩ := h.mp.put (by omega) x (HWA.out x (hpre.subset (by simp)))
        have c0 := cell_of_heap h.bc 0
        have H := hide h
        have HC := hide hc
        have HD' := hide hd
        have HM' := hide hm'
        have HCX := hide hcx
        have HZ := hide hz
        clear h hc hd hz hrn hpre hnd' hm' hcx
        gi_wp2_with fail
        refine ⟨Kpt.of_chg HCX.out (fun k _ hk e => ?_), ?_, HC.out.trans HCX.out (fun _ _ h => h) (fun _ _ h => h), fun k hk => ⟨(HD'.out k hk).1, Nat.lt_of_lt_of_le (HD'.out k hk).2 HCX.out.size⟩, Nat.le_trans HZ.out HCX.out.size⟩
        · have e' : k = w.heap.size + 1 := e
          have hz1 : w.heap.size + 1 < W3.heap.size := by omega
          rcases hk with h1 | h1 | h1
          · exact (HRL.out k h1).2 e'
          · have := (HD'.out k h1).1; omega
          · omega
        · refine H.out.mput HCX.out hB ((HM'.out.mono (by rw [List.length_append]; simp; omega)).congr (fun z => ?_))
          rw [List.contains_append, Bool.or_assoc]
          simp only [List.contains_cons, List.contains_nil, Bool.or_false]
          rw [Bool.beq_comm]
      case ndone =>
        rintro D' X ⟨h, hc, hd, hz⟩ hnd'
        have H := hide h
        have HC := hide hc
        clear h hc hd hz hnd'
        gi_wp2_with fail
        refine ⟨?_, ao1, cap1, L ++ [y], _, _, H.out, by rw [List.length_append]; simp; omega, HEQ.out⟩
        have hcc := HC13.out.trans HC.out (S'' := fun k => (Value.slice ao L.length cap).ownBlock = some k ∨ k = w.heap.size + 3 ∨ k = w.heap.size + 1) (fun _ _ h => h.imp id .inl) (fun _ _ h => .inr (.inr h))
        refine Kpt.of_chg hcc (fun k _ hk e => ?_)
        have hown : (Value.slice ao L.length cap).ownBlock = some k → ¬ D k ∧ w6.heap.size + 2 ≤ k := HST.out.own k
        have e2 : ((Value.slice ao L.length cap).ownBlock = some k) ∨ k < w.heap.size + 4 := by
          rcases e with e | e | e
          · exact .inl e
          · exact .inr (by omega)
          · exact .inr (by omega)
        rcases hk with (h1 | h1) | h1 | h1 | h1
        · rcases e2 with e | e
          · have := (hown e).2; omega
          · omega
        · have := HOL.out k h1
          rcases e2 with e | e
          · have := (hown e).2; omega
          · omega
        · rcases e2 with e | e
          · exact (hown e).1 h1
          · have := (HST.out.far k h1).1; omega
        · rcases e2 with e | e
          · have := (hown e).2; omega
          · omega
        · rcases e2 with e | e
          · have := (hown e).2; omega
          · omega
      case nstop => exact fun _ _ _ _ _ h => h.elim
  case done =>
    rintro D Wd ⟨ao, cap, L, m, f, hst, hml, hq⟩ hdef hnd
    rw [bwL_fst] at hq
    obtain ⟨rest, hrest, heq⟩ := hq
    have hr0 : rest = [] := by
      have := congrArg List.length hrest
      rw [List.length_append] at this
      exact List.eq_nil_of_length_eq_zero (by omega)
    rw [hr0] at heq
    have hL : L = bestF cs C.reverse (fun _ => false) := by rw [← heq]; simp [bestF]
    have hLl : L.length ≤ 60 := by
      have h2 := bestF_len cs C.reverse (fun _ => false)
      rw [List.length_reverse, ← hL] at h2
      omega
    have HLB : Hid (BN = L.reverse) := hide (by rw [HBN.out, hL])
    have c1 := cell_of_heap hst.bl 0
    have HRV := hide (reverse_ok Wd _ L hst.row (by omega))
    have HST := hide hst
    have HDF := hide hdef
    clear hst hrest heq hr0 hL hdef hnd rest
    gi_wp2_with fail
    refine ⟨trivial, ?_⟩
    gi_at_call 83
    refine (callsIn_wide.2 HRV.out).mono ?_
    rintro e W7 ⟨⟨u, rfl⟩, ho7, hc7⟩
    have hbl7 := hc7.heap HST.out.bl (fun e => by have := (HST.out.own _ e).2; omega)
    have c7 := cell_of_heap hbl7 0
    have hdf7 := hc7.heap HDF.out (fun e => by have := (HST.out.own _ e).2; omega)
    have HO7 := hide ho7
    have HC7 := hide hc7
    have HDF7 := hide hdf7
    clear ho7 hc7 hbl7 hdf7 c1
    gi_wp2_with fail
    rw [← hz6]
    have hp := chg_putObj W7 w6.heap.size (.deferred none)
    refine ⟨by simp, .inl ⟨_, _, rfl, run_takeDeferred HDF7.out, ?_⟩⟩
    refine ⟨_, results_tmp rfl _ _ _, ao, cap, ?_, ?_, ?_⟩
    · rw [HLB.out, List.length_reverse]; rfl
    · rw [HLB.out, List.length_reverse]
      exact hp.owns HO7.out (fun k hk e => by have := (HST.out.own k hk).2; omega)
    · exact (HST.out.bel.trans (HC7.out.below HST.out.bel.size (fun k hk e => by have := (HST.out.own k e).2; omega))).trans (hp.below (by have := HST.out.bel.size; have := HC7.out.size; omega) (fun k hk e => by omega))
  case stop => exact fun _ _ _ _ _ h => h.elim
end Go.Proofs.YtnnkbicaokckbaaDoor
