/- dag.Parents: what it gives, what it promises. Conditions: none. -/
import Derived.Test.YtnnkbicaokckbaaDoorDgS
import Derived.Test.YtnnkbicaokckbaaDoorDgL
import Derived.Test.YtnnkbicaokckbaaDoorSeqC
namespace Go.Proofs.YtnnkbicaokckbaaDoor
open Go.RowKit Go.Shelf
attribute [local go_sem] Oper.semAt_some

def inN (cs : List Cm) (n : Int) : Bool := decide (1 ≤ n) && decide (n ≤ (cs.length : Int))
def cmN (cs : List Cm) (n : Int) : Cm := if 1 ≤ n ∧ n ≤ (cs.length : Int) then cs.getD (n.toNat - 1) cm0 else cm0
theorem parN_eq (cs : List Cm) (n : Int) : parN cs n = (cmN cs n).parents := by
  unfold parN cmN
  split <;> rfl
theorem inN_iff {cs : List Cm} {n : Int} : inN cs n = true ↔ 1 ≤ n ∧ n ≤ (cs.length : Int) := by simp [inN]
def I64 (n : Int) : Prop := -9223372036854775808 ≤ n ∧ n ≤ 9223372036854775807
/-- v is a repo (or none) of the commits cs, that is read in the blocks R0. -/
def GetsR (R0 : Nat → Prop) (w : World) (v : Value) (cs : List Cm) : Prop :=
  (∀ k, R0 k → k < w.heap.size) ∧ ∀ (Wx : World) (n : Int), Kpt R0 w Wx → I64 n → Calls Tryd.prog 25 #[v, .int .i64 n] Wx fun e w' =>
    ∃ vp vt, e = .returned (.tuple #[CmV.val ⟨cmN cs n, vp, vt⟩, .bool (inN cs n)]) ∧ Own w' Wx.heap.size ⟨cmN cs n, vp, vt⟩ ∧ Below Wx.heap.size Wx w'
def Gets (w : World) (v : Value) (cs : List Cm) : Prop := (∃ a, v = .pointer a) ∧ ∃ R0, GetsR R0 w v cs
theorem GetsR.later {R0 : Nat → Prop} {w w' : World} {v : Value} {cs : List Cm} (h : GetsR R0 w v cs) (k : Kpt R0 w w') : GetsR R0 w' v cs :=
  ⟨fun b hb => Nat.lt_of_lt_of_le (h.1 b hb) k.1, fun Wx n hk hn => h.2 Wx n (k.trans hk) hn⟩
theorem Gets.chg {w w' : World} {v : Value} {cs : List Cm} (h : Gets w v cs) (c : Chg (fun _ => False) w w') : Gets w' v cs := by
  obtain ⟨h1, R0, h2⟩ := h
  exact ⟨h1, R0, h2.later (Kpt.of_chg c (fun _ _ _ h => h))⟩
theorem cv0_own (w : World) (base : Nat) : Own w base cv0 := ⟨World.ownsRow_nil _ _ _ _, World.ownsRow_nil _ _ _ _⟩
theorem Gets.none (w : World) : Gets w (.pointer none) [] := by
  refine ⟨⟨_, rfl⟩, fun _ => False, fun _ h => h.elim, fun Wx n _ _ => ?_⟩
  have e : cmN [] n = cm0 := by unfold cmN; split <;> rfl
  have e2 : inN [] n = false := by unfold inN; simp; omega
  rw [e, e2]
  refine (repo_Get_nil Wx n).mono ?_
  rintro e w' ⟨rfl, hb⟩
  exact ⟨_, _, rfl, cv0_own _ _, hb⟩
theorem Kpt.repo {base : Nat} {w Wx : World} {p : Nat} {ao : Option Addr} {cap : Nat} {l : List CmV} {room : Int} (h : RepoAt base w p ao cap l room) (hk : Kpt (RB p ao l) w Wx) : RepoAt base Wx p ao cap l room := by
  have hown : ∀ (e : TypeId) (size : Nat) (v : Value) (n : Nat) (xs : List Value), w.ownsRow base e size v n xs → (∀ b, v.ownBlock = some b → RB p ao l b) → Wx.ownsRow base e size v n xs := by
    intro e size v n xs ho hr
    refine ⟨ho.1, ?_⟩
    rcases ho.2 with hn | ⟨gg, cap', cur, e1, hb, hgg, rest⟩
    · exact .inl hn
    · exact .inr ⟨gg, cap', cur, e1, hb, hk.heap hgg (hr gg (by rw [e1]; rfl)), rest⟩
  exact ⟨hk.heap h.box (.inl (.inl rfl)), hown _ _ _ _ _ h.row (fun b hb => .inl (.inr (by rw [← own_slice]; exact hb))), fun x hx => ⟨hown _ _ _ _ _ (h.cms x hx).ps (fun b hb => .inr ⟨x, hx, .inl hb⟩), hown _ _ _ _ _ (h.cms x hx).ts (fun b hb => .inr ⟨x, hx, .inr hb⟩)⟩, h.may, h.pb, h.len, h.room0⟩
theorem RepoIs.gets {base : Nat} {w : World} {p : Nat} {cs : List Cm} {room : Int} (h : RepoIs base w p cs room) : Gets w (.pointer (some ⟨p, 0, none⟩)) cs := by
  obtain ⟨ao, cap, l, h, rfl⟩ := h
  refine ⟨⟨_, rfl⟩, RB p ao l, fun k hk => (h.rbl hk).2, fun Wx n hk hn => ?_⟩
  have h' := Kpt.repo h hk
  have hll := cms_length l
  by_cases hr : 1 ≤ n ∧ n ≤ ((cms l).length : Int)
  · have hk2 : n.toNat - 1 < l.length := by omega
    have e1 : cmN (cms l) n = l[n.toNat - 1].c := by
      rw [cmN, if_pos hr]
      simp [cms, List.getD_eq_getElem?_getD, hk2]
    have e2 : inN (cms l) n = true := inN_iff.2 hr
    rw [e1, e2]
    refine (repo_Get h' n (n.toNat - 1) hk2 (by omega)).mono ?_
    rintro e w' ⟨vp, vt, rfl, ho, hb⟩
    exact ⟨vp, vt, rfl, ho, hb⟩
  · have e1 : cmN (cms l) n = cm0 := by rw [cmN, if_neg hr]
    have e2 : inN (cms l) n = false := by rw [← Bool.not_eq_true, inN_iff]; exact hr
    rw [e1, e2]
    refine (repo_Get_no h' n (by omega) hn).mono ?_
    rintro e w' ⟨rfl, hb⟩
    exact ⟨_, _, rfl, cv0_own _ _, hb⟩
theorem val_eq (x : CmV) : x.val = .agg #[x.vp, x.vt, .string x.c.note] := rfl

set_option maxRecDepth 100000 in
set_option maxHeartbeats 4000000 in
theorem parents_seqd (w : World) (b1 b2 : Nat) {R0 : Nat → Prop} {v : Value} {cs : List Cm} (hg : GetsR R0 w v cs) (hv : ∃ a, v = .pointer a) (n : Int) (hn : I64 n) (hfew : (parN cs n).length ≤ 1000)
    (h1 : w.cell? ⟨b1, 0, none⟩ = some v) (h2 : w.cell? ⟨b2, 0, none⟩ = some (.int .i64 n)) :
    SeqD Fence.wide 8 Tryd.prog 68 #[.pointer (some ⟨b1, 0, none⟩), .pointer (some ⟨b2, 0, none⟩)] (fun x : Int => #[.int .i64 x]) (fun k => k = b1 ∨ k = b2 ∨ R0 k) (parN cs n) w := by
  intro ll J Jx W hW hJ hJx hY h0
  have hB1 : W.cell? ⟨b1, 0, none⟩ = some v := (World.cell?_of_block (hW.2 b1 (World.block_lt_of_cell? w _ h1) (.inl rfl))).trans h1
  have hB2 : W.cell? ⟨b2, 0, none⟩ = some (.int .i64 n) := (World.cell?_of_block (hW.2 b2 (World.block_lt_of_cell? w _ h2) (.inr (.inl rfl)))).trans h2
  have hget := hg.2 W n (hW.mono (fun _ h => .inr (.inr h))) hn
  obtain ⟨c, hc⟩ : ∃ c, c = cmN cs n := ⟨_, rfl⟩
  have hpar : parN cs n = c.parents := by rw [parN_eq, hc]
  rw [← hc] at hget
  rw [hpar] at hfew hY ⊢
  obtain ⟨av, rfl⟩ := hv
  have HGET := hide hget
  have HJ := hide hJ
  have HY := hide hY
  have H0 := hide h0
  clear hget hc hpar hJ hJx hY h0 hW h1 h2 hg hn
  refine callsIn_of_wp Tryd.func68 rfl trivial ?_ rfl
  simp only [Tryd.ntmps68, List.size_toArray, List.length_cons, List.length_nil, Nat.reduceAdd, Nat.reduceSub, Array.replicate_succ, Array.replicate_zero, List.push_toArray, List.append_toArray, List.nil_append, List.cons_append]
  gi_wp2_with fail
  refine ⟨trivial, ?_⟩
  gi_at_call 25
  refine (callsIn_wide.2 HGET.out).mono ?_
  rintro e W3 ⟨vp, vt, rfl, hown3, hb3⟩
  have hps : W3.ownsRow _ _ _ vp c.parents.length _ := hown3.ps
  have hts : W3.ownsRow _ _ _ vt c.tree.length _ := hown3.ts
  obtain ⟨aop, cap1, rfl⟩ := ownsRow_shape hps
  obtain ⟨aot, cap2, rfl⟩ := ownsRow_shape hts
  have hc4 := (Chg.of_below0 (S := fun _ => False) hb3).trans (Chg.alloc (fun _ => False) W3 (.cells #[.slice aop c.parents.length cap1, .slice aot c.tree.length cap2, .string c.note] 33)) (S'' := fun _ => False) (fun _ _ h => h) (fun _ _ h => h)
  have hps4 := (Chg.alloc (fun _ => False) W3 (.cells #[.slice aop c.parents.length cap1, .slice aot c.tree.length cap2, .string c.note] 33)).owns hps (fun _ _ h => h)
  have hn4 := heap_alloc_new W3 (.cells #[.slice aop c.parents.length cap1, .slice aot c.tree.length cap2, .string c.note] 33)
  simp only [val_eq]
  generalize hw4 : W3.alloc (.cells #[.slice aop c.parents.length cap1, .slice aot c.tree.length cap2, .string c.note] 33) = W4 at hc4 hps4 hn4
  have HW4 := hide hw4
  have q0 := cell_of_heap hn4 0
  simp at q0
  have hj4 := HJ.out _ [] W W4 _ H0.out hc4 (fun _ _ h => h.elim)
  have HJ4 := hide hj4
  have HPS := hide hps4
  have HC4 := hide hc4
  have hsz4 : W.heap.size ≤ W4.heap.size := hc4.size
  clear hps hts hown3 hb3 hc4 hps4 hn4 hw4 hj4
  gi_wp2_with (rw [HW4.out])
  clear q0
  gi_loopw [17] (fun i wr => ∃ k : Nat, k ≤ c.parents.length ∧ i = .int .i64 k ∧ Hid (∃ D, J D (c.parents.take k) wr ∧ ∀ b, W.heap.size ≤ b → b < W4.heap.size → D b) ∧ Hid (Kpt (fun b => W.heap.size ≤ b ∧ b < W4.heap.size) W4 wr)) (fun i _ => c.parents.length - (intOf i).toNat)
  case atStart => exact ⟨0, Nat.zero_le _, rfl, ⟨_, HJ4.out, fun b h1 h2 => .inr ⟨h1, h2⟩⟩, Kpt.refl _ _⟩
  case round =>
    obtain ⟨k, hk, rfl, HJ, HK⟩ := hrel
    by_cases hlt : k < c.parents.length
    · obtain ⟨D, hj, hd⟩ := HJ.out
      have hpo : wr.ownsRow W.heap.size 3 1 (.slice aop c.parents.length cap1) c.parents.length (flat int_enc c.parents) := by
        refine ⟨HPS.out.1, ?_⟩
        rcases HPS.out.2 with hn | ⟨gg, cap', cur, e1, hb, hgg, rest⟩
        · exact .inl hn
        · exact .inr ⟨gg, cap', cur, e1, hb, HK.out.heap hgg ⟨hb, (Array.getElem?_eq_some_iff.1 hgg).1⟩, rest⟩
      obtain ⟨a', c', e, -, hcs0⟩ := (Rd.of_owns hpo).shape
      obtain ⟨b, off, rfl, hcs⟩ := hcs0 (by omega)
      cases e
      have hx : wr.cell? ⟨b, off + k, none⟩ = some (.int .i64 c.parents[k]) := hcs k (.int .i64 c.parents[k]) (by rw [flat_int, List.getElem?_map, List.getElem?_eq_getElem hlt]; rfl)
      have hpre : c.parents.take k ++ [c.parents[k]] <+: c.parents := by rw [← take_succ_get c.parents k hlt]; exact List.take_prefix _ _
      obtain ⟨fn, tmps, assign, body, hy, hR⟩ := HY.out D _ c.parents[k] wr hj hpre
      have HD := hide hd
      clear hcs hcs0 hj hpre hpo hd
      gi_wp2
      refine hR.mono ?_
      rintro e W5 (⟨rfl, hJ5, hk5⟩ | ⟨rfl, hJx5, -⟩)
      · have HJ5 := hide hJ5
        have HK5 := hide hk5
        clear hJ5 hk5
        gi_wp2
        go_roundw
        case rel => exact ⟨k + 1, by omega, by simp, ⟨D, by rw [take_succ_get c.parents k hlt]; exact HJ5.out, HD.out⟩, HK.out.trans (HK5.out.mono (fun b h => .inr (HD.out b h.1 h.2)))⟩
        case measure => simp [intOf]; omega
      · have HX5 := hide hJx5
        clear hJx5
        gi_wp2
        refine bodyPost_ret (results_none rfl _ _ _) rfl ?_
        exact ⟨⟨_, rfl⟩, .inr ⟨D, _, by rw [← take_succ_get c.parents k hlt]; exact List.take_prefix _ _, HX5.out⟩⟩
    · obtain rfl : k = c.parents.length := by omega
      gi_wp2
      go_end0
      obtain ⟨D, hj, -⟩ := HJ.out
      exact ⟨⟨_, rfl⟩, .inl ⟨D, by simpa using hj⟩⟩
/-- A function that boxes two and gives a closure of both. -/
theorem dag_Parents_0 (w : World) {v : Value} {cs : List Cm} {R0 : Nat → Prop} (hv : ∃ a, v = .pointer a) (hg : GetsR R0 w v cs) (n : Int) (hn : I64 n) (hfew : (parN cs n).length ≤ 1000) :
    Calls Tryd.prog 39 #[v, .int .i64 n] w fun e w' => e = .returned (.func (.func 68) #[] #[.pointer (some ⟨w.heap.size, 0, none⟩), .pointer (some ⟨w.heap.size + 1, 0, none⟩)]) ∧ SeqD Fence.wide 8 Tryd.prog 68 #[.pointer (some ⟨w.heap.size, 0, none⟩), .pointer (some ⟨w.heap.size + 1, 0, none⟩)] (fun x : Int => #[.int .i64 x]) (fun k => k = w.heap.size ∨ k = w.heap.size + 1 ∨ R0 k) (parN cs n) w' ∧ w'.heap.size = w.heap.size + 2 ∧ Below w.heap.size w w' := by
  obtain ⟨a, rfl⟩ := hv
  have hb := (Below.refl w.heap.size w).alloc (Nat.le_refl _) (.cells #[.pointer a] 25)
  have h1 := heap_alloc_new w (.cells #[.pointer a] 25)
  have hs : (w.alloc (.cells #[.pointer a] 25)).heap.size = w.heap.size + 1 := World.size_alloc _ _
  generalize hw1 : w.alloc (.cells #[.pointer a] 25) = w1 at hb h1 hs
  have HW1 := hide hw1
  have hb2 := hb.alloc hb.size (.cells #[.int .i64 n] 3)
  have h2 := (Chg.alloc (fun _ => False) w1 (.cells #[.int .i64 n] 3)).heap h1 (fun h => h)
  have h3 := heap_alloc_new w1 (.cells #[.int .i64 n] 3)
  rw [hs] at h3
  have hs2 : (w1.alloc (.cells #[.int .i64 n] 3)).heap.size = w.heap.size + 2 := by rw [World.size_alloc, hs]
  generalize hw2 : w1.alloc (.cells #[.int .i64 n] 3) = w2 at hb2 h2 h3 hs2
  have HW2 := hide hw2
  have hg2 := hg.later (Kpt.of_chg (Chg.of_below0 (S := fun _ => False) hb2) (fun _ _ _ h => h))
  have HT := hide (show SeqD Fence.wide 8 Tryd.prog 68 #[.pointer (some ⟨w.heap.size, 0, none⟩), .pointer (some ⟨w.heap.size + 1, 0, none⟩)] (fun x : Int => #[.int .i64 x]) (fun k => k = w.heap.size ∨ k = w.heap.size + 1 ∨ R0 k) (parN cs n) w2 from parents_seqd w2 _ _ hg2 ⟨_, rfl⟩ n hn hfew (cell_of_heap h2 0) (cell_of_heap h3 0))
  have HB := hide hb2
  have HS := hide hs
  have HS2 := hide hs2
  clear hg hb h1 hs hb2 h2 h3 hg2 hw1 hw2 hs2
  go_enter Tryd.func39, Tryd.ntmps39
  go_wp2_with (first | rw [HW1.out] | rw [HW2.out])
  go_ret
  exact ⟨by rw [HS.out]; rfl, HT.out, HS2.out, HB.out⟩
theorem dag_Parents (w : World) {v : Value} {cs : List Cm} (hg : Gets w v cs) (n : Int) (hn : I64 n) (hfew : (parN cs n).length ≤ 1000) :
    Calls Tryd.prog 39 #[v, .int .i64 n] w fun e w' => ∃ g, e = .returned g ∧ TellsI (parN cs n) g w' ∧ Below w.heap.size w w' := by
  obtain ⟨hv, R0, hg⟩ := hg
  refine (dag_Parents_0 w hv hg n hn hfew).mono ?_
  rintro e w' ⟨rfl, hs, hz, hb⟩
  exact ⟨_, rfl, ⟨_, _, _, rfl, enters_of Tryd.func68 (by kernel_rfl) rfl, hs, fun k hk => by rcases hk with rfl | rfl | hk; (· omega); (· omega); (· have := hg.1 k hk; omega)⟩, hb⟩
end Go.Proofs.YtnnkbicaokckbaaDoor
