/- Statements on lanes: what they all use: awake. Conditions: none. -/
import Derived.Test.YtjgcicpclojfgaaLaneT
import Derived.Test.YtjgcicpclojfgaaDec
namespace Go.Proofs.Ytjgcicpclojfgaa
open Go.RowKit Go.Shelf

theorem LGrew.at {base : Nat} {w w' : World} {lp : Nat} {pend lanes : Int} {aa : Option Addr} {p : Nat} {ao : Option Addr} {all wt : List En} (h : LGrew base w lp pend lanes aa p ao all wt w') (hn : base ≤ w.heap.size) (hl : ∀ k, LSet lp aa p ao k → base ≤ k) :
    ∃ aa' acap' p' ao' cap', LaneAt base w' lp pend lanes aa' acap' all p' ao' cap' wt ∧ Below base w w' := by
  obtain ⟨aa', acap', p', ao', cap', h1, h2, h3⟩ := h
  exact ⟨aa', acap', p', ao', cap', h1, h2.below hn (fun k hk e => by have := hl k e; omega)⟩

set_option maxRecDepth 100000 in
set_option maxHeartbeats 4000000 in
theorem awake20 (w : World) : Calls Try.prog 38 #[] w fun e w' => e = .returned (.bool true) ∧ Below w.heap.size w w' := by
  go_enter Try.func38, Try.ntmps38
  go_wp2_with fail
  refine (lane_New w 3 2 (by omega) (by omega) (by omega) (by omega)).mono ?_
  rintro e w1 ⟨lp, p, rfl, h1, hb1⟩
  have H1 := hide h1
  have HB1 := hide hb1
  clear h1 hb1
  go_wp2_with fail
  refine (lane_Add w1 5 1 H1.out (by omega) (by simp) (by omega) (by simp)).mono ?_
  rintro e w2 ⟨rfl, hg⟩
  obtain ⟨aa2, acap2, p2, ao2, cap2, h2, hb2⟩ := hg.at HB1.out.size (fun k hk => (H1.out.lt k hk).1)
  have H2 := hide h2
  have HB2 := hide (HB1.out.trans hb2)
  clear h2 hb2 hg
  go_wp2_with fail
  refine (lane_Add w2 6 0 H2.out (by omega) (by simp [ins]) (by omega) (by simp)).mono ?_
  rintro e w3 ⟨rfl, hg⟩
  obtain ⟨aa3, acap3, p3, ao3, cap3, h3, hb3⟩ := hg.at HB2.out.size (fun k hk => (H2.out.lt k hk).1)
  have H3 : Hid (LaneAt w.heap.size w3 lp 3 2 aa3 acap3 [⟨1, 5, 1, 7⟩, ⟨2, 6, 0, 7⟩] p3 ao3 cap3 [⟨2, 6, 0, 7⟩, ⟨1, 5, 1, 7⟩]) := h3
  have HB3 := hide (HB2.out.trans hb3)
  clear h3 hb3 hg
  go_wp2_with fail
  refine (lane_pending_tells (fun _ => False) w3 H3.out (fun _ h => h.elim)).mono ?_
  rintro e w4 ⟨v, rfl, ht, hb4⟩
  have HT := hide ht
  have HB4 := hide hb4
  clear ht hb4
  go_wp2_with fail
  refine (entries_told w4 _ v HT.out (by simp) 9 (by omega)).mono ?_
  rintro e w5 ⟨ao5, cap5, rfl, ho5, hb5⟩
  have HO5 : Hid (w5.ownsRow w4.heap.size 71 4 (.slice ao5 2 cap5) 2 (flat pe_enc [⟨2, 6, 0, 7⟩, ⟨1, 5, 1, 7⟩])) := ho5
  have H5 := hide (H3.out.chg ((Chg.of_below0 (S := fun _ => False) HB4.out).trans (Chg.of_below0 hb5) (fun _ _ h => h) (fun _ _ h => h)) (fun _ _ h => h))
  have HB5 := hide hb5
  clear ho5 hb5
  obtain ⟨ao', cap', e0, -, hcs0⟩ := (Rd.of_owns HO5.out).shape
  obtain ⟨bb, off, e1, hcs⟩ := hcs0 (by omega)
  cases e0
  subst e1
  obtain ⟨hx0, hx1, hx2, hx3⟩ := pe_cells w5 bb off [⟨2, 6, 0, 7⟩, ⟨1, 5, 1, 7⟩] hcs 0 (by simp)
  simp only [Nat.zero_mul, Nat.add_zero, List.getElem_cons_zero] at hx0 hx1 hx2 hx3
  clear hcs hcs0
  have hq : ∀ w', Sem.run Try.prog (binOp BinOp.eql 71 (.agg #[.int .i64 2, .int .i64 6, .int .i64 0, .int .i64 7]) (.agg #[.int .i64 2, .int .i64 6, .int .i64 0, .int .i64 7])) w' = .ok (.bool true) w' := by intro w'; kernel_rfl
  go_wp2_with fail
  refine (lane_Waits w5 5 H5.out).mono ?_
  rintro e w6 ⟨rfl, hb6⟩
  have H6 := hide (H5.out.chg (Chg.of_below0 (S := fun _ => False) hb6) (fun _ _ h => h))
  have HB6 := hide hb6
  clear hb6
  go_wp2_with fail
  refine (lane_Len w6 H6.out).mono ?_
  rintro e w7 ⟨rfl, rfl⟩
  go_wp2_with fail
  refine (lane_New_0 w7).mono ?_
  rintro e w8 ⟨rfl, rfl⟩
  go_wp2_with fail
  go_ret
  have z3 := HB3.out.size
  have z4 := HB4.out.size
  have z5 := HB5.out.size
  exact ⟨rfl, ((HB3.out.trans (HB4.out.mono z3)).trans (HB5.out.mono (by omega))).trans (HB6.out.mono (by omega))⟩

/-- An act, as it stands in a row. -/
structure Ac where
  what : Int
  commit : Int
  lane : Int
  n : Int
  code : Int
def Ac.cells (a : Ac) : List Value := [.int .i64 a.what, .int .i64 a.commit, .int .i64 a.lane, .int .i64 a.n, .int .i64 a.code]
theorem act_of_readable {H : Type} {enc : TypeId × Value → H} {W : World} {cs : List Value} (h : Readable enc Try.prog W 79 cs) : ∃ a : Ac, cs = a.cells := by
  obtain ⟨h1, hf⟩ := h.struct Try.underlying79
  have h1 : cs.length = 5 := h1.trans (by kernel_rfl)
  have e1 : Try.prog.cellsOf 3 = 1 := by kernel_rfl
  match cs, h1 with
  | [c0, c1, c2, c3, c4], _ =>
    obtain ⟨x0, g0, _⟩ := Readable.int (hf 0 3 0 1 rfl e1) Try.underlying3
    obtain ⟨x1, g1, _⟩ := Readable.int (hf 1 3 1 1 rfl e1) Try.underlying3
    obtain ⟨x2, g2, _⟩ := Readable.int (hf 2 3 2 1 rfl e1) Try.underlying3
    obtain ⟨x3, g3, _⟩ := Readable.int (hf 3 3 3 1 rfl e1) Try.underlying3
    obtain ⟨x4, g4, _⟩ := Readable.int (hf 4 3 4 1 rfl e1) Try.underlying3
    simp at g0 g1 g2 g3 g4
    subst g0 g1 g2 g3 g4
    exact ⟨⟨x0, x1, x2, x3, x4⟩, rfl⟩
end Go.Proofs.Ytjgcicpclojfgaa
