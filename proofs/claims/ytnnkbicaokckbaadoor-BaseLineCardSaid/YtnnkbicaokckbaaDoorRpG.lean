/- Repos: Find, Get. Conditions: none. -/
import Derived.Test.YtnnkbicaokckbaaDoorRp
import Derived.Laws.Rows
import Derived.Laws.ResultCell
namespace Go.Proofs.YtnnkbicaokckbaaDoor
open Go.RowKit Go.Shelf

variable {base : Nat} {w : World} {p : Nat} {ao : Option Addr} {cap : Nat} {l : List CmV} {room : Int}
set_option maxRecDepth 100000 in
set_option maxHeartbeats 1000000 in
theorem repo_Find (h : RepoAt base w p ao cap l room) (y : CmV) (hy : CmAt w y) (fy : Few y.c) :
    Calls Tryd.prog 21 #[.pointer (some ⟨p, 0, none⟩), y.val] w fun e w' => e = .returned (.int .i64 (idxF (fun x : CmV => cmEq x.c y.c) l + 1)) ∧ Below w.heap.size w w' := by
  have HB1 := hide ((Below.refl w.heap.size w).alloc (Nat.le_refl _) (.cells #[y.vp, y.vt, .string y.c.note] 33))
  have HBX := hide (Chg.of_below0 (S := fun _ => False) HB1.out)
  have hh := heap_alloc_new w (.cells #[y.vp, y.vt, .string y.c.note] 33)
  have hb0 : (w.alloc (.cells #[y.vp, y.vt, .string y.c.note] 33)).cell? ⟨w.heap.size, 0, none⟩ = some y.vp := cell_of_heap hh 0
  have hb1 : (w.alloc (.cells #[y.vp, y.vt, .string y.c.note] 33)).cell? ⟨w.heap.size, 1, none⟩ = some y.vt := cell_of_heap hh 1
  have hb2 : (w.alloc (.cells #[y.vp, y.vt, .string y.c.note] 33)).cell? ⟨w.heap.size, 2, none⟩ = some (.string y.c.note) := cell_of_heap hh 2
  have H1 := hide (h.same HBX.out)
  have HY := hide (hy.same HBX.out)
  have h0 := h.c0
  have hlt := idxF_lt (fun x : CmV => cmEq x.c y.c) l
  have hll := h.len
  generalize hi : idxF (fun x : CmV => cmEq x.c y.c) l = i at hlt
  have HC := hide (cv_indexFunc (w.alloc (.cells #[y.vp, y.vt, .string y.c.note] 33)) (.slice ao l.length cap) l (H1.out.rd) (fun b hb _ => (ownsRow_lt H1.out.row b hb).2) (by omega) 61 #[.pointer (some ⟨w.heap.size, 0, none⟩)] (fun x : CmV => cmEq x.c y.c)
    (fun W => Chg (fun _ => False) (w.alloc (.cells #[y.vp, y.vt, .string y.c.note] 33)) W) (enters_of Tryd.func61 (by kernel_rfl) rfl)
    (fun W x hx hW => find_same W x y w.heap.size (((H1.out.cms x hx).at).same hW) (HY.out.same hW) (Few.of_may (H1.out.may x hx)) fy ⟨hW.cell hb0 (fun h => h), hW.cell hb1 (fun h => h), hW.cell hb2 (fun h => h)⟩)
    (fun W W' hW hb => hW.trans (Chg.of_below0 (S := fun _ => False) hb) (fun _ _ h => h) (fun _ _ h => h)) (Chg.refl _ _))
  rw [hi] at HC
  have HI := hide hi
  have hp1 := HBX.out.cell h0 (fun h => h)
  clear h hy fy hh hb0 hb1 hb2 hi
  obtain ⟨yc, yp, yt⟩ := y
  obtain ⟨yps, yts, yn⟩ := yc
  have hil : -1 ≤ i ∧ i ≤ 1000 := by omega
  clear hlt hll
  unfold CmV.val
  go_enter Tryd.func21, Tryd.ntmps21
  go_wp2_with fail
  refine HC.out.mono ?_
  rintro e w3 ⟨rfl, hb⟩
  have HB3 := hide hb
  clear hb
  go_wp2_with fail
  go_ret
  exact ⟨ret_int (by rw [← HI.out]), HB1.out.trans (HB3.out.mono HB1.out.size)⟩
theorem repo_Find_nil (w : World) (y : CmV) : Calls Tryd.prog 21 #[.pointer none, y.val] w fun e w' => e = .returned (.int .i64 0) ∧ Below w.heap.size w w' := by
  obtain ⟨yc, yp, yt⟩ := y
  have HB1 := hide ((Below.refl w.heap.size w).alloc (Nat.le_refl _) (.cells #[yp, yt, .string yc.note] 33))
  unfold CmV.val
  go_enter Tryd.func21, Tryd.ntmps21
  go_wp2_with fail
  go_ret
  exact ⟨rfl, HB1.out⟩

def cm0 : Cm := ⟨[], [], ByteArray.empty⟩
def cv0 : CmV := ⟨cm0, .slice none 0 0, .slice none 0 0⟩
theorem cv0_at (w : World) : CmAt w cv0 := ⟨Rd.nil w, Rd.nil w, fun _ h _ => (by cases h), fun _ h _ => (by cases h)⟩
theorem results_ct {P : Program} {fn : Func} {p u : Tmp} {ty : TypeId} (h : fn.results = #[.cell p ty, .tmp u]) (tmps : Array Value) (w : World) (g : Nat) (t : TypeId) (cs : Array Value) (fr : Nat × Nat) (d : TypeDesc)
    (hp : tmps.getD p undef = .pointer (some ⟨g, 0, none⟩)) (hg : w.heap[g]? = some (.cells cs t fr)) (hu : P.underlying ty = some d) (hd : (match d with | .struct _ | .array _ _ => true | _ => false) = true) (hi : (P.info? ty).map (·.size) = some cs.size) :
    (results fn tmps).run P w = .ok (.tuple #[.agg cs, tmps.getD u undef]) w := by
  rw [results_cell_tmp h, hp]
  simp [asAddr, Result.andThen, run_loadVar_row w g t ty cs fr d hg hu hd hi]

set_option maxRecDepth 100000 in
set_option maxHeartbeats 1000000 in
theorem repo_Get (h : RepoAt base w p ao cap l room) (n : Int) (k : Nat) (hk : k < l.length) (hn : n = (k : Int) + 1) :
    Calls Tryd.prog 25 #[.pointer (some ⟨p, 0, none⟩), .int .i64 n] w fun e w' => ∃ vp vt, e = .returned (.tuple #[CmV.val ⟨l[k].c, vp, vt⟩, .bool true]) ∧ Own w' w.heap.size ⟨l[k].c, vp, vt⟩ ∧ Below w.heap.size w w' := by
  have hll := h.len
  have hkk : n - 1 = (k : Int) := by omega
  have d1 : decide (n < 1) = false := decide_eq_false (by omega)
  have d2 : decide (n > (l.length : Int)) = false := decide_eq_false (by omega)
  have HB1 := hide ((Below.refl w.heap.size w).alloc (Nat.le_refl _) (.cells #[.slice none 0 0, .slice none 0 0, .string ⟨#[]⟩] 33))
  have hh := heap_alloc_new w (.cells #[.slice none 0 0, .slice none 0 0, .string ⟨#[]⟩] 33)
  have hbx := Chg.of_below0 (S := fun _ => False) HB1.out
  have hs1 : (w.alloc (.cells #[.slice none 0 0, .slice none 0 0, .string ⟨#[]⟩] 33)).heap.size = w.heap.size + 1 := World.size_alloc _ _
  generalize hw1 : w.alloc (.cells #[.slice none 0 0, .slice none 0 0, .string ⟨#[]⟩] 33) = w1 at hh hbx HB1 hs1
  have h1 := h.same hbx
  have h0 := h1.c0
  obtain ⟨a', c', e, -, hcs0⟩ := h1.rd.shape
  obtain ⟨b, off, rfl, hcs⟩ := hcs0 (by omega)
  cases e
  obtain ⟨hx0, hx1, hx2⟩ := cv_cells w1 b off l hcs k hk
  have HX := hide (h1.cms l[k] (List.getElem_mem hk)).at
  have HM := hide (h1.may l[k] (List.getElem_mem hk))
  have HH := hide hh
  have HS1 := hide hs1
  have HW1 := hide hw1
  have hnm : -1000000 ≤ n ∧ n ≤ 1000000 := by omega
  clear h h1 hcs hcs0 hbx hw1 hn hh hs1
  generalize l[k] = x at *
  have HC := hide (repo_own w1 x HX.out (Few.of_may HM.out))
  obtain ⟨xc, xp, xt⟩ := x
  unfold CmV.val at HC
  clear HX HM
  go_enter Tryd.func25, Tryd.ntmps25
  go_wp2_with (rw [HW1.out])
  refine HC.out.mono ?_
  rintro e w3 ⟨vp, vt, rfl, hown, hb3⟩
  have hh3 := (Chg.of_below0 (S := fun _ => False) hb3).heap HH.out (fun h => h)
  have HB3 := hide hb3
  have HO3 := hide hown
  have HH3 := hide hh3
  have g0 := cell_of_heap hh3 0
  have g1 := cell_of_heap hh3 1
  have g2 := cell_of_heap hh3 2
  have e0 := free_of_heap hh3 0
  have e1 := free_of_heap hh3 1
  have e2 := free_of_heap hh3 2
  simp at g0 g1 g2
  have hps : w3.ownsRow _ _ _ vp xc.parents.length _ := hown.ps
  have hts : w3.ownsRow _ _ _ vt xc.tree.length _ := hown.ts
  obtain ⟨aop, cap1, rfl⟩ := ownsRow_shape hps
  obtain ⟨aot, cap2, rfl⟩ := ownsRow_shape hts
  clear hh3 hb3 hown hps hts
  go_wp2_with fail
  clear g0 g1 g2 e0 e1 e2
  have hc6 : Chg (fun k => k = w.heap.size) w3 (((w3.setCell ⟨w.heap.size, 0, none⟩ (.slice aop xc.parents.length cap1)).setCell ⟨w.heap.size, 1, none⟩ (.slice aot xc.tree.length cap2)).setCell ⟨w.heap.size, 2, none⟩ (.string xc.note)) :=
    ((Chg.setCell w3 _ _).trans (Chg.setCell _ _ _) (S'' := fun k => k = w.heap.size) (fun _ _ h => h) (fun _ _ h => h)).trans (Chg.setCell _ _ _) (fun _ _ h => h) (fun _ _ h => h)
  have hy6 := heap_setCell_same (heap_setCell_same (heap_setCell_same HH3.out (i := 0) (.slice aop xc.parents.length cap1)) (i := 1) (.slice aot xc.tree.length cap2)) (i := 2) (.string xc.note)
  generalize ((w3.setCell ⟨w.heap.size, 0, none⟩ (.slice aop xc.parents.length cap1)).setCell ⟨w.heap.size, 1, none⟩ (.slice aot xc.tree.length cap2)).setCell ⟨w.heap.size, 2, none⟩ (.string xc.note) = w6 at hc6 hy6 ⊢
  simp at hy6
  refine bodyPost_ret (results_ct rfl _ w6 w.heap.size _ _ _ _ rfl hy6 Tryd.underlying33 rfl (by kernel_rfl)) rfl ?_
  have hs1 := HS1.out
  refine ⟨_, _, rfl, (HO3.out.chg hc6 (fun b hb _ h => by omega)).base (by omega), ?_⟩
  exact (HB1.out.trans (HB3.out.mono HB1.out.size)).trans (hc6.below (by have := HB3.out.size; omega) (fun k hk h => by omega))
set_option maxRecDepth 100000 in
set_option maxHeartbeats 1000000 in
theorem repo_Get_no (h : RepoAt base w p ao cap l room) (n : Int) (hn : n < 1 ∨ n > l.length) (hr : -9223372036854775808 ≤ n ∧ n ≤ 9223372036854775807) :
    Calls Tryd.prog 25 #[.pointer (some ⟨p, 0, none⟩), .int .i64 n] w fun e w' => e = .returned (.tuple #[CmV.val cv0, .bool false]) ∧ Below w.heap.size w w' := by
  have HB1 := hide ((Below.refl w.heap.size w).alloc (Nat.le_refl _) (.cells #[.slice none 0 0, .slice none 0 0, .string ⟨#[]⟩] 33))
  have hh := heap_alloc_new w (.cells #[.slice none 0 0, .slice none 0 0, .string ⟨#[]⟩] 33)
  have hbx := Chg.of_below0 (S := fun _ => False) HB1.out
  generalize hw1 : w.alloc (.cells #[.slice none 0 0, .slice none 0 0, .string ⟨#[]⟩] 33) = w1 at hh hbx HB1
  have HW1 := hide hw1
  have h0 := (h.same hbx).c0
  have HH := hide hh
  have HB2 := hide (HB1.out.trans (((Chg.setCell w1 ⟨w.heap.size, 0, none⟩ (.slice none 0 0)).trans (Chg.setCell _ ⟨w.heap.size, 1, none⟩ (.slice none 0 0)) (S'' := fun k => k = w.heap.size) (fun _ _ h => h) (fun _ _ h => h)).trans (Chg.setCell _ ⟨w.heap.size, 2, none⟩ (.string ⟨#[]⟩)) (S'' := fun k => k = w.heap.size) (fun _ _ h => h) (fun _ _ h => h) |>.below HB1.out.size (fun k hk h => by omega)))
  have g0 := cell_of_heap hh 0
  have g1 := cell_of_heap hh 1
  have g2 := cell_of_heap hh 2
  have e0 := free_of_heap hh 0
  have e1 := free_of_heap hh 1
  have e2 := free_of_heap hh 2
  simp at g0 g1 g2
  have hy6 := heap_setCell_same (heap_setCell_same (heap_setCell_same HH.out (i := 0) (.slice none 0 0)) (i := 1) (.slice none 0 0)) (i := 2) (.string ⟨#[]⟩)
  simp at hy6
  have HY6 := hide hy6
  clear h hw1 hbx hh hy6
  by_cases h1 : n < 1
  · have d1 : decide (n < 1) = true := decide_eq_true h1
    clear hn
    go_enter Tryd.func25, Tryd.ntmps25
    go_wp2_with (rw [HW1.out])
    refine bodyPost_ret (results_ct rfl _ _ w.heap.size _ _ _ _ rfl HY6.out Tryd.underlying33 rfl (by kernel_rfl)) rfl ?_
    exact ⟨rfl, HB2.out⟩
  · have d1 : decide (n < 1) = false := decide_eq_false h1
    have d2 : decide (n > (l.length : Int)) = true := decide_eq_true (by omega)
    clear hn
    go_enter Tryd.func25, Tryd.ntmps25
    go_wp2_with (rw [HW1.out])
    refine bodyPost_ret (results_ct rfl _ _ w.heap.size _ _ _ _ rfl HY6.out Tryd.underlying33 rfl (by kernel_rfl)) rfl ?_
    exact ⟨rfl, HB2.out⟩
set_option maxRecDepth 100000 in
theorem repo_Get_nil (w : World) (n : Int) : Calls Tryd.prog 25 #[.pointer none, .int .i64 n] w fun e w' => e = .returned (.tuple #[CmV.val cv0, .bool false]) ∧ Below w.heap.size w w' := by
  have HB1 := hide ((Below.refl w.heap.size w).alloc (Nat.le_refl _) (.cells #[.slice none 0 0, .slice none 0 0, .string ⟨#[]⟩] 33))
  have hh := heap_alloc_new w (.cells #[.slice none 0 0, .slice none 0 0, .string ⟨#[]⟩] 33)
  generalize hw1 : w.alloc (.cells #[.slice none 0 0, .slice none 0 0, .string ⟨#[]⟩] 33) = w1 at hh HB1
  have HW1 := hide hw1
  have HB2 := hide (HB1.out.trans (((Chg.setCell w1 ⟨w.heap.size, 0, none⟩ (.slice none 0 0)).trans (Chg.setCell _ ⟨w.heap.size, 1, none⟩ (.slice none 0 0)) (S'' := fun k => k = w.heap.size) (fun _ _ h => h) (fun _ _ h => h)).trans (Chg.setCell _ ⟨w.heap.size, 2, none⟩ (.string ⟨#[]⟩)) (S'' := fun k => k = w.heap.size) (fun _ _ h => h) (fun _ _ h => h) |>.below HB1.out.size (fun k hk h => by omega)))
  have g0 := cell_of_heap hh 0
  have g1 := cell_of_heap hh 1
  have g2 := cell_of_heap hh 2
  have e0 := free_of_heap hh 0
  have e1 := free_of_heap hh 1
  have e2 := free_of_heap hh 2
  simp at g0 g1 g2
  have hy6 := heap_setCell_same (heap_setCell_same (heap_setCell_same hh (i := 0) (.slice none 0 0)) (i := 1) (.slice none 0 0)) (i := 2) (.string ⟨#[]⟩)
  simp at hy6
  have HY6 := hide hy6
  clear hw1 hh hy6
  go_enter Tryd.func25, Tryd.ntmps25
  go_wp2_with (rw [HW1.out])
  refine bodyPost_ret (results_ct rfl _ _ w.heap.size _ _ _ _ rfl HY6.out Tryd.underlying33 rfl (by kernel_rfl)) rfl ?_
  exact ⟨rfl, HB2.out⟩
end Go.Proofs.YtnnkbicaokckbaaDoor
