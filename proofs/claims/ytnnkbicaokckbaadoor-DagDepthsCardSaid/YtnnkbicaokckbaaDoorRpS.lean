/- RepoScript's same: a repo and the document's of the same commits tell the same. Conditions: none. -/
import Derived.Test.YtnnkbicaokckbaaDoorRpE
import Derived.Test.YtnnkbicaokckbaaDoorRfD
import Derived.Outline
import Derived.Deep.QuietTactic
import Derived.BigQuiet
namespace Go.Proofs.YtnnkbicaokckbaaDoor
open Go.RowKit Go.Shelf
attribute [local go_sem] Oper.semAt_some

theorem same_cm (w : World) (x y : CmV) (hx : CmAt w x) (hy : CmAt w y) (fx : Few x.c) (hc : x.c = y.c) : Calls Tryd.prog 19 #[.agg #[x.vp, x.vt, .string x.c.note], .agg #[y.vp, y.vt, .string y.c.note]] w fun e w' => e = .returned (.bool true) ∧ Below w.heap.size w w' := by
  have h := law_SameCommit w x y hx hy fx (hc ▸ fx)
  have he : cmEq x.c y.c = true := (cmEq_iff _ _).2 hc
  refine h.mono ?_
  rintro e w' ⟨rfl, hb⟩
  exact ⟨by rw [he], hb⟩
theorem range_snoc {pre : List Nat} {x m : Nat} (h : pre ++ [x] <+: List.range m) : x = pre.length ∧ pre.length < m := by
  obtain ⟨t, ht⟩ := h
  have hl := congrArg List.length ht
  simp at hl
  have hx : (List.range m)[pre.length]? = some x := by rw [← ht]; simp
  rw [List.getElem?_range (by omega)] at hx
  exact ⟨(Option.some.inj hx).symm, by omega⟩
/-- What the gone-through counter and verdict hold, in the loop over all. -/
structure AllSt (w : World) (pp bn bg : Nat) (q B2 : Nat) (D : Nat → Prop) (n : Nat) (W : World) : Prop where
  cnt : W.heap[bn]? = some (.cells #[.int .i64 (n : Int)] 3 (0, 0))
  good : W.heap[bg]? = some (.cells #[.bool true] 4 (0, 0))
  box : W.heap[pp]? = some (.cells #[.pointer (some ⟨q, 0, none⟩)] 44 (0, 0))
  bel : Below w.heap.size w W
  far : ∀ k, D k → B2 + 2 ≤ k
  big : B2 + 2 ≤ W.heap.size
/-- What was told: the number, the commit, its lists' shapes. -/
structure TC where
  k : Nat
  c : Cm
  po : Option Addr
  pc : Nat
  fo : Option Addr
  fc : Nat
abbrev TC.v (y : TC) : CmV := ⟨y.c, .slice y.po y.c.parents.length y.pc, .slice y.fo y.c.tree.length y.fc⟩
set_option maxRecDepth 100000 in
set_option maxHeartbeats 4000000 in
theorem same10 {base base' : Nat} {w : World} {p q : Nat} {ao aq : Option Addr} {cap cq : Nat} {l lq : List CmV} {room roomq : Int} (h : RepoAt base w p ao cap l room) (g : RefAt base' w q aq cq lq roomq) (hc : cms l = cms lq) :
    Calls Tryd.prog 33 #[.pointer (some ⟨p, 0, none⟩), .pointer (some ⟨q, 0, none⟩)] w fun e w' => e = .returned (.bool true) ∧ Below w.heap.size w w' := by
  have hll : l.length = lq.length := by rw [← cms_length l, hc, cms_length]
  have hlb := g.len
  have HEQ : Hid (∀ (k : Nat) (h1 : k < l.length) (h2 : k < lq.length), l[k].c = lq[k].c) := hide (fun k h1 h2 => by
    have := congrArg (fun t => t[k]?) hc
    simpa [cms, h1, h2] using this)
  have HH := hide h
  have HG := hide g
  have hB1 := (Below.refl w.heap.size w).alloc (Nat.le_refl _) (.cells #[.pointer (some ⟨q, 0, none⟩)] 44)
  have hk1 := heap_alloc_new w (.cells #[.pointer (some ⟨q, 0, none⟩)] 44)
  generalize hw1 : w.alloc (.cells #[.pointer (some ⟨q, 0, none⟩)] 44) = w1 at hB1 hk1
  have HW1 := hide hw1
  have hc1 := Chg.of_below0 (S := fun _ => False) hB1
  have h1 := h.same hc1
  have g1 := g.same hc1
  have H1 := hide h1
  have G1 := hide g1
  have HB1 := hide hB1
  have HK1 := hide hk1
  have hbx := cell_of_heap hk1 0
  have g0 := g1.c0
  have HLEN := hide (fun W (hW : Chg (fun _ => False) w1 W) => (hll ▸ repo_Len (h1.same hW) : Calls Tryd.prog 20 #[.pointer (some ⟨p, 0, none⟩)] W fun e w' => e = .returned (.int .i64 lq.length) ∧ w' = W))
  have HLL := hide hll
  clear h g hc hB1 hk1 hw1 hc1 h1 g1 hll
  refine (callsIn_wide (n := 9)).1 ?_
  refine callsIn_of_wp_marks Tryd.func33 rfl trivial ?_ rfl
  simp only [Tryd.ntmps33, List.size_toArray, List.length_cons, List.length_nil, Nat.reduceAdd, Nat.reduceSub, Array.replicate_succ, Array.replicate_zero, List.push_toArray, List.append_toArray, List.nil_append, List.cons_append]
  refine wpIn_wide.2 ?_
  go_wp2_with (rw [HW1.out])
  refine wp_region_noPanic ?_
  refine reg_start (Chg (fun _ => False) w1) 8 8 (by rfl) (by kernel_rfl) (Chg.drew _ _) ?_
  intro hS0
  have hSc := hS0
  refine reg_take (i := 0) (v := ?g2v) rfl (by kernel_rfl) (by kernel_rfl) (by kernel_rfl) (by kernel_rfl) (fun _ _ _ h => h) (by rfl) ?g2y (by assumption) ?g2r
  case g2y => (intro W hS; first | (go_simp; done) | (go_simp; with_reducible rfl))
  simp only [Act.put, List.setIfInBounds_toArray, List.set_cons_zero, List.set_cons_succ]
  refine reg_take (i := 2) (v := ?g3v) rfl (by kernel_rfl) (by kernel_rfl) (by kernel_rfl) (by kernel_rfl) (fun _ _ _ h => h) (by rfl) ?g3y (by assumption) ?g3r
  case g3y => (intro W hS; have f0 := hS.cell hbx (fun h => h); have f1 := hS.cell g0 (fun h => h); first | (go_simp; done) | (go_simp; with_reducible rfl))
  simp only [Act.put, List.setIfInBounds_toArray, List.set_cons_zero, List.set_cons_succ]
  refine reg_take (i := 3) (v := ?g4v) rfl (by kernel_rfl) (by kernel_rfl) (by kernel_rfl) (by kernel_rfl) (fun _ _ _ h => h) (by rfl) ?g4y (by assumption) ?g4r
  case g4y => (intro W hS; first | (go_simp; done) | (go_simp; with_reducible rfl))
  simp only [Act.put, List.setIfInBounds_toArray, List.set_cons_zero, List.set_cons_succ]
  refine reg_take (i := 4) (v := ?g5v) rfl (by kernel_rfl) (by kernel_rfl) (by kernel_rfl) (by kernel_rfl) (fun _ _ _ h => h) (by rfl) ?g5y (by assumption) ?g5r
  case g5y => (intro W hS; first | (go_simp; done) | (go_simp; with_reducible rfl))
  simp only [Act.put, List.setIfInBounds_toArray, List.set_cons_zero, List.set_cons_succ]
  refine reg_take (i := 5) (v := ?g6v) rfl (by kernel_rfl) (by kernel_rfl) (by kernel_rfl) (by kernel_rfl) (fun _ _ _ h => h) (by rfl) ?g6y (by assumption) ?g6r
  case g6y => (intro W hS; have f0 := hS.cell hbx (fun h => h); have f1 := hS.cell g0 (fun h => h); first | (go_simp; done) | (go_simp; with_reducible rfl))
  simp only [Act.put, List.setIfInBounds_toArray, List.set_cons_zero, List.set_cons_succ]
  refine reg_take (i := 6) (v := ?g7v) rfl (by kernel_rfl) (by kernel_rfl) (by kernel_rfl) (by kernel_rfl) (fun _ _ _ h => h) (by rfl) ?g7y (by assumption) ?g7r
  case g7y => (intro W hS; first | (go_simp; done) | (go_simp; with_reducible rfl))
  simp only [Act.put, List.setIfInBounds_toArray, List.set_cons_zero, List.set_cons_succ]
  refine reg_one (i := 1) (by kernel_rfl) ?_
  refine op_call (i := 1) (#[.pointer (some ⟨p, 0, none⟩)]) rfl (by rfl) (enters_of Tryd.func20 (by kernel_rfl) rfl) (by first | (simp [Act.eval]; done) | rfl | (simp only [List.map_toArray, List.map_cons, List.map_nil, Act.eval]; rfl) | (simp [Act.eval]; trace_state; done)) ?_
  refine (HLEN.out _ hSc).mono ?_
  rintro e W3 ⟨rfl, rfl⟩
  refine ⟨_, rfl, hSc, ?_⟩
  simp only [Act.put, List.setIfInBounds_toArray, List.set_cons_zero, List.set_cons_succ]
  refine reg_take (i := 7) (v := ?g8v) rfl (by kernel_rfl) (by kernel_rfl) (by kernel_rfl) (by kernel_rfl) (fun _ _ _ h => h) (by rfl) ?g8y (by assumption) ?g8r
  case g8y => (intro W hS; first | (go_simp; done) | (go_simp; with_reducible rfl))
  simp only [Act.put, List.setIfInBounds_toArray, List.set_cons_zero, List.set_cons_succ]
  refine wpAnyG_done (by kernel_rfl) ?_ _
  refine NoPanic.normal ?_
  have HC3 := hide hSc
  clear hS0 hSc hbx g0
  have hc3 := HC3.out
  generalize w1.drew = w3 at hc3 HC3 ⊢
  clear hc3
  go_wp2_with fail
  go_loopw [5] (fun i wr => ∃ k : Nat, k ≤ lq.length + 2 ∧ i = .int .i64 k ∧ Hid (Chg (fun _ => False) w1 wr)) (fun i _ => lq.length + 2 - (intOf i).toNat)
  case atStart => exact ⟨0, Nat.zero_le _, rfl, HC3.out⟩
  case round =>
    obtain ⟨k, hk, rfl, HC⟩ := hrel
    obtain ⟨wo, rfl⟩ : ∃ wo : World, wo = wr := ⟨_, rfl⟩
    have hbx := cell_of_heap (HC.out.heap HK1.out (fun h => h)) 0
    have hat := H1.out.same HC.out
    have hag := G1.out.same HC.out
    have g0 := hag.c0
    by_cases hkl : k < lq.length + 2
    · have d1 : decide ((k : Int) ≤ (lq.length : Int) + 1) = true := decide_eq_true (by omega)
      by_cases hin : 1 ≤ k ∧ k ≤ lq.length
      · obtain ⟨j, rfl⟩ : ∃ j, k = j + 1 := ⟨k - 1, by omega⟩
        have hj1 : j < l.length := by have := HLL.out; omega
        have hj2 : j < lq.length := by omega
        have hget := repo_Get hat ((j + 1 : Nat) : Int) j hj1 (by omega)
        have hEQ := HEQ.out j hj1 hj2
        have hmay := Few.of_may (hat.may l[j] (List.getElem_mem hj1))
        have hcy := (hag.cms lq[j] (List.getElem_mem hj2)).1
        obtain ⟨a', c', e, -, hcs0⟩ := hag.rd.shape
        obtain ⟨b, off, rfl, hcs⟩ := hcs0 (by omega)
        cases e
        obtain ⟨hx0, hx1, hx2⟩ := cv_cells wo b off lq hcs j hj2
        rw [hEQ] at hget hmay
        have hhas : hasN lq.length ((j + 1 : Nat) : Int) = true := by unfold hasN; simp; omega
        have HHAS := hide (fun W (hW : Chg (fun _ => False) wo W) => (hhas ▸ ref10_Has (hag.same hW) ((j + 1 : Nat) : Int) : Calls Tryd.prog 36 #[.pointer (some ⟨q, 0, none⟩), .int .i64 ((j + 1 : Nat) : Int)] W fun e w' => e = .returned (.bool true) ∧ w' = W))
        have HGET := hide hget
        have HCY := hide hcy
        have HFEW := hide hmay
        clear hget hmay hcy hcs hcs0 hhas hEQ hat hag hin
        obtain ⟨yy, hyy⟩ : ∃ yy, yy = lq[j] := ⟨_, rfl⟩
        rw [← hyy] at hx0 hx1 hx2 HGET HCY HFEW
        clear hyy
        obtain ⟨yc, yp, yt⟩ := yy
        simp only at hx0 hx1 hx2
        have hyps : Rd wo yp yc.parents.length (flat int_enc yc.parents) := HCY.out.ps
        have hyts : Rd wo yt yc.tree.length (flat fl_enc yc.tree) := HCY.out.ts
        obtain ⟨ypo, ypc, rfl, -, -⟩ := hyps.shape
        obtain ⟨yto, ytc, rfl, -, -⟩ := hyts.shape
        have hj3 : ((j + 1 : Nat) : Int) - 1 = (j : Int) := by omega
        have hwj : IntKind.i64.wrap ((j : Nat) : Int) = j := IntWalk.i64_in _ (by omega)
        have hji : (j : Int) < (lq.length : Int) := by omega
        clear hyps hyts
        go_wp2_with fail
        refine HGET.out.mono ?_
        rintro e W3 ⟨vp, vt, rfl, hown3, hb3⟩
        have hps : W3.ownsRow _ _ _ vp yc.parents.length _ := hown3.ps
        have hts : W3.ownsRow _ _ _ vt yc.tree.length _ := hown3.ts
        obtain ⟨aop, cap1, rfl⟩ := ownsRow_shape hps
        obtain ⟨aot, cap2, rfl⟩ := ownsRow_shape hts
        have hc4 := (Chg.of_below0 (S := fun _ => False) hb3).trans (Chg.alloc (fun _ => False) W3 (.cells #[.slice aop yc.parents.length cap1, .slice aot yc.tree.length cap2, .string yc.note] 33)) (S'' := fun _ => False) (fun _ _ h => h) (fun _ _ h => h)
        have hown4 := hown3.chg (Chg.alloc (fun _ => False) W3 (.cells #[.slice aop yc.parents.length cap1, .slice aot yc.tree.length cap2, .string yc.note] 33)) (fun _ _ _ h => h)
        have hn4 := heap_alloc_new W3 (.cells #[.slice aop yc.parents.length cap1, .slice aot yc.tree.length cap2, .string yc.note] 33)
        simp only [val_eq]
        generalize hw4 : W3.alloc (.cells #[.slice aop yc.parents.length cap1, .slice aot yc.tree.length cap2, .string yc.note] 33) = W4 at hc4 hown4 hn4
        have HW4 := hide hw4
        have hbx := hc4.cell hbx (fun h => h)
        have g0 := hc4.cell g0 (fun h => h)
        have hx0 := hc4.cell hx0 (fun h => h)
        have hx1 := hc4.cell hx1 (fun h => h)
        have hx2 := hc4.cell hx2 (fun h => h)
        have q0 := cell_of_heap hn4 0
        have q1 := cell_of_heap hn4 1
        have q2 := cell_of_heap hn4 2
        simp at q0 q1 q2
        have HC4 := hide hc4
        have HOWN4 := hide hown4
        have HQ0 := hide q0
        have HQ1 := hide q1
        have HQ2 := hide q2
        have HSM := hide (fun W (hW : Chg (fun _ => False) W4 W) => same_cm W ⟨yc, .slice aop yc.parents.length cap1, .slice aot yc.tree.length cap2⟩ ⟨yc, .slice ypo yc.parents.length ypc, .slice yto yc.tree.length ytc⟩ ((hown4.chg hW (fun _ _ _ h => h)).at) (HCY.out.same (hc4.trans hW (fun _ _ h => h) (fun _ _ h => h))) HFEW.out rfl)
        clear hps hts hown3 hb3 hc4 hown4 hn4 hw4
        go_wp2_with (rw [HW4.out])
        refine wp_region_noPanic ?_
        refine reg_start (Chg (fun _ => False) W4) 31 31 (by rfl) (by kernel_rfl) (Chg.drew _ _) ?_
        intro hS0
        have hSc := hS0
        refine reg_take (i := 0) (v := ?g10v) rfl (by kernel_rfl) (by kernel_rfl) (by kernel_rfl) (by kernel_rfl) (fun _ _ _ h => h) (by rfl) ?g10y (by assumption) ?g10r
        case g10y => (intro W hS; first | (go_simp; done) | (go_simp; with_reducible rfl))
        simp only [Act.put, List.setIfInBounds_toArray, List.set_cons_zero, List.set_cons_succ]
        refine reg_take (i := 1) (v := ?g11v) rfl (by kernel_rfl) (by kernel_rfl) (by kernel_rfl) (by kernel_rfl) (fun _ _ _ h => h) (by rfl) ?g11y (by assumption) ?g11r
        case g11y => (intro W hS; have f0 := hS.cell hbx (fun h => h); have f1 := hS.cell g0 (fun h => h); have f2 := hS.cell q0 (fun h => h); have f3 := hS.cell q1 (fun h => h); have f4 := hS.cell q2 (fun h => h); have f5 := hS.cell hx0 (fun h => h); have f6 := hS.cell hx1 (fun h => h); have f7 := hS.cell hx2 (fun h => h); first | (go_simp; done) | (go_simp; with_reducible rfl))
        simp only [Act.put, List.setIfInBounds_toArray, List.set_cons_zero, List.set_cons_succ]
        refine reg_take (i := 2) (v := ?g12v) rfl (by kernel_rfl) (by kernel_rfl) (by kernel_rfl) (by kernel_rfl) (fun _ _ _ h => h) (by rfl) ?g12y (by assumption) ?g12r
        case g12y => (intro W hS; first | (go_simp; done) | (go_simp; with_reducible rfl))
        simp only [Act.put, List.setIfInBounds_toArray, List.set_cons_zero, List.set_cons_succ]
        refine reg_one (i := 3) (by kernel_rfl) ?_
        refine op_call (i := 3) (#[.pointer (some ⟨q, 0, none⟩), .int .i64 ((j + 1 : Nat) : Int)]) rfl (by rfl) (enters_of Tryd.func36 (by kernel_rfl) rfl) (by first | (simp [Act.eval]; done) | rfl | (simp only [List.map_toArray, List.map_cons, List.map_nil, Act.eval]; rfl) | (simp [Act.eval]; trace_state; done)) ?_
        refine (HHAS.out _ (HC4.out.trans hSc (S'' := fun _ => False) (fun _ _ h => h) (fun _ _ h => h))).mono ?_
        rintro e W5 ⟨rfl, rfl⟩
        refine ⟨_, rfl, hSc, ?_⟩
        simp only [Act.put, List.setIfInBounds_toArray, List.set_cons_zero, List.set_cons_succ]
        refine reg_take (i := 4) (v := ?g13v) rfl (by kernel_rfl) (by kernel_rfl) (by kernel_rfl) (by kernel_rfl) (fun _ _ _ h => h) (by rfl) ?g13y (by assumption) ?g13r
        case g13y => (intro W hS; first | (go_simp; done) | (go_simp; with_reducible rfl))
        simp only [Act.put, List.setIfInBounds_toArray, List.set_cons_zero, List.set_cons_succ]
        refine reg_take (i := 5) (v := ?g14v) rfl (by kernel_rfl) (by kernel_rfl) (by kernel_rfl) (by kernel_rfl) (fun _ _ _ h => h) (by rfl) ?g14y (by assumption) ?g14r
        case g14y => (intro W hS; first | (go_simp; done) | (go_simp; with_reducible rfl))
        simp only [Act.put, List.setIfInBounds_toArray, List.set_cons_zero, List.set_cons_succ]
        refine reg_take (i := 6) (v := ?g15v) rfl (by kernel_rfl) (by kernel_rfl) (by kernel_rfl) (by kernel_rfl) (fun _ _ _ h => h) (by rfl) ?g15y (by assumption) ?g15r
        case g15y => (intro W hS; first | (go_simp; done) | (go_simp; with_reducible rfl))
        simp only [Act.put, List.setIfInBounds_toArray, List.set_cons_zero, List.set_cons_succ]
        refine reg_take (i := 7) (v := ?g16v) rfl (by kernel_rfl) (by kernel_rfl) (by kernel_rfl) (by kernel_rfl) (fun _ _ _ h => h) (by rfl) ?g16y (by assumption) ?g16r
        case g16y => (intro W hS; first | (go_simp; done) | (go_simp; with_reducible rfl))
        simp only [Act.put, List.setIfInBounds_toArray, List.set_cons_zero, List.set_cons_succ]
        refine reg_take (i := 8) (v := ?g17v) rfl (by kernel_rfl) (by kernel_rfl) (by kernel_rfl) (by kernel_rfl) (fun _ _ _ h => h) (by rfl) ?g17y (by assumption) ?g17r
        case g17y => (intro W hS; have f0 := hS.cell hbx (fun h => h); have f1 := hS.cell g0 (fun h => h); have f2 := hS.cell q0 (fun h => h); have f3 := hS.cell q1 (fun h => h); have f4 := hS.cell q2 (fun h => h); have f5 := hS.cell hx0 (fun h => h); have f6 := hS.cell hx1 (fun h => h); have f7 := hS.cell hx2 (fun h => h); first | (go_simp; done) | (go_simp; with_reducible rfl))
        simp only [Act.put, List.setIfInBounds_toArray, List.set_cons_zero, List.set_cons_succ]
        refine reg_take (i := 9) (v := ?g18v) rfl (by kernel_rfl) (by kernel_rfl) (by kernel_rfl) (by kernel_rfl) (fun _ _ _ h => h) (by rfl) ?g18y (by assumption) ?g18r
        case g18y => (intro W hS; have f0 := hS.cell hbx (fun h => h); have f1 := hS.cell g0 (fun h => h); have f2 := hS.cell q0 (fun h => h); have f3 := hS.cell q1 (fun h => h); have f4 := hS.cell q2 (fun h => h); have f5 := hS.cell hx0 (fun h => h); have f6 := hS.cell hx1 (fun h => h); have f7 := hS.cell hx2 (fun h => h); first | (go_simp; done) | (go_simp; with_reducible rfl))
        simp only [Act.put, List.setIfInBounds_toArray, List.set_cons_zero, List.set_cons_succ]
        refine reg_take (i := 10) (v := ?g19v) rfl (by kernel_rfl) (by kernel_rfl) (by kernel_rfl) (by kernel_rfl) (fun _ _ _ h => h) (by rfl) ?g19y (by assumption) ?g19r
        case g19y => (intro W hS; first | (go_simp; done) | (go_simp; with_reducible rfl))
        simp only [Act.put, List.setIfInBounds_toArray, List.set_cons_zero, List.set_cons_succ]
        refine reg_take (i := 11) (v := ?g20v) rfl (by kernel_rfl) (by kernel_rfl) (by kernel_rfl) (by kernel_rfl) (fun _ _ _ h => h) (by rfl) ?g20y (by assumption) ?g20r
        case g20y => (intro W hS; first | (go_simp; done) | (go_simp; with_reducible rfl))
        simp only [Act.put, List.setIfInBounds_toArray, List.set_cons_zero, List.set_cons_succ]
        refine reg_take (i := 12) (v := ?g21v) rfl (by kernel_rfl) (by kernel_rfl) (by kernel_rfl) (by kernel_rfl) (fun _ _ _ h => h) (by rfl) ?g21y (by assumption) ?g21r
        case g21y => (intro W hS; have f0 := hS.cell hbx (fun h => h); have f1 := hS.cell g0 (fun h => h); have f2 := hS.cell q0 (fun h => h); have f3 := hS.cell q1 (fun h => h); have f4 := hS.cell q2 (fun h => h); have f5 := hS.cell hx0 (fun h => h); have f6 := hS.cell hx1 (fun h => h); have f7 := hS.cell hx2 (fun h => h); first | (go_simp; done) | (go_simp; with_reducible rfl))
        simp only [Act.put, List.setIfInBounds_toArray, List.set_cons_zero, List.set_cons_succ]
        refine reg_take (i := 13) (v := ?g22v) rfl (by kernel_rfl) (by kernel_rfl) (by kernel_rfl) (by kernel_rfl) (fun _ _ _ h => h) (by rfl) ?g22y (by assumption) ?g22r
        case g22y => (intro W hS; first | (go_simp; done) | (go_simp; with_reducible rfl))
        simp only [Act.put, List.setIfInBounds_toArray, List.set_cons_zero, List.set_cons_succ]
        refine reg_take (i := 14) (v := ?g23v) rfl (by kernel_rfl) (by kernel_rfl) (by kernel_rfl) (by kernel_rfl) (fun _ _ _ h => h) (by rfl) ?g23y (by assumption) ?g23r
        case g23y => (intro W hS; first | (go_simp; done) | (go_simp; with_reducible rfl))
        simp only [Act.put, List.setIfInBounds_toArray, List.set_cons_zero, List.set_cons_succ]
        refine reg_take (i := 15) (v := ?g24v) rfl (by kernel_rfl) (by kernel_rfl) (by kernel_rfl) (by kernel_rfl) (fun _ _ _ h => h) (by rfl) ?g24y (by assumption) ?g24r
        case g24y => (intro W hS; first | (go_simp; done) | (go_simp; with_reducible rfl))
        simp only [Act.put, List.setIfInBounds_toArray, List.set_cons_zero, List.set_cons_succ]
        refine reg_take (i := 16) (v := ?g25v) rfl (by kernel_rfl) (by kernel_rfl) (by kernel_rfl) (by kernel_rfl) (fun _ _ _ h => h) (by rfl) ?g25y (by assumption) ?g25r
        case g25y => (intro W hS; have f0 := hS.cell hbx (fun h => h); have f1 := hS.cell g0 (fun h => h); have f2 := hS.cell q0 (fun h => h); have f3 := hS.cell q1 (fun h => h); have f4 := hS.cell q2 (fun h => h); have f5 := hS.cell hx0 (fun h => h); have f6 := hS.cell hx1 (fun h => h); have f7 := hS.cell hx2 (fun h => h); first | (go_simp; done) | (go_simp; with_reducible rfl))
        simp only [Act.put, List.setIfInBounds_toArray, List.set_cons_zero, List.set_cons_succ]
        refine reg_one (i := 17) (by kernel_rfl) ?_
        refine op_call (i := 17) (#[.agg #[.slice aop yc.parents.length cap1, .slice aot yc.tree.length cap2, .string yc.note], .agg #[.slice ypo yc.parents.length ypc, .slice yto yc.tree.length ytc, .string yc.note]]) rfl (by rfl) (enters_of Tryd.func19 (by kernel_rfl) rfl) (by first | (simp [Act.eval]; done) | rfl | (simp only [List.map_toArray, List.map_cons, List.map_nil, Act.eval]; rfl) | (simp [Act.eval]; trace_state; done)) ?_
        refine (HSM.out _ hSc).mono ?_
        rintro e W6 ⟨rfl, hb6⟩
        have hSc := hSc.trans (Chg.of_below0 (S := fun _ => False) hb6) (S'' := fun _ => False) (fun _ _ h => h) (fun _ _ h => h)
        clear hb6
        refine ⟨_, rfl, hSc, ?_⟩
        simp only [Act.put, List.setIfInBounds_toArray, List.set_cons_zero, List.set_cons_succ]
        refine reg_take (i := 18) (v := ?g26v) rfl (by kernel_rfl) (by kernel_rfl) (by kernel_rfl) (by kernel_rfl) (fun _ _ _ h => h) (by rfl) ?g26y (by assumption) ?g26r
        case g26y => (intro W hS; first | (go_simp; done) | (go_simp; with_reducible rfl))
        simp only [Act.put, List.setIfInBounds_toArray, List.set_cons_zero, List.set_cons_succ]
        refine reg_take (i := 19) (v := ?g27v) rfl (by kernel_rfl) (by kernel_rfl) (by kernel_rfl) (by kernel_rfl) (fun _ _ _ h => h) (by rfl) ?g27y (by assumption) ?g27r
        case g27y => (intro W hS; first | (go_simp; done) | (go_simp; with_reducible rfl))
        simp only [Act.put, List.setIfInBounds_toArray, List.set_cons_zero, List.set_cons_succ]
        refine reg_take (i := 20) (v := ?g28v) rfl (by kernel_rfl) (by kernel_rfl) (by kernel_rfl) (by kernel_rfl) (fun _ _ _ h => h) (by rfl) ?g28y (by assumption) ?g28r
        case g28y => (intro W hS; first | (go_simp; done) | (go_simp; with_reducible rfl))
        simp only [Act.put, List.setIfInBounds_toArray, List.set_cons_zero, List.set_cons_succ]
        refine reg_take (i := 21) (v := ?g29v) rfl (by kernel_rfl) (by kernel_rfl) (by kernel_rfl) (by kernel_rfl) (fun _ _ _ h => h) (by rfl) ?g29y (by assumption) ?g29r
        case g29y => (intro W hS; first | (go_simp; done) | (go_simp; with_reducible rfl))
        simp only [Act.put, List.setIfInBounds_toArray, List.set_cons_zero, List.set_cons_succ]
        refine reg_take (i := 22) (v := ?g30v) rfl (by kernel_rfl) (by kernel_rfl) (by kernel_rfl) (by kernel_rfl) (fun _ _ _ h => h) (by rfl) ?g30y (by assumption) ?g30r
        case g30y => (intro W hS; first | (go_simp; done) | (go_simp; with_reducible rfl))
        simp only [Act.put, List.setIfInBounds_toArray, List.set_cons_zero, List.set_cons_succ]
        refine reg_take (i := 23) (v := ?g31v) rfl (by kernel_rfl) (by kernel_rfl) (by kernel_rfl) (by kernel_rfl) (fun _ _ _ h => h) (by rfl) ?g31y (by assumption) ?g31r
        case g31y => (intro W hS; first | (go_simp; done) | (go_simp; with_reducible rfl))
        simp only [Act.put, List.setIfInBounds_toArray, List.set_cons_zero, List.set_cons_succ]
        refine reg_take (i := 24) (v := ?g32v) rfl (by kernel_rfl) (by kernel_rfl) (by kernel_rfl) (by kernel_rfl) (fun _ _ _ h => h) (by rfl) ?g32y (by assumption) ?g32r
        case g32y => (intro W hS; first | (go_simp; done) | (go_simp; with_reducible rfl))
        simp only [Act.put, List.setIfInBounds_toArray, List.set_cons_zero, List.set_cons_succ]
        refine reg_skip (i := 25) rfl (by kernel_rfl) (by kernel_rfl) (by kernel_rfl) (by kernel_rfl) (fun _ _ _ h => h) (by rfl) (by assumption) ?_
        simp only [Act.put, List.setIfInBounds_toArray, List.set_cons_zero, List.set_cons_succ]
        refine reg_skip (i := 26) rfl (by kernel_rfl) (by kernel_rfl) (by kernel_rfl) (by kernel_rfl) (fun _ _ _ h => h) (by rfl) (by assumption) ?_
        simp only [Act.put, List.setIfInBounds_toArray, List.set_cons_zero, List.set_cons_succ]
        refine reg_skip (i := 27) rfl (by kernel_rfl) (by kernel_rfl) (by kernel_rfl) (by kernel_rfl) (fun _ _ _ h => h) (by rfl) (by assumption) ?_
        simp only [Act.put, List.setIfInBounds_toArray, List.set_cons_zero, List.set_cons_succ]
        refine reg_skip (i := 28) rfl (by kernel_rfl) (by kernel_rfl) (by kernel_rfl) (by kernel_rfl) (fun _ _ _ h => h) (by rfl) (by assumption) ?_
        simp only [Act.put, List.setIfInBounds_toArray, List.set_cons_zero, List.set_cons_succ]
        refine reg_take (i := 29) (v := ?g33v) rfl (by kernel_rfl) (by kernel_rfl) (by kernel_rfl) (by kernel_rfl) (fun _ _ _ h => h) (by rfl) ?g33y (by assumption) ?g33r
        case g33y => (intro W hS; first | (go_simp; done) | (go_simp; with_reducible rfl))
        simp only [Act.put, List.setIfInBounds_toArray, List.set_cons_zero, List.set_cons_succ]
        refine reg_take (i := 30) (v := ?g34v) rfl (by kernel_rfl) (by kernel_rfl) (by kernel_rfl) (by kernel_rfl) (fun _ _ _ h => h) (by rfl) ?g34y (by assumption) ?g34r
        case g34y => (intro W hS; first | (go_simp; done) | (go_simp; with_reducible rfl))
        simp only [Act.put, List.setIfInBounds_toArray, List.set_cons_zero, List.set_cons_succ]
        refine wpAnyG_done (by kernel_rfl) ?_ _
        refine NoPanic.normal ?_
        have HS6 := hide hSc
        have q0 := HS6.out.cell HQ0.out (fun h => h)
        have q1 := HS6.out.cell HQ1.out (fun h => h)
        have q2 := HS6.out.cell HQ2.out (fun h => h)
        have HOC := hide (OverCommit_ok W6 ⟨yc, .slice aop yc.parents.length cap1, .slice aot yc.tree.length cap2⟩ (HOWN4.out.chg HS6.out (fun _ _ _ h => h)) HFEW.out (Nat.le_trans HC4.out.size HS6.out.size))
        clear hS0 hSc hbx g0 hx0 hx1 hx2
        go_wp2_with fail
        refine HOC.out.mono ?_
        rintro e W7 ⟨rfl, hb7⟩
        have HC7 := hide ((HC.out.trans (HC4.out.trans HS6.out (S'' := fun _ => False) (fun _ _ h => h) (fun _ _ h => h)) (S'' := fun _ => False) (fun _ _ h => h) (fun _ _ h => h)).trans (Chg.of_below hb7) (S'' := fun _ => False) (fun _ _ h => h) (fun i hi h => by have := HC.out.size; omega))
        clear hb7 q0 q1 q2
        go_wp2_with fail
        go_roundw
        case rel => exact ⟨j + 1 + 1, by omega, by go_num, HC7.out⟩
        case measure => simp [intOf]; omega
      · have hget := repo_Get_no hat (k : Int) (by have := HLL.out; omega) (by omega)
        have hhas : hasN lq.length (k : Int) = false := by unfold hasN; simp; omega
        have HHAS := hide (fun W (hW : Chg (fun _ => False) wo W) => (hhas ▸ ref10_Has (hag.same hW) (k : Int) : Calls Tryd.prog 36 #[.pointer (some ⟨q, 0, none⟩), .int .i64 (k : Int)] W fun e w' => e = .returned (.bool false) ∧ w' = W))
        have HGET : Hid (Calls Tryd.prog 25 #[.pointer (some ⟨p, 0, none⟩), .int .i64 (k : Int)] wo fun e w' => e = .returned (.tuple #[.agg #[.slice none 0 0, .slice none 0 0, .string ByteArray.empty], .bool false]) ∧ Below wo.heap.size wo w') := hide hget
        clear hget hhas hat hag hin
        go_wp2_with fail
        refine HGET.out.mono ?_
        rintro e W3 ⟨rfl, hb3⟩
        have hc4 := (Chg.of_below0 (S := fun _ => False) hb3).trans (Chg.alloc (fun _ => False) W3 (.cells #[.slice none 0 0, .slice none 0 0, .string ByteArray.empty] 33)) (S'' := fun _ => False) (fun _ _ h => h) (fun _ _ h => h)
        have hn4 := heap_alloc_new W3 (.cells #[.slice none 0 0, .slice none 0 0, .string ByteArray.empty] 33)
        generalize hw4 : W3.alloc (.cells #[.slice none 0 0, .slice none 0 0, .string ByteArray.empty] 33) = W4 at hc4 hn4
        have HW4 := hide hw4
        have hbx := hc4.cell hbx (fun h => h)
        have q0 := cell_of_heap hn4 0
        have q1 := cell_of_heap hn4 1
        have q2 := cell_of_heap hn4 2
        simp at q0 q1 q2
        have HC4 := hide hc4
        have HQ0 := hide q0
        have HQ1 := hide q1
        have HQ2 := hide q2
        have HSM : Hid (∀ W, Calls Tryd.prog 19 #[.agg #[.slice none 0 0, .slice none 0 0, .string ByteArray.empty], .agg #[.slice none 0 0, .slice none 0 0, .string ByteArray.empty]] W fun e w' => e = .returned (.bool true) ∧ Below W.heap.size W w') := hide (fun W => same_cm W cv0 cv0 (cv0_at W) (cv0_at W) ⟨by decide, by decide⟩ rfl)
        clear hb3 hc4 hn4 hw4 g0
        go_wp2_with (rw [HW4.out])
        refine wp_region_noPanic ?_
        refine reg_start (Chg (fun _ => False) W4) 31 31 (by rfl) (by kernel_rfl) (Chg.drew _ _) ?_
        intro hS0
        have hSc := hS0
        refine reg_take (i := 0) (v := ?g36v) rfl (by kernel_rfl) (by kernel_rfl) (by kernel_rfl) (by kernel_rfl) (fun _ _ _ h => h) (by rfl) ?g36y (by assumption) ?g36r
        case g36y => (intro W hS; first | (go_simp; done) | (go_simp; with_reducible rfl))
        simp only [Act.put, List.setIfInBounds_toArray, List.set_cons_zero, List.set_cons_succ]
        refine reg_take (i := 1) (v := ?g37v) rfl (by kernel_rfl) (by kernel_rfl) (by kernel_rfl) (by kernel_rfl) (fun _ _ _ h => h) (by rfl) ?g37y (by assumption) ?g37r
        case g37y => (intro W hS; have f0 := hS.cell hbx (fun h => h); have f2 := hS.cell q0 (fun h => h); have f3 := hS.cell q1 (fun h => h); have f4 := hS.cell q2 (fun h => h); first | (go_simp; done) | (go_simp; with_reducible rfl))
        simp only [Act.put, List.setIfInBounds_toArray, List.set_cons_zero, List.set_cons_succ]
        refine reg_take (i := 2) (v := ?g38v) rfl (by kernel_rfl) (by kernel_rfl) (by kernel_rfl) (by kernel_rfl) (fun _ _ _ h => h) (by rfl) ?g38y (by assumption) ?g38r
        case g38y => (intro W hS; first | (go_simp; done) | (go_simp; with_reducible rfl))
        simp only [Act.put, List.setIfInBounds_toArray, List.set_cons_zero, List.set_cons_succ]
        refine reg_one (i := 3) (by kernel_rfl) ?_
        refine op_call (i := 3) (#[.pointer (some ⟨q, 0, none⟩), .int .i64 (k : Int)]) rfl (by rfl) (enters_of Tryd.func36 (by kernel_rfl) rfl) (by first | (simp [Act.eval]; done) | rfl | (simp only [List.map_toArray, List.map_cons, List.map_nil, Act.eval]; rfl) | (simp [Act.eval]; trace_state; done)) ?_
        refine (HHAS.out _ (HC4.out.trans hSc (S'' := fun _ => False) (fun _ _ h => h) (fun _ _ h => h))).mono ?_
        rintro e W5 ⟨rfl, rfl⟩
        refine ⟨_, rfl, hSc, ?_⟩
        simp only [Act.put, List.setIfInBounds_toArray, List.set_cons_zero, List.set_cons_succ]
        refine reg_take (i := 4) (v := ?g39v) rfl (by kernel_rfl) (by kernel_rfl) (by kernel_rfl) (by kernel_rfl) (fun _ _ _ h => h) (by rfl) ?g39y (by assumption) ?g39r
        case g39y => (intro W hS; first | (go_simp; done) | (go_simp; with_reducible rfl))
        simp only [Act.put, List.setIfInBounds_toArray, List.set_cons_zero, List.set_cons_succ]
        refine reg_take (i := 5) (v := ?g40v) rfl (by kernel_rfl) (by kernel_rfl) (by kernel_rfl) (by kernel_rfl) (fun _ _ _ h => h) (by rfl) ?g40y (by assumption) ?g40r
        case g40y => (intro W hS; first | (go_simp; done) | (go_simp; with_reducible rfl))
        simp only [Act.put, List.setIfInBounds_toArray, List.set_cons_zero, List.set_cons_succ]
        refine reg_take (i := 6) (v := ?g41v) rfl (by kernel_rfl) (by kernel_rfl) (by kernel_rfl) (by kernel_rfl) (fun _ _ _ h => h) (by rfl) ?g41y (by assumption) ?g41r
        case g41y => (intro W hS; first | (go_simp; done) | (go_simp; with_reducible rfl))
        simp only [Act.put, List.setIfInBounds_toArray, List.set_cons_zero, List.set_cons_succ]
        refine reg_take (i := 7) (v := ?g42v) rfl (by kernel_rfl) (by kernel_rfl) (by kernel_rfl) (by kernel_rfl) (fun _ _ _ h => h) (by rfl) ?g42y (by assumption) ?g42r
        case g42y => (intro W hS; first | (go_simp; done) | (go_simp; with_reducible rfl))
        simp only [Act.put, List.setIfInBounds_toArray, List.set_cons_zero, List.set_cons_succ]
        refine reg_skip (i := 8) rfl (by kernel_rfl) (by kernel_rfl) (by kernel_rfl) (by kernel_rfl) (fun _ _ _ h => h) (by rfl) (by assumption) ?_
        simp only [Act.put, List.setIfInBounds_toArray, List.set_cons_zero, List.set_cons_succ]
        refine reg_skip (i := 9) rfl (by kernel_rfl) (by kernel_rfl) (by kernel_rfl) (by kernel_rfl) (fun _ _ _ h => h) (by rfl) (by assumption) ?_
        simp only [Act.put, List.setIfInBounds_toArray, List.set_cons_zero, List.set_cons_succ]
        refine reg_skip (i := 10) rfl (by kernel_rfl) (by kernel_rfl) (by kernel_rfl) (by kernel_rfl) (fun _ _ _ h => h) (by rfl) (by assumption) ?_
        simp only [Act.put, List.setIfInBounds_toArray, List.set_cons_zero, List.set_cons_succ]
        refine reg_skip (i := 11) rfl (by kernel_rfl) (by kernel_rfl) (by kernel_rfl) (by kernel_rfl) (fun _ _ _ h => h) (by rfl) (by assumption) ?_
        simp only [Act.put, List.setIfInBounds_toArray, List.set_cons_zero, List.set_cons_succ]
        refine reg_skip (i := 12) rfl (by kernel_rfl) (by kernel_rfl) (by kernel_rfl) (by kernel_rfl) (fun _ _ _ h => h) (by rfl) (by assumption) ?_
        simp only [Act.put, List.setIfInBounds_toArray, List.set_cons_zero, List.set_cons_succ]
        refine reg_skip (i := 13) rfl (by kernel_rfl) (by kernel_rfl) (by kernel_rfl) (by kernel_rfl) (fun _ _ _ h => h) (by rfl) (by assumption) ?_
        simp only [Act.put, List.setIfInBounds_toArray, List.set_cons_zero, List.set_cons_succ]
        refine reg_skip (i := 14) rfl (by kernel_rfl) (by kernel_rfl) (by kernel_rfl) (by kernel_rfl) (fun _ _ _ h => h) (by rfl) (by assumption) ?_
        simp only [Act.put, List.setIfInBounds_toArray, List.set_cons_zero, List.set_cons_succ]
        refine reg_skip (i := 15) rfl (by kernel_rfl) (by kernel_rfl) (by kernel_rfl) (by kernel_rfl) (fun _ _ _ h => h) (by rfl) (by assumption) ?_
        simp only [Act.put, List.setIfInBounds_toArray, List.set_cons_zero, List.set_cons_succ]
        refine reg_skip (i := 16) rfl (by kernel_rfl) (by kernel_rfl) (by kernel_rfl) (by kernel_rfl) (fun _ _ _ h => h) (by rfl) (by assumption) ?_
        simp only [Act.put, List.setIfInBounds_toArray, List.set_cons_zero, List.set_cons_succ]
        refine reg_skip (i := 17) rfl (by kernel_rfl) (by kernel_rfl) (by kernel_rfl) (by kernel_rfl) (fun _ _ _ h => h) (by rfl) (by assumption) ?_
        simp only [Act.put, List.setIfInBounds_toArray, List.set_cons_zero, List.set_cons_succ]
        refine reg_skip (i := 18) rfl (by kernel_rfl) (by kernel_rfl) (by kernel_rfl) (by kernel_rfl) (fun _ _ _ h => h) (by rfl) (by assumption) ?_
        simp only [Act.put, List.setIfInBounds_toArray, List.set_cons_zero, List.set_cons_succ]
        refine reg_take (i := 19) (v := ?g43v) rfl (by kernel_rfl) (by kernel_rfl) (by kernel_rfl) (by kernel_rfl) (fun _ _ _ h => h) (by rfl) ?g43y (by assumption) ?g43r
        case g43y => (intro W hS; first | (go_simp; done) | (go_simp; with_reducible rfl))
        simp only [Act.put, List.setIfInBounds_toArray, List.set_cons_zero, List.set_cons_succ]
        refine reg_take (i := 20) (v := ?g44v) rfl (by kernel_rfl) (by kernel_rfl) (by kernel_rfl) (by kernel_rfl) (fun _ _ _ h => h) (by rfl) ?g44y (by assumption) ?g44r
        case g44y => (intro W hS; first | (go_simp; done) | (go_simp; with_reducible rfl))
        simp only [Act.put, List.setIfInBounds_toArray, List.set_cons_zero, List.set_cons_succ]
        refine reg_take (i := 21) (v := ?g45v) rfl (by kernel_rfl) (by kernel_rfl) (by kernel_rfl) (by kernel_rfl) (fun _ _ _ h => h) (by rfl) ?g45y (by assumption) ?g45r
        case g45y => (intro W hS; first | (go_simp; done) | (go_simp; with_reducible rfl))
        simp only [Act.put, List.setIfInBounds_toArray, List.set_cons_zero, List.set_cons_succ]
        refine reg_take (i := 22) (v := ?g46v) rfl (by kernel_rfl) (by kernel_rfl) (by kernel_rfl) (by kernel_rfl) (fun _ _ _ h => h) (by rfl) ?g46y (by assumption) ?g46r
        case g46y => (intro W hS; first | (go_simp; done) | (go_simp; with_reducible rfl))
        simp only [Act.put, List.setIfInBounds_toArray, List.set_cons_zero, List.set_cons_succ]
        refine reg_take (i := 23) (v := ?g47v) rfl (by kernel_rfl) (by kernel_rfl) (by kernel_rfl) (by kernel_rfl) (fun _ _ _ h => h) (by rfl) ?g47y (by assumption) ?g47r
        case g47y => (intro W hS; first | (go_simp; done) | (go_simp; with_reducible rfl))
        simp only [Act.put, List.setIfInBounds_toArray, List.set_cons_zero, List.set_cons_succ]
        refine reg_take (i := 24) (v := ?g48v) rfl (by kernel_rfl) (by kernel_rfl) (by kernel_rfl) (by kernel_rfl) (fun _ _ _ h => h) (by rfl) ?g48y (by assumption) ?g48r
        case g48y => (intro W hS; first | (go_simp; done) | (go_simp; with_reducible rfl))
        simp only [Act.put, List.setIfInBounds_toArray, List.set_cons_zero, List.set_cons_succ]
        refine reg_take (i := 25) (v := ?g49v) rfl (by kernel_rfl) (by kernel_rfl) (by kernel_rfl) (by kernel_rfl) (fun _ _ _ h => h) (by rfl) ?g49y (by assumption) ?g49r
        case g49y => (intro W hS; have f0 := hS.cell hbx (fun h => h); have f2 := hS.cell q0 (fun h => h); have f3 := hS.cell q1 (fun h => h); have f4 := hS.cell q2 (fun h => h); first | (go_simp; done) | (go_simp; with_reducible rfl))
        simp only [Act.put, List.setIfInBounds_toArray, List.set_cons_zero, List.set_cons_succ]
        refine reg_take (i := 26) (v := ?g50v) rfl (by kernel_rfl) (by kernel_rfl) (by kernel_rfl) (by kernel_rfl) (fun _ _ _ h => h) (by rfl) ?g50y (by assumption) ?g50r
        case g50y => (intro W hS; first | (go_simp; done) | (go_simp; with_reducible rfl))
        simp only [Act.put, List.setIfInBounds_toArray, List.set_cons_zero, List.set_cons_succ]
        refine reg_one (i := 27) (by kernel_rfl) ?_
        refine op_call (i := 27) (#[.agg #[.slice none 0 0, .slice none 0 0, .string ByteArray.empty], .agg #[.slice none 0 0, .slice none 0 0, .string ByteArray.empty]]) rfl (by rfl) (enters_of Tryd.func19 (by kernel_rfl) rfl) (by first | (simp [Act.eval]; done) | rfl | (simp only [List.map_toArray, List.map_cons, List.map_nil, Act.eval]; rfl) | (simp [Act.eval]; trace_state; done)) ?_
        refine (HSM.out _).mono ?_
        rintro e W6 ⟨rfl, hb6⟩
        have hSc := hSc.trans (Chg.of_below0 (S := fun _ => False) hb6) (S'' := fun _ => False) (fun _ _ h => h) (fun _ _ h => h)
        clear hb6
        refine ⟨_, rfl, hSc, ?_⟩
        simp only [Act.put, List.setIfInBounds_toArray, List.set_cons_zero, List.set_cons_succ]
        refine reg_take (i := 28) (v := ?g51v) rfl (by kernel_rfl) (by kernel_rfl) (by kernel_rfl) (by kernel_rfl) (fun _ _ _ h => h) (by rfl) ?g51y (by assumption) ?g51r
        case g51y => (intro W hS; first | (go_simp; done) | (go_simp; with_reducible rfl))
        simp only [Act.put, List.setIfInBounds_toArray, List.set_cons_zero, List.set_cons_succ]
        refine reg_take (i := 29) (v := ?g52v) rfl (by kernel_rfl) (by kernel_rfl) (by kernel_rfl) (by kernel_rfl) (fun _ _ _ h => h) (by rfl) ?g52y (by assumption) ?g52r
        case g52y => (intro W hS; first | (go_simp; done) | (go_simp; with_reducible rfl))
        simp only [Act.put, List.setIfInBounds_toArray, List.set_cons_zero, List.set_cons_succ]
        refine reg_take (i := 30) (v := ?g53v) rfl (by kernel_rfl) (by kernel_rfl) (by kernel_rfl) (by kernel_rfl) (fun _ _ _ h => h) (by rfl) ?g53y (by assumption) ?g53r
        case g53y => (intro W hS; first | (go_simp; done) | (go_simp; with_reducible rfl))
        simp only [Act.put, List.setIfInBounds_toArray, List.set_cons_zero, List.set_cons_succ]
        refine wpAnyG_done (by kernel_rfl) ?_ _
        refine NoPanic.normal ?_
        have HS6 := hide hSc
        have q0 := HS6.out.cell HQ0.out (fun h => h)
        have q1 := HS6.out.cell HQ1.out (fun h => h)
        have q2 := HS6.out.cell HQ2.out (fun h => h)
        have HOC : Hid (Calls Tryd.prog 66 #[.agg #[.slice none 0 0, .slice none 0 0, .string ByteArray.empty]] W6 fun e w' => e = .returned (.tuple #[]) ∧ Below W6.heap.size W6 w') := hide (OverCommit_ok W6 cv0 ⟨World.ownsRow_nil _ _ _ _, World.ownsRow_nil _ _ _ _⟩ ⟨by decide, by decide⟩ (Nat.le_refl _))
        clear hS0 hSc hbx
        go_wp2_with fail
        refine HOC.out.mono ?_
        rintro e W7 ⟨rfl, hb7⟩
        have HC7 := hide ((HC.out.trans (HC4.out.trans HS6.out (S'' := fun _ => False) (fun _ _ h => h) (fun _ _ h => h)) (S'' := fun _ => False) (fun _ _ h => h) (fun _ _ h => h)).trans (Chg.of_below0 (S := fun _ => False) hb7) (S'' := fun _ => False) (fun _ _ h => h) (fun _ _ h => h))
        clear hb7 q0 q1 q2
        go_wp2_with fail
        go_roundw
        case rel => exact ⟨k + 1, by omega, by go_num, HC7.out⟩
        case measure => simp [intOf]; omega
    · obtain rfl : k = lq.length + 2 := by omega
      have d1 : decide (((lq.length + 2 : Nat) : Int) ≤ (lq.length : Int) + 1) = false := decide_eq_false (by omega)
      have hnn : ∀ (B : Nat) w', Sem.run Tryd.prog (binOp BinOp.neq 84 (.func (.func 100) #[] #[.pointer (some ⟨B, 0, none⟩)]) .nilFunc) w' = .ok (.bool true) w' := by intro B w'; kernel_rfl
      have HAG := hide hag
      have HAT := hide hat
      clear hag hat
      have ha1 := heap_alloc_new wo (.cells #[.int .i64 0] 3)
      have hs1 : (wo.alloc (.cells #[.int .i64 0] 3)).heap.size = wo.heap.size + 1 := World.size_alloc _ _
      have hca := Chg.alloc (fun _ => False) wo (.cells #[.int .i64 0] 3)
      generalize hwa : wo.alloc (.cells #[.int .i64 0] 3) = wa at ha1 hs1 hca
      have hb1 := (Chg.alloc (fun _ => False) wa (.cells #[.bool true] 4)).heap ha1 (fun h => h)
      have hb2 := heap_alloc_new wa (.cells #[.bool true] 4)
      rw [hs1] at hb2
      have hcb := hca.trans (Chg.alloc (fun _ => False) wa (.cells #[.bool true] 4)) (S'' := fun _ => False) (fun _ _ h => h) (fun _ _ h => h)
      have hs2 : (wa.alloc (.cells #[.bool true] 4)).heap.size = wo.heap.size + 2 := by rw [World.size_alloc, hs1]
      generalize hwb : wa.alloc (.cells #[.bool true] 4) = wb at hb1 hb2 hcb hs2
      have HWA := hide hwa
      have HWB := hide hwb
      have HX0 := hide hb1
      have HX1 := hide hb2
      have HCB := hide hcb
      have HS2 := hide hs2
      have HSA := hide hs1
      clear ha1 hs1 hca hwa hb1 hb2 hcb hs2 hwb
      go_wp2_with fail
      rw [HWA.out, HWB.out]
      refine (repo_All wb _ ⟨_, rfl⟩).mono ?_
      rintro e w5 ⟨rfl, hbox, hz5, hb5⟩
      have HBOX := hide hbox
      have HZ5 := hide hz5
      have hc5 := Chg.of_below0 (S := fun _ => False) hb5
      have hc15 := HC.out.trans (HCB.out.trans hc5 (S'' := fun _ => False) (fun _ _ h => h) (fun _ _ h => h)) (S'' := fun _ => False) (fun _ _ h => h) (fun _ _ h => h)
      have HY0 := hide (hc5.heap HX0.out (fun h => h))
      have HY1 := hide (hc5.heap HX1.out (fun h => h))
      have HYB := hide (hc15.heap HK1.out (fun h => h))
      have HAT5 := hide (H1.out.same hc15)
      have HAG5 := hide (G1.out.same hc15)
      have HB5 := hide (HB1.out.trans (hc15.below HB1.out.size (fun _ _ h => h)))
      have HRB : Hid (∀ k, RB p ao l k → k < w.heap.size) := hide (fun k hk => (HH.out.rbl hk).2)
      have HNB : Hid (∀ k, NB q aq lq k → k < w.heap.size) := hide (fun k hk => HG.out.nlt hk)
      have hwo : w.heap.size < wo.heap.size := by have := HC.out.size; have := (Array.getElem?_eq_some_iff.1 HK1.out).1; omega
      clear hbox hz5 hb5 hc5 hc15 hbx g0
      go_wp2_with fail
      refine (wpIn_wide (n := 9)).1 ?_
      have hB : wb.heap.size = wo.heap.size + 2 := HS2.out
      have hz5 : w5.heap.size = wo.heap.size + 3 := by rw [HZ5.out, hB]
      refine wpIn_range_Eb (α := Nat) (β := TC) rfl (by omega) (gf := 100) (lb := #[.pointer (some ⟨wb.heap.size, 0, none⟩)]) rfl trivial (enters_of Tryd.func100 (by kernel_rfl) rfl)
        (rp_all_seqe w5 wb.heap.size HAT5.out HBOX.out) (Kpt.refl _ _) (fun k hk => by rcases hk with rfl | hk; (· omega); (· have := HRB.out k hk; omega)) (fun D x args W h => by obtain ⟨_, _, _, rfl, _⟩ := h; rfl)
        (fun y => #[.int .i64 (1 + (y.k : Int)), .agg #[.slice y.po y.c.parents.length y.pc, .slice y.fo y.c.tree.length y.fc, .string y.c.note]]) (fun _ x y W => x = y.k ∧ (∃ h : x < l.length, l[x].c = y.c) ∧ Own W w5.heap.size y.v)
        (fun D x args W h => by obtain ⟨h1, vp, vt, rfl, h2, -⟩ := h; obtain ⟨po, pc, hpo⟩ := ownsRow_shape h2.ps; obtain ⟨fo, fc, hfo⟩ := ownsRow_shape h2.ts; simp only at hpo hfo; subst hpo hfo; exact ⟨⟨x, l[x].c, po, pc, fo, fc⟩, rfl, rfl, ⟨h1, rfl⟩, h2⟩) ?hY (fun _ _ _ W o h => ⟨h.1, h.2.1, h.2.2.chg (Chg.alloc (fun _ => False) W o) (fun _ _ _ h => h)⟩)
        33 (fun y => #[.slice y.po y.c.parents.length y.pc, .slice y.fo y.c.tree.length y.fc, .string y.c.note]) (fun y Bx t => (t.setIfInBounds 11 (.int .i64 (1 + (y.k : Int)))).setIfInBounds 12 (.pointer (some ⟨Bx, 0, none⟩)))
        (fun D pre Wr => AllSt w w.heap.size wo.heap.size (wo.heap.size + 1) q w5.heap.size D pre.length Wr) (fun _ _ _ _ => False) ?hI ?hIx ?h0 ?hIa ?assign ?body ?done ?stop
      case hI =>
        rintro D s A A' S D' ⟨h1, h2, h3, h4, h5, h6⟩ hc hS hs1 hs2
        have hno : ∀ k, k < w5.heap.size → k < A.heap.size → ¬ S k := fun k hk hA h => by
          rcases hS k hA h with h | h
          · have := h5 k h; omega
          · omega
        refine ⟨hc.heap h1 (hno _ (by omega) (by omega)), hc.heap h2 (hno _ (by omega) (by omega)), hc.heap h3 (hno _ (by omega) (by omega)), h4.trans (hc.below h4.size (fun k hk => hno k (by omega) (by omega))), fun k hk => ?_, Nat.le_trans h6 hc.size⟩
        rcases hs2 k hk with h | h
        · exact h5 k h
        · omega
      case hIx => exact fun c D s A A' S D' h _ _ _ _ => h.elim
      case h0 =>
        intro W' hc' hz'
        exact ⟨hc'.heap HY0.out (fun h => h), hc'.heap HY1.out (fun h => h), hc'.heap HYB.out (fun h => h), HB5.out.trans (hc'.below HB5.out.size (fun _ _ h => h)), fun _ h => h.elim, by omega⟩
      case hY =>
        rintro D x y A A' ⟨h1, h2, h3⟩ hc hn
        have hne : ∀ b, (y.v.vp.ownBlock = some b ∨ y.v.vt.ownBlock = some b) → b ≠ w5.heap.size + 1 := fun b hb e => by
          subst e
          rcases hb with hb | hb
          · exact NonC.not_owns h3.ps hb hn
          · exact NonC.not_owns h3.ts hb hn
        exact ⟨h1, h2, ⟨hc.owns h3.ps (fun b hb => hne b (.inl hb)), hc.owns h3.ts (fun b hb => hne b (.inr hb))⟩⟩
      case hIa =>
        rintro D s A o ⟨h1, h2, h3, h4, h5, h6⟩
        have c := Chg.alloc (fun _ => False) A o
        exact ⟨c.heap h1 (fun h => h), c.heap h2 (fun h => h), c.heap h3 (fun h => h), h4.trans (c.below h4.size (fun _ _ h => h)), h5, Nat.le_trans h6 c.size⟩
      case assign =>
        rintro lr ⟨k, yc, po, pc, fo, fc⟩ W1 K hK
        rw [told_two] at hK ⊢
        simp only [List.setIfInBounds_toArray, List.set_cons_zero, List.set_cons_succ] at hK ⊢
        have HK := hide hK
        clear hK
        gi_wp2_with fail
        exact HK.out
      case body =>
        rintro lr D pre x ⟨k, yc, po, pc, fo, fc⟩ Bx W1 hlr hbx hbc hit ⟨hxk, ⟨hx1, hxc⟩, hown⟩ hpre hnd hnd1 hn0 hn1
        obtain rfl : x = k := hxk
        obtain ⟨hxp, hxm⟩ := range_snoc hpre
        rw [told_two]
        simp only [List.setIfInBounds_toArray, List.set_cons_zero, List.set_cons_succ]
        subst hxp
        have hxq : pre.length < lq.length := by have := HLL.out; omega
        have hEQ := HEQ.out pre.length hx1 hxq
        simp only at hxc hbc hown
        rw [hxc] at hEQ
        have hj3 : (pre.length : Int) + 1 - 1 = (pre.length : Int) := by omega
        have hwj : IntKind.i64.wrap ((pre.length : Nat) : Int) = pre.length := IntWalk.i64_in _ (by omega)
        have hwj1 : IntKind.i64.wrap ((pre.length : Int) + 1) = (pre.length : Int) + 1 := IntWalk.i64_in _ (by omega)
        have hji : (pre.length : Int) < (lq.length : Int) := by omega
        have hq1 : ((1 + (pre.length : Int)) == (pre.length : Int) + 1) = true := by simp; omega
        have hq2 : decide ((pre.length : Int) + 1 ≤ (lq.length : Int)) = true := decide_eq_true (by omega)
        have hcn := cell_of_heap hit.cnt 0
        have hfn := free_of_heap hit.cnt 0
        have HIT := hide hit
        have HOWN := hide hown
        have HBC := hide hbc
        have HYE : Hid (∃ h : pre.length < lq.length, yc = lq[pre.length].c) := hide ⟨hxq, hEQ⟩
        clear hit hown hbc hxc hnd hnd1 hn0 hn1 hpre hx1 hxm hxq hlr hEQ
        gi_wp2_with fail
        have hs2 : (W1.setCell ⟨wo.heap.size, 0, none⟩ (.int .i64 ((pre.length : Int) + 1))).heap[wo.heap.size]? = some (.cells #[.int .i64 ((pre.length : Int) + 1)] 3 (0, 0)) := heap_setCell_same HIT.out.cnt (i := 0) _
        have hc2 := Chg.setCell W1 ⟨wo.heap.size, 0, none⟩ (.int .i64 ((pre.length : Int) + 1))
        generalize W1.setCell ⟨wo.heap.size, 0, none⟩ (.int .i64 ((pre.length : Int) + 1)) = W2 at hs2 hc2 ⊢
        have hag : RefAt base' W2 q aq cq lq roomq := (HG.out.same (Chg.of_below0 HIT.out.bel)).turn hc2 (fun k hk e => by have h1 := HNB.out k hk; have h2 : k = wo.heap.size := e; omega)
        obtain ⟨hbn, hEQ⟩ := HYE.out
        have hcy := (hag.cms lq[pre.length] (List.getElem_mem hbn)).1
        have hfew := (hag.cms lq[pre.length] (List.getElem_mem hbn)).2
        obtain ⟨a', c', e, -, hcs0⟩ := hag.rd.shape
        obtain ⟨b, off, rfl, hcs⟩ := hcs0 (by omega)
        cases e
        obtain ⟨hx0, hx1, hx2⟩ := cv_cells W2 b off lq hcs pre.length hbn
        have g0 := hag.c0
        obtain ⟨yy, hyy⟩ : ∃ yy, yy = lq[pre.length] := ⟨_, rfl⟩
        rw [← hyy] at hx0 hx1 hx2 hcy hfew hEQ
        clear hyy
        obtain ⟨zc, zp, zt⟩ := yy
        simp only at hx0 hx1 hx2 hfew hEQ
        subst hEQ
        have hzps : Rd W2 zp yc.parents.length (flat int_enc yc.parents) := hcy.ps
        have hzts : Rd W2 zt yc.tree.length (flat fl_enc yc.tree) := hcy.ts
        obtain ⟨zpo, zpc, rfl, -, -⟩ := hzps.shape
        obtain ⟨zto, ztc, rfl, -, -⟩ := hzts.shape
        have hbc2 := hc2.heap HBC.out (fun e => by have e' : Bx = wo.heap.size := e; omega)
        have hbb := hc2.heap HIT.out.box (fun e => by have e' : w.heap.size = wo.heap.size := e; omega)
        have hgd := hc2.heap HIT.out.good (fun e => by have e' : wo.heap.size + 1 = wo.heap.size := e; omega)
        have hown2 : Own W2 w5.heap.size ⟨yc, .slice po yc.parents.length pc, .slice fo yc.tree.length fc⟩ :=
          ⟨hc2.owns HOWN.out.ps (fun k hk e => by have h1 := (ownsRow_lt HOWN.out.ps k hk).1; have h2 : k = wo.heap.size := e; omega), hc2.owns HOWN.out.ts (fun k hk e => by have h1 := (ownsRow_lt HOWN.out.ts k hk).1; have h2 : k = wo.heap.size := e; omega)⟩
        have HSM := hide (fun W (hW : Chg (fun _ => False) W2 W) => same_cm W ⟨yc, .slice po yc.parents.length pc, .slice fo yc.tree.length fc⟩ ⟨yc, .slice zpo yc.parents.length zpc, .slice zto yc.tree.length ztc⟩ ((hown2.chg hW (fun _ _ _ h => h)).at) (hcy.same hW) hfew rfl)
        have q0 := cell_of_heap hbc2 0
        have q1 := cell_of_heap hbc2 1
        have q2 := cell_of_heap hbc2 2
        have qb := cell_of_heap hbb 0
        have qg := cell_of_heap hgd 0
        have qn := cell_of_heap hs2 0
        simp at q0 q1 q2
        have HS2' := hide hs2
        have HC2 := hide hc2
        have HGD := hide hgd
        clear hs2 hc2 hbc2 hbb hown2 hzps hzts hcy hfew hcs hcs0 hag hgd hcn hfn
        refine reg_start_in (Chg (fun _ => False) W2) 28 27 (by rfl) (by kernel_rfl) (by kernel_rfl) (by rintro ⟨_, _, h⟩; exact h) (Chg.drew _ _) ?_
        intro hS0
        have hSc := hS0
        refine reg_take (i := 0) (v := ?g55v) rfl (by kernel_rfl) (by kernel_rfl) (by kernel_rfl) (by kernel_rfl) (fun _ _ _ h => h) (by rfl) ?g55y (by assumption) ?g55r
        case g55y => (intro W hS; have f0 := hS.cell qb (fun h => h); have f1 := hS.cell g0 (fun h => h); have f2 := hS.cell q0 (fun h => h); have f3 := hS.cell q1 (fun h => h); have f4 := hS.cell q2 (fun h => h); have f5 := hS.cell hx0 (fun h => h); have f6 := hS.cell hx1 (fun h => h); have f7 := hS.cell hx2 (fun h => h); have f8 := hS.cell qg (fun h => h); have f9 := hS.cell qn (fun h => h); first | (go_simp; done) | (go_simp; with_reducible rfl))
        simp only [Act.put, List.setIfInBounds_toArray, List.set_cons_zero, List.set_cons_succ]
        refine reg_take (i := 1) (v := ?g56v) rfl (by kernel_rfl) (by kernel_rfl) (by kernel_rfl) (by kernel_rfl) (fun _ _ _ h => h) (by rfl) ?g56y (by assumption) ?g56r
        case g56y => (intro W hS; first | (go_simp; done) | (go_simp; with_reducible rfl))
        simp only [Act.put, List.setIfInBounds_toArray, List.set_cons_zero, List.set_cons_succ]
        refine reg_take (i := 2) (v := ?g57v) rfl (by kernel_rfl) (by kernel_rfl) (by kernel_rfl) (by kernel_rfl) (fun _ _ _ h => h) (by rfl) ?g57y (by assumption) ?g57r
        case g57y => (intro W hS; first | (go_simp; done) | (go_simp; with_reducible rfl))
        simp only [Act.put, List.setIfInBounds_toArray, List.set_cons_zero, List.set_cons_succ]
        refine reg_take (i := 3) (v := ?g58v) rfl (by kernel_rfl) (by kernel_rfl) (by kernel_rfl) (by kernel_rfl) (fun _ _ _ h => h) (by rfl) ?g58y (by assumption) ?g58r
        case g58y => (intro W hS; have f0 := hS.cell qb (fun h => h); have f1 := hS.cell g0 (fun h => h); have f2 := hS.cell q0 (fun h => h); have f3 := hS.cell q1 (fun h => h); have f4 := hS.cell q2 (fun h => h); have f5 := hS.cell hx0 (fun h => h); have f6 := hS.cell hx1 (fun h => h); have f7 := hS.cell hx2 (fun h => h); have f8 := hS.cell qg (fun h => h); have f9 := hS.cell qn (fun h => h); first | (go_simp; done) | (go_simp; with_reducible rfl))
        simp only [Act.put, List.setIfInBounds_toArray, List.set_cons_zero, List.set_cons_succ]
        refine reg_take (i := 4) (v := ?g59v) rfl (by kernel_rfl) (by kernel_rfl) (by kernel_rfl) (by kernel_rfl) (fun _ _ _ h => h) (by rfl) ?g59y (by assumption) ?g59r
        case g59y => (intro W hS; first | (go_simp; done) | (go_simp; with_reducible rfl))
        simp only [Act.put, List.setIfInBounds_toArray, List.set_cons_zero, List.set_cons_succ]
        refine reg_take (i := 5) (v := ?g60v) rfl (by kernel_rfl) (by kernel_rfl) (by kernel_rfl) (by kernel_rfl) (fun _ _ _ h => h) (by rfl) ?g60y (by assumption) ?g60r
        case g60y => (intro W hS; first | (go_simp; done) | (go_simp; with_reducible rfl))
        simp only [Act.put, List.setIfInBounds_toArray, List.set_cons_zero, List.set_cons_succ]
        refine reg_take (i := 6) (v := ?g61v) rfl (by kernel_rfl) (by kernel_rfl) (by kernel_rfl) (by kernel_rfl) (fun _ _ _ h => h) (by rfl) ?g61y (by assumption) ?g61r
        case g61y => (intro W hS; first | (go_simp; done) | (go_simp; with_reducible rfl))
        simp only [Act.put, List.setIfInBounds_toArray, List.set_cons_zero, List.set_cons_succ]
        refine reg_take (i := 7) (v := ?g62v) rfl (by kernel_rfl) (by kernel_rfl) (by kernel_rfl) (by kernel_rfl) (fun _ _ _ h => h) (by rfl) ?g62y (by assumption) ?g62r
        case g62y => (intro W hS; have f0 := hS.cell qb (fun h => h); have f1 := hS.cell g0 (fun h => h); have f2 := hS.cell q0 (fun h => h); have f3 := hS.cell q1 (fun h => h); have f4 := hS.cell q2 (fun h => h); have f5 := hS.cell hx0 (fun h => h); have f6 := hS.cell hx1 (fun h => h); have f7 := hS.cell hx2 (fun h => h); have f8 := hS.cell qg (fun h => h); have f9 := hS.cell qn (fun h => h); first | (go_simp; done) | (go_simp; with_reducible rfl))
        simp only [Act.put, List.setIfInBounds_toArray, List.set_cons_zero, List.set_cons_succ]
        refine reg_take (i := 8) (v := ?g63v) rfl (by kernel_rfl) (by kernel_rfl) (by kernel_rfl) (by kernel_rfl) (fun _ _ _ h => h) (by rfl) ?g63y (by assumption) ?g63r
        case g63y => (intro W hS; have f0 := hS.cell qb (fun h => h); have f1 := hS.cell g0 (fun h => h); have f2 := hS.cell q0 (fun h => h); have f3 := hS.cell q1 (fun h => h); have f4 := hS.cell q2 (fun h => h); have f5 := hS.cell hx0 (fun h => h); have f6 := hS.cell hx1 (fun h => h); have f7 := hS.cell hx2 (fun h => h); have f8 := hS.cell qg (fun h => h); have f9 := hS.cell qn (fun h => h); first | (go_simp; done) | (go_simp; with_reducible rfl))
        simp only [Act.put, List.setIfInBounds_toArray, List.set_cons_zero, List.set_cons_succ]
        refine reg_take (i := 9) (v := ?g64v) rfl (by kernel_rfl) (by kernel_rfl) (by kernel_rfl) (by kernel_rfl) (fun _ _ _ h => h) (by rfl) ?g64y (by assumption) ?g64r
        case g64y => (intro W hS; first | (go_simp; done) | (go_simp; with_reducible rfl))
        simp only [Act.put, List.setIfInBounds_toArray, List.set_cons_zero, List.set_cons_succ]
        refine reg_take (i := 10) (v := ?g65v) rfl (by kernel_rfl) (by kernel_rfl) (by kernel_rfl) (by kernel_rfl) (fun _ _ _ h => h) (by rfl) ?g65y (by assumption) ?g65r
        case g65y => (intro W hS; first | (go_simp; done) | (go_simp; with_reducible rfl))
        simp only [Act.put, List.setIfInBounds_toArray, List.set_cons_zero, List.set_cons_succ]
        refine reg_take (i := 11) (v := ?g66v) rfl (by kernel_rfl) (by kernel_rfl) (by kernel_rfl) (by kernel_rfl) (fun _ _ _ h => h) (by rfl) ?g66y (by assumption) ?g66r
        case g66y => (intro W hS; have f0 := hS.cell qb (fun h => h); have f1 := hS.cell g0 (fun h => h); have f2 := hS.cell q0 (fun h => h); have f3 := hS.cell q1 (fun h => h); have f4 := hS.cell q2 (fun h => h); have f5 := hS.cell hx0 (fun h => h); have f6 := hS.cell hx1 (fun h => h); have f7 := hS.cell hx2 (fun h => h); have f8 := hS.cell qg (fun h => h); have f9 := hS.cell qn (fun h => h); first | (go_simp; done) | (go_simp; with_reducible rfl))
        simp only [Act.put, List.setIfInBounds_toArray, List.set_cons_zero, List.set_cons_succ]
        refine reg_take (i := 12) (v := ?g67v) rfl (by kernel_rfl) (by kernel_rfl) (by kernel_rfl) (by kernel_rfl) (fun _ _ _ h => h) (by rfl) ?g67y (by assumption) ?g67r
        case g67y => (intro W hS; first | (go_simp; done) | (go_simp; with_reducible rfl))
        simp only [Act.put, List.setIfInBounds_toArray, List.set_cons_zero, List.set_cons_succ]
        refine reg_take (i := 13) (v := ?g68v) rfl (by kernel_rfl) (by kernel_rfl) (by kernel_rfl) (by kernel_rfl) (fun _ _ _ h => h) (by rfl) ?g68y (by assumption) ?g68r
        case g68y => (intro W hS; first | (go_simp; done) | (go_simp; with_reducible rfl))
        simp only [Act.put, List.setIfInBounds_toArray, List.set_cons_zero, List.set_cons_succ]
        refine reg_take (i := 14) (v := ?g69v) rfl (by kernel_rfl) (by kernel_rfl) (by kernel_rfl) (by kernel_rfl) (fun _ _ _ h => h) (by rfl) ?g69y (by assumption) ?g69r
        case g69y => (intro W hS; first | (go_simp; done) | (go_simp; with_reducible rfl))
        simp only [Act.put, List.setIfInBounds_toArray, List.set_cons_zero, List.set_cons_succ]
        refine reg_take (i := 15) (v := ?g70v) rfl (by kernel_rfl) (by kernel_rfl) (by kernel_rfl) (by kernel_rfl) (fun _ _ _ h => h) (by rfl) ?g70y (by assumption) ?g70r
        case g70y => (intro W hS; first | (go_simp; done) | (go_simp; with_reducible rfl))
        simp only [Act.put, List.setIfInBounds_toArray, List.set_cons_zero, List.set_cons_succ]
        refine reg_take (i := 16) (v := ?g71v) rfl (by kernel_rfl) (by kernel_rfl) (by kernel_rfl) (by kernel_rfl) (fun _ _ _ h => h) (by rfl) ?g71y (by assumption) ?g71r
        case g71y => (intro W hS; have f0 := hS.cell qb (fun h => h); have f1 := hS.cell g0 (fun h => h); have f2 := hS.cell q0 (fun h => h); have f3 := hS.cell q1 (fun h => h); have f4 := hS.cell q2 (fun h => h); have f5 := hS.cell hx0 (fun h => h); have f6 := hS.cell hx1 (fun h => h); have f7 := hS.cell hx2 (fun h => h); have f8 := hS.cell qg (fun h => h); have f9 := hS.cell qn (fun h => h); first | (go_simp; done) | (go_simp; with_reducible rfl))
        simp only [Act.put, List.setIfInBounds_toArray, List.set_cons_zero, List.set_cons_succ]
        refine reg_take (i := 17) (v := ?g72v) rfl (by kernel_rfl) (by kernel_rfl) (by kernel_rfl) (by kernel_rfl) (fun _ _ _ h => h) (by rfl) ?g72y (by assumption) ?g72r
        case g72y => (intro W hS; have f0 := hS.cell qb (fun h => h); have f1 := hS.cell g0 (fun h => h); have f2 := hS.cell q0 (fun h => h); have f3 := hS.cell q1 (fun h => h); have f4 := hS.cell q2 (fun h => h); have f5 := hS.cell hx0 (fun h => h); have f6 := hS.cell hx1 (fun h => h); have f7 := hS.cell hx2 (fun h => h); have f8 := hS.cell qg (fun h => h); have f9 := hS.cell qn (fun h => h); first | (go_simp; done) | (go_simp; with_reducible rfl))
        simp only [Act.put, List.setIfInBounds_toArray, List.set_cons_zero, List.set_cons_succ]
        refine reg_take (i := 18) (v := ?g73v) rfl (by kernel_rfl) (by kernel_rfl) (by kernel_rfl) (by kernel_rfl) (fun _ _ _ h => h) (by rfl) ?g73y (by assumption) ?g73r
        case g73y => (intro W hS; first | (go_simp; done) | (go_simp; with_reducible rfl))
        simp only [Act.put, List.setIfInBounds_toArray, List.set_cons_zero, List.set_cons_succ]
        refine reg_take (i := 19) (v := ?g74v) rfl (by kernel_rfl) (by kernel_rfl) (by kernel_rfl) (by kernel_rfl) (fun _ _ _ h => h) (by rfl) ?g74y (by assumption) ?g74r
        case g74y => (intro W hS; first | (go_simp; done) | (go_simp; with_reducible rfl))
        simp only [Act.put, List.setIfInBounds_toArray, List.set_cons_zero, List.set_cons_succ]
        refine reg_take (i := 20) (v := ?g75v) rfl (by kernel_rfl) (by kernel_rfl) (by kernel_rfl) (by kernel_rfl) (fun _ _ _ h => h) (by rfl) ?g75y (by assumption) ?g75r
        case g75y => (intro W hS; have f0 := hS.cell qb (fun h => h); have f1 := hS.cell g0 (fun h => h); have f2 := hS.cell q0 (fun h => h); have f3 := hS.cell q1 (fun h => h); have f4 := hS.cell q2 (fun h => h); have f5 := hS.cell hx0 (fun h => h); have f6 := hS.cell hx1 (fun h => h); have f7 := hS.cell hx2 (fun h => h); have f8 := hS.cell qg (fun h => h); have f9 := hS.cell qn (fun h => h); first | (go_simp; done) | (go_simp; with_reducible rfl))
        simp only [Act.put, List.setIfInBounds_toArray, List.set_cons_zero, List.set_cons_succ]
        refine reg_take (i := 21) (v := ?g76v) rfl (by kernel_rfl) (by kernel_rfl) (by kernel_rfl) (by kernel_rfl) (fun _ _ _ h => h) (by rfl) ?g76y (by assumption) ?g76r
        case g76y => (intro W hS; have f0 := hS.cell qb (fun h => h); have f1 := hS.cell g0 (fun h => h); have f2 := hS.cell q0 (fun h => h); have f3 := hS.cell q1 (fun h => h); have f4 := hS.cell q2 (fun h => h); have f5 := hS.cell hx0 (fun h => h); have f6 := hS.cell hx1 (fun h => h); have f7 := hS.cell hx2 (fun h => h); have f8 := hS.cell qg (fun h => h); have f9 := hS.cell qn (fun h => h); first | (go_simp; done) | (go_simp; with_reducible rfl))
        simp only [Act.put, List.setIfInBounds_toArray, List.set_cons_zero, List.set_cons_succ]
        refine reg_take (i := 22) (v := ?g77v) rfl (by kernel_rfl) (by kernel_rfl) (by kernel_rfl) (by kernel_rfl) (fun _ _ _ h => h) (by rfl) ?g77y (by assumption) ?g77r
        case g77y => (intro W hS; first | (go_simp; done) | (go_simp; with_reducible rfl))
        simp only [Act.put, List.setIfInBounds_toArray, List.set_cons_zero, List.set_cons_succ]
        refine reg_take (i := 23) (v := ?g78v) rfl (by kernel_rfl) (by kernel_rfl) (by kernel_rfl) (by kernel_rfl) (fun _ _ _ h => h) (by rfl) ?g78y (by assumption) ?g78r
        case g78y => (intro W hS; first | (go_simp; done) | (go_simp; with_reducible rfl))
        simp only [Act.put, List.setIfInBounds_toArray, List.set_cons_zero, List.set_cons_succ]
        refine reg_take (i := 24) (v := ?g79v) rfl (by kernel_rfl) (by kernel_rfl) (by kernel_rfl) (by kernel_rfl) (fun _ _ _ h => h) (by rfl) ?g79y (by assumption) ?g79r
        case g79y => (intro W hS; have f0 := hS.cell qb (fun h => h); have f1 := hS.cell g0 (fun h => h); have f2 := hS.cell q0 (fun h => h); have f3 := hS.cell q1 (fun h => h); have f4 := hS.cell q2 (fun h => h); have f5 := hS.cell hx0 (fun h => h); have f6 := hS.cell hx1 (fun h => h); have f7 := hS.cell hx2 (fun h => h); have f8 := hS.cell qg (fun h => h); have f9 := hS.cell qn (fun h => h); first | (go_simp; done) | (go_simp; with_reducible rfl))
        simp only [Act.put, List.setIfInBounds_toArray, List.set_cons_zero, List.set_cons_succ]
        refine reg_one (i := 25) (by kernel_rfl) ?_
        refine op_call (i := 25) (#[.agg #[.slice po yc.parents.length pc, .slice fo yc.tree.length fc, .string yc.note], .agg #[.slice zpo yc.parents.length zpc, .slice zto yc.tree.length ztc, .string yc.note]]) rfl (by rfl) (enters_of Tryd.func19 (by kernel_rfl) rfl) (by first | (simp [Act.eval]; done) | rfl | (simp only [List.map_toArray, List.map_cons, List.map_nil, Act.eval]; rfl) | (simp [Act.eval]; trace_state; done)) ?_
        refine (HSM.out _ hSc).mono ?_
        rintro e W6 ⟨rfl, hb6⟩
        have hSc := hSc.trans (Chg.of_below0 (S := fun _ => False) hb6) (S'' := fun _ => False) (fun _ _ h => h) (fun _ _ h => h)
        have hg6 := hSc.heap HGD.out (fun h => h)
        have f8 := cell_of_heap hg6 0
        have e8 := free_of_heap hg6 0
        clear hb6
        refine ⟨_, rfl, hSc, ?_⟩
        simp only [Act.put, List.setIfInBounds_toArray, List.set_cons_zero, List.set_cons_succ]
        refine reg_take (i := 26) (v := ?g80v) rfl (by kernel_rfl) (by kernel_rfl) (by kernel_rfl) (by kernel_rfl) (fun _ _ _ h => h) (by rfl) ?g80y (by assumption) ?g80r
        case g80y => (intro W hS; first | (go_simp; done) | (go_simp; with_reducible rfl))
        simp only [Act.put, List.setIfInBounds_toArray, List.set_cons_zero, List.set_cons_succ]
        refine reg_late (i := 27) (by kernel_rfl) (by decide) ?_
        refine op_store (i := 27) rfl (by rfl) (w' := W6.setCell ⟨wo.heap.size + 1, 0, none⟩ (.bool true)) (by go_simp) ?_
        simp only [Act.put]
        refine wpAnyG_done (by kernel_rfl) ?_ _
        have HS6 := hide hSc
        have hc5 : Chg (fun k => k = wo.heap.size ∨ k = wo.heap.size + 1) W1 (W6.setCell ⟨wo.heap.size + 1, 0, none⟩ (.bool true)) :=
          (HC2.out.trans HS6.out (S'' := fun k => k = wo.heap.size) (fun _ _ h => h) (fun _ _ h => h.elim)).trans (Chg.setCell _ _ _) (fun _ _ h => .inl h) (fun _ _ h => .inr h)
        have hg5 := heap_setCell_same (HS6.out.heap HGD.out (fun h => h)) (i := 0) (.bool true)
        have hn5 := (Chg.setCell W6 ⟨wo.heap.size + 1, 0, none⟩ (.bool true)).heap (HS6.out.heap HS2'.out (fun h => h)) (fun e => by have e' : wo.heap.size = wo.heap.size + 1 := e; omega)
        have HX5 := hide (And.intro hc5 (And.intro hg5 hn5))
        clear hS0 hSc hg6 f8 e8 hc5 hg5 hn5 q0 q1 q2 qb qg qn hx0 hx1 hx2 g0
        generalize W6.setCell ⟨wo.heap.size + 1, 0, none⟩ (.bool true) = W7 at HX5 ⊢
        gi_wp2_with fail
        obtain ⟨hc5, hg5, hn5⟩ := HX5.out
        have hit := HIT.out
        refine ⟨Kpt.of_chg hc5 (fun k _ hr h => ?_), ⟨?_, hg5, hc5.heap hit.box (fun h => by have h' : w.heap.size = wo.heap.size ∨ w.heap.size = wo.heap.size + 1 := h; omega), hit.bel.trans (hc5.below hit.bel.size (fun k hk h => by omega)), fun k hk => by have := hit.far k hk; omega, by have := hit.big; have := hc5.size; omega⟩⟩
        · rcases hr with (h1 | h1) | h1 | h1 | h1
          · omega
          · have := HRB.out k h1; omega
          · have := hit.far k h1; omega
          · omega
          · omega
        · rw [List.length_append]; simpa using hn5
      case stop => exact fun _ _ _ _ _ h => h.elim
      case done =>
        intro D Wd hit hdef hnd
        have hag := HG.out.same (Chg.of_below0 hit.bel)
        have g0 := hag.c0
        have gn := cell_of_heap hit.cnt 0
        have gg := cell_of_heap hit.good 0
        have gb := cell_of_heap hit.box 0
        have hlr : (List.range l.length).length = lq.length := by rw [List.length_range, HLL.out]
        rw [hlr] at gn
        have HIT := hide hit
        have HDEF := hide hdef
        clear hag hit hdef hnd hlr
        go_wp2_with fail
        go_quiet (fail)
        go_wp2_with fail
        have hd3 : (Wd.drewN nq).heap[w5.heap.size]? = some (.deferred (some [])) := HDEF.out
        refine ⟨by simp, .inl ⟨_, _, rfl, run_takeDeferred hd3, ?_⟩⟩
        have hp := chg_putObj (Wd.drewN nq) w5.heap.size (.deferred none)
        have hbw : Below w.heap.size w (Wd.drewN nq) := bdrewN HIT.out.bel nq
        exact ⟨_, results_tmp rfl _ _ _, rfl, hbw.trans (hp.below hbw.size (fun k hk e => by omega))⟩
end Go.Proofs.YtnnkbicaokckbaaDoor
