/- PileScript: whatever is put, popped and removed, the first is always the least, of like ones the one that was put earlier; so it is gone through. Conditions: none. -/
import Derived.Test.YtjgcicpclojfgaaRows
import Derived.WalkKit
import Derived.ProofKit
import Derived.OpenShut
import Derived.ShutString
import Derived.ChangeOld
import Derived.Below
import Derived.Test.YtjgcicpclojfgaaPtO
import Derived.Test.YtjgcicpclojfgaaIterB
import Derived.Laws.StructEq
import Derived.Deep.DeepCutAuto
import Derived.Deep.CutBlock
namespace Go.Proofs.Ytjgcicpclojfgaa
open Go.ChangeShapes Go.WideShapes Go.ChangeAt Go.RowKit
open Go.ChangeMaps (open_string shut_string)
set_option linter.unusedVariables false

theorem law_own : ownKnob Try.prog.godebug = none := by kernel_rfl
theorem law_laid : laidOutB Try.prog = true := by kernel_rfl
open Go.Shelf
attribute [local go_sem] Oper.semAt_some

theorem rdP {w : World} {ao : Option Addr} {n c : Nat} {cs : List Value} (h : Rd w (.slice ao n c) n cs) (hn : 0 < n) : ∃ b off, ao = some ⟨b, off, none⟩ ∧ CellsAt w b off cs := by
  obtain ⟨ao', cap, e, -, h⟩ := h.shape
  cases e
  exact h hn

/-- The list that the statement keeps, in its box. -/
structure ListAt (base : Nat) (w : World) (lb : Nat) (vl : Value) (l : List Th) (P : Nat → Prop) : Prop where
  box : w.heap[lb]? = some (.cells #[vl] 45 (0, 0))
  rd : Rd w vl l.length (flat pt_enc l)
  row : ∀ b, vl.ownBlock = some b → flat pt_enc l ≠ [] → base ≤ b ∧ b < w.heap.size ∧ b ≠ lb ∧ ¬ P b
  low : base ≤ lb
  far : ¬ P lb
theorem ListAt.chg {base : Nat} {w w' : World} {lb : Nat} {vl : Value} {l : List Th} {P P' S : Nat → Prop} (h : ListAt base w lb vl l P) (c : Chg S w w') (h1 : ¬ S lb) (h2 : ∀ b, vl.ownBlock = some b → flat pt_enc l ≠ [] → ¬ S b) (h3 : ∀ k, k < w.heap.size → P' k → P k) : ListAt base w' lb vl l P' :=
  ⟨c.heap h.box h1, h.rd.chg c h2, fun b hb hne => by obtain ⟨a1, a2, a3, a4⟩ := h.row b hb hne; exact ⟨a1, Nat.lt_of_lt_of_le a2 c.size, a3, fun h => a4 (h3 b a2 h)⟩, h.low, fun hp => h.far (h3 lb (Array.getElem?_eq_some_iff.1 h.box).1 hp)⟩
theorem ListAt.lt {base : Nat} {w : World} {lb : Nat} {vl : Value} {l : List Th} {P : Nat → Prop} (h : ListAt base w lb vl l P) : lb < w.heap.size := (Array.getElem?_eq_some_iff.1 h.box).1

def ScrP (W : World) (p lb k : Nat) (wr : World) : Prop := ∃ ao cap l vl, pt_At W.heap.size wr p 23 ao cap l ∧ ListAt W.heap.size wr lb vl l (PSet p ao) ∧ l.length ≤ k ∧ Below W.heap.size W wr

/-- Behind 'list = ..'. -/
theorem scr_set {W w : World} {p lb k : Nat} {ao : Option Addr} {cap : Nat} {v vl : Value} {l : List Th} (hp : pt_At W.heap.size w p 23 ao cap l) (hbx : w.heap[lb]? = some (.cells #[vl] 45 (0, 0))) (hlow : W.heap.size ≤ lb) (hfar : ¬ PSet p ao lb)
    (hrd : Rd w v l.length (flat pt_enc l)) (hrow : ∀ b, v.ownBlock = some b → flat pt_enc l ≠ [] → W.heap.size ≤ b ∧ b < w.heap.size ∧ b ≠ lb ∧ ¬ PSet p ao b) (hk : l.length ≤ k) (hb : Below W.heap.size W w) : ScrP W p lb k (w.setCell ⟨lb, 0, none⟩ v) := by
  have c2 := Chg.setCell w ⟨lb, 0, none⟩ v
  refine ⟨ao, cap, l, v, PileAt.chg hp c2 (fun j hj e => by subst e; exact hfar hj), ⟨heap_setCell_same hbx _, hrd.chg c2 (fun b h1 h2 e => (hrow b h1 h2).2.2.1 e), fun b h1 h2 => ?_, hlow, hfar⟩, hk, hb.setCell (by exact hlow) _⟩
  obtain ⟨a1, a2, a3, a4⟩ := hrow b h1 h2
  exact ⟨a1, Nat.lt_of_lt_of_le a2 c2.size, a3, a4⟩
/-- The same, of a row that is new. -/
theorem scr_new {W w6 w10 : World} {p lb n4 k : Nat} {ao ao4 : Option Addr} {cap cap4 : Nat} {vl : Value} {l l' : List Th} (hp : pt_At W.heap.size w6 p 23 ao cap l') (hl : ListAt W.heap.size w6 lb vl l (PSet p ao)) (hc : Chg (fun _ => False) w6 w10)
    (ho : w10.ownsRow w6.heap.size 43 2 (.slice ao4 n4 cap4) n4 (flat pt_enc l')) (hn : n4 = l'.length) (hk : n4 ≤ k) (hb : Below W.heap.size W w6) : ScrP W p lb k (w10.setCell ⟨lb, 0, none⟩ (.slice ao4 n4 cap4)) := by
  have hll := hl.lt
  have hpl := PileAt.lt hp
  subst hn
  refine scr_set (PileAt.chg hp hc (fun _ _ h => h)) (hc.heap hl.box (fun h => h)) hl.low hl.far (Rd.of_owns ho) (fun b h1 _ => ?_) hk (hb.trans (hc.below hb.size (fun _ _ h => h)))
  have h2 := ownsRow_lt ho b h1
  exact ⟨Nat.le_trans hb.size h2.1, h2.2, by omega, fun h => by have := (hpl b h).2; omega⟩
/-- A row of things of the call's own. -/
def OwnT (w0 W : World) (v : Value) (xs : List Th) : Prop :=
  ∃ ao cap, v = .slice ao xs.length cap ∧ W.ownsRow w0.heap.size 43 2 (.slice ao xs.length cap) xs.length (flat pt_enc xs) ∧ Chg (fun _ => False) w0 W

/-- While the pile is gone through. -/
structure ItP (W : World) (p lb nb : Nat) (ao : Option Addr) (cap : Nat) (l : List Th) (vl : Value) (D : Nat → Prop) (pre : List Th) (Wr : World) : Prop where
  cnt : Wr.heap[nb]? = some (.cells #[.int .i64 pre.length] 3 (0, 0))
  same : Wr.heap[nb + 1]? = some (.cells #[.bool true] 4 (0, 0))
  list : ListAt W.heap.size Wr lb vl l (PSet p ao)
  pile : pt_At W.heap.size Wr p 23 ao cap l
  bel : Below W.heap.size W Wr
  far : ∀ k, D k → nb + 5 ≤ k ∧ k < Wr.heap.size
  big : nb + 5 ≤ Wr.heap.size
theorem ItP.chg {W : World} {p lb nb B : Nat} {ao : Option Addr} {cap : Nat} {l : List Th} {vl : Value} {D S : Nat → Prop} {pre : List Th} {A A' : World} (h : ItP W p lb nb ao cap l vl D pre A) (c : Chg S A A') (hS : ∀ j, j < A.heap.size → S j → D j ∨ ((j = B ∨ j = B + 1) ∧ NonC A j)) (hB : B = nb + 3)
    (hW : W.heap.size ≤ nb) (hp : ∀ j, PSet p ao j → j < nb) (hl : lb < nb) (hr : ∀ b, vl.ownBlock = some b → flat pt_enc l ≠ [] → b < nb) : ItP W p lb nb ao cap l vl (Plus D A A') pre A' := by
  have hno : ∀ j, j < nb + 3 → ¬ S j := fun j hj hs => by
    rcases hS j (by have := h.big; omega) hs with h1 | h1
    · have := (h.far j h1).1; omega
    · omega
  refine ⟨c.heap h.cnt (hno _ (by omega)), c.heap h.same (hno _ (by omega)), h.list.chg c (hno _ (by omega)) (fun b h1 h2 => hno _ (by have := hr b h1 h2; omega)) (fun _ _ h => h), PileAt.chg h.pile c (fun j hj => hno _ (by have := hp j hj; omega)), h.bel.trans (c.below h.bel.size (fun j hj => hno _ (by omega))), fun k hk => ?_, Nat.le_trans h.big c.size⟩
  have := c.size
  rcases hk with h1 | h1
  · have := h.far k h1; omega
  · have := h.big; omega
theorem prefix_get {α : Type} {pre l : List α} {x : α} (h : (pre ++ [x]) <+: l) : ∃ hl : pre.length < l.length, l[pre.length] = x := by
  obtain ⟨t, rfl⟩ := h
  exact ⟨by simp, by simp⟩

set_option maxRecDepth 100000 in
set_option maxHeartbeats 16000000 in
theorem PileScript_walk {H : Type} {enc : TypeId × Value → H} (W : World) (a0 : Option Addr) (n0 c0 : Nat) (hv : Readable enc Try.prog W 39 [.slice a0 n0 c0]) :
    Calls Try.prog 5 #[.slice a0 n0 c0] W fun e W' => e = .returned (.bool true) ∧ Below W.heap.size W W' := by
  obtain ⟨v', acts, hv', hr, hl, hbl⟩ := actsP_of_readable hv
  obtain rfl : .slice a0 n0 c0 = v' := by simpa using hv'
  obtain ⟨ao', cap', e, -, -⟩ := hr.shape
  cases e
  have HR := hide hr
  have HBL := hide hbl
  have hmx : acts.length ≤ 9223372036854775807 := hl
  clear hr hbl hv hv' hl
  refine (callsIn_wide (n := 9)).1 ?_
  refine callsIn_of_wp_marks Try.func5 rfl trivial ?_ rfl
  simp only [Try.ntmps5, List.size_toArray, List.length_cons, List.length_nil, Nat.reduceAdd, Nat.reduceSub, Array.replicate_succ, Array.replicate_zero, List.push_toArray, List.append_toArray, List.nil_append, List.cons_append]
  refine wpIn_wide.2 ?_
  by_cases hlen : acts.length ≤ 80
  · have d8 : decide ((acts.length : Int) > 80) = false := decide_eq_false (by omega)
    go_wp2_with fail
    refine (pt_New W 23).mono ?_
    rintro e w1 ⟨rfl, hp, hb⟩
    have H1 := hide hp
    have HB1 := hide hb
    clear hp hb
    go_wp2_with fail
    obtain ⟨p, hpp⟩ : ∃ p, p = W.heap.size := ⟨_, rfl⟩
    obtain ⟨lb, hlb⟩ : ∃ lb, lb = w1.heap.size := ⟨_, rfl⟩
    obtain ⟨w2, hw2⟩ : ∃ w2, w2 = w1.alloc (.cells #[.slice none 0 0] 45) := ⟨_, rfl⟩
    have hc2 : Chg (fun _ => False) w1 w2 := by rw [hw2]; exact Chg.alloc _ w1 _
    have H0 : Hid (ScrP W p lb 0 w2) := by
      have hbx : w2.heap[lb]? = some (.cells #[.slice none 0 0] 45 (0, 0)) := by rw [hw2, hlb]; exact heap_alloc_new w1 _
      refine ⟨none, 0, [], .slice none 0 0, by rw [hpp]; exact PileAt.chg H1.out hc2 (fun _ _ h => h), ⟨hbx, Rd.nil _, fun b hb => by (cases hb), by rw [hlb]; exact HB1.out.size, fun h => ?_⟩, by simp, HB1.out.trans (hc2.below HB1.out.size (fun _ _ h => h))⟩
      rcases h with h | h
      · have := (PileAt.lt H1.out _ (.inl rfl)).2; omega
      · cases h
    rw [← hw2, ← hlb, ← hpp]
    clear hw2 hc2 hlb hpp H1 HB1
    go_loopw [5] (fun i wr => ∃ k : Nat, k ≤ acts.length ∧ i = .int .i64 k ∧ Hid (ScrP W p lb k wr)) (fun i _ => acts.length - (intOf i).toNat)
    case atStart => exact ⟨0, by omega, rfl, H0⟩
    case round =>
      clear H0
      obtain ⟨k, hk, rfl, HO⟩ := hrel
      by_cases hlt : k < acts.length
      · obtain ⟨ao, cap, l, vl, hpl, hls, hlk, hb⟩ := HO.out
        have hxr := HR.out.chg (Chg.of_below hb) (fun b hb' hne => by have := HBL.out b hb' (by rintro rfl; simp at hlt); omega)
        obtain ⟨a, oa, rfl, hx⟩ := rdP hxr (by omega)
        obtain ⟨hx0, hx1⟩ := actsP_cells hx k hlt
        obtain ⟨x0, hxx⟩ : ∃ x, x = acts[k] := ⟨_, rfl⟩
        rw [← hxx] at hx0 hx1
        have HP := hide hpl
        have HL := hide hls
        have HB := hide hb
        have hl80 : l.length ≤ 80 := by omega
        clear hpl hls hb hxr hx hxx HO
        go_wp2_with fail
        refine (Low_ok _ x0.key 9 (by omega) (by omega)).mono ?_
        rintro e w3 ⟨rfl, hw⟩
        subst w3
        obtain ⟨x, hxe⟩ : ∃ x : Th, x = ⟨low x0.key 9, k⟩ := ⟨_, rfl⟩
        have hxk : ((low x0.key 9 : Nat) : Int) = x.key := by rw [hxe]
        have hxw : (k : Int) = x.which := by rw [hxe]
        have HXW := hide hxw
        rw [hxk]
        clear hxk hxw hxe
        obtain ⟨wx, hwx⟩ : ∃ wx, wx = wr.alloc (.cells #[.int .i64 x.key, .int .i64 k] 43) := ⟨_, rfl⟩
        have hcx : Chg (fun _ => False) wr wx := by rw [hwx]; exact Chg.alloc _ _ _
        have HXC : Hid (wx.heap[wr.heap.size]? = some (.cells #[.int .i64 x.key, .int .i64 x.which] 43 (0, 0))) := by rw [hwx, HXW.out]; exact heap_alloc_new wr _
        have HPX := hide (PileAt.chg HP.out hcx (fun _ _ h => h))
        have HLX := hide (HL.out.chg hcx (fun h => h) (fun _ _ _ h => h) (fun _ _ h => h))
        have HBX := hide (HB.out.trans (hcx.below HB.out.size (fun _ _ h => h)))
        have HNP : Hid (∀ j, PSet p ao j → j ≠ wr.heap.size) := fun j hj => by have := (PileAt.lt HP.out j hj).2; omega
        have HNL : Hid (lb < wr.heap.size) := HL.out.lt
        have HWX := hide hwx
        clear hcx hwx
        have HCX : Hid (Chg (fun _ => False) wr wx) := by rw [HWX.out]; exact Chg.alloc _ _ _
        have hx0' := HCX.out.cell hx0 (fun h => h)
        have HX0 := hide hx0'
        have hal := World.block_lt_of_cell? wr _ hx0
        clear hx0'
        go_upto_block 2 with fail
        rw [← HWX.out]
        clear HWX hx0 hx1
        go_cut [7, 8, 9, 10, 11, 12] from 26 to 159 (fun s7 s8 s9 s10 s11 s12 wc => Hid (ScrP W p lb (k + 1) wc))
        case first =>
          have gx0 := cell_of_heap HXC.out 0
          have gx1 := cell_of_heap HXC.out 1
          go_wp2_with fail
          · refine (pt_Put (base := W.heap.size) _ p 23 ao cap l ltT less_less (PileAt.chg HPX.out (Chg.alloc (fun _ => False) wx _) (fun _ _ h => h)) _ [x] (Rd_lit wx #[.int .i64 x.key, .int .i64 x.which] 43 1) (fun b hb _ => ?_) (by simp; omega)).mono ?_
            · cases hb
              refine ⟨fun h => ?_, by simp⟩
              have h2 := (PileAt.lt HPX.out _ h).2
              exact absurd h2 (Nat.lt_irrefl _)
            rintro e w5 ⟨rfl, ao5, cap5, hp5, hc5, hs5⟩
            have hc5' : Chg (PSet p ao) wx w5 := (Chg.alloc (fun _ => False) wx _).trans hc5 (fun _ _ h => h.elim) (fun _ _ h => h)
            have hz5 := hc5'.size
            have HL5 := hide (HLX.out.chg (P' := PSet p ao5) hc5' HLX.out.far (fun b hb hne => (HLX.out.row b hb hne).2.2.2) (fun j hj h => (hs5 j h).resolve_right (by simp; omega)))
            have HX5 := hide (hc5'.heap HXC.out (fun h => HNP.out _ h rfl))
            have HP5 : Hid (pt_At W.heap.size w5 p 23 ao5 cap5 (ins ltT l x)) := hp5
            have HB5 := hide (HBX.out.trans (hc5'.below HBX.out.size (fun j hj e => by have := (PileAt.lt HPX.out j e).1; omega)))
            clear hp5 hc5 hs5 hc5' gx0 gx1 hz5
            have gl := cell_of_heap HL5.out.box 0
            have gx0 := cell_of_heap HX5.out 0
            have gx1 := cell_of_heap HX5.out 1
            go_wp2_with fail
            refine (place_ok w5 vl l x HL5.out.rd (by omega)).mono ?_
            rintro e w6 ⟨rfl, hb6⟩
            have hc6 := Chg.of_below0 (S := fun _ => False) hb6
            have HL6 := hide (HL5.out.chg hc6 (fun h => h) (fun _ _ _ h => h) (fun _ _ h => h))
            have HX6 := hide (hc6.heap HX5.out (fun h => h))
            have HP6 := hide (PileAt.chg HP5.out hc6 (fun _ _ h => h))
            have HB6 := hide (HB5.out.trans (hb6.mono HB5.out.size))
            clear hb6 hc6 gl gx0 gx1
            obtain ⟨q, hq⟩ : ∃ q, q = placeOf ltT x l := ⟨_, rfl⟩
            have hql : q ≤ l.length := by rw [hq]; exact placeOf_le _ _ _
            rw [← hq]
            have HQ := hide hq
            clear hq
            have gl := cell_of_heap HL6.out.box 0
            have gx0 := cell_of_heap HX6.out 0
            have gx1 := cell_of_heap HX6.out 1
            obtain ⟨av, cv, hve, hlc, -⟩ := HL6.out.rd.shape
            rw [hve] at gl
            have hrd := HL6.out.rd
            rw [hve] at hrd
            have hfl := flat_length pt_len l
            obtain ⟨aq, cq, hsl, hrq, hoq⟩ := slice_from pt_slT hrd hfl q hql
            have hup := fun W => slice_upto pt_slT av l.length cv q (by omega) W
            have hrp := Rd.upto hrd q 2 hql hfl
            rw [(flat_split pt_len l q hql).1] at hrp
            rw [(flat_split pt_len l q hql).2] at hrq
            have HRP := hide hrp
            have HRQ := hide hrq
            have HSL := hide hsl
            have HUP := hide hup
            have HVE := hide hve
            have HOQ := hide hoq
            clear hrd hrp hrq hsl hup hve hoq hlc hfl
            go_wp2_with fail
            have HROW : Hid (∀ b, (Value.slice av l.length cv).ownBlock = some b → flat pt_enc l ≠ [] → b < w6.heap.size ∧ b ≠ lb) := fun b hb hne => by have := HL6.out.row b (by rw [HVE.out]; exact hb) hne; exact ⟨this.2.1, this.2.2.1⟩
            have htl : (l.take q).length = q := by rw [List.length_take]; omega
            have hdl : (l.drop q).length = l.length - q := List.length_drop
            have HTL := hide htl
            have HDL := hide hdl
            clear htl hdl
            have HPRE : Hid (∀ W, Chg (fun _ => False) w6 W → Rd W (.slice av q cv) q (flat pt_enc (l.take q))) := fun W c => HRP.out.chg c (fun _ _ _ h => h)
            have HPOST : Hid (∀ W, Chg (fun _ => False) w6 W → Rd W (.slice aq (l.length - q) cq) (l.length - q) (flat pt_enc (l.drop q))) := fun W c => HRQ.out.chg c (fun _ _ _ h => h)
            refine wp_region_noPanic ?_
            refine reg_start (Chg (fun _ => False) w6) 12 11 (by rfl) (by kernel_rfl) (Chg.drew _ _) ?_
            intro hS0
            have hSc := hS0
            refine reg_take (i := 0) (v := ?g2v) rfl (by kernel_rfl) (by kernel_rfl) (by kernel_rfl) (by kernel_rfl) (fun _ _ _ h => h) (by rfl) ?g2y (by assumption) ?g2r
            case g2y => (intro W hS; have f0 := hS.cell gx0 (fun h => h); have f1 := hS.cell gx1 (fun h => h); have f2 := hS.cell gl (fun h => h); first | (go_simp; done) | (go_simp; with_reducible rfl))
            simp only [Act.put, List.setIfInBounds_toArray, List.set_cons_zero, List.set_cons_succ]
            refine reg_take (i := 1) (v := ?g3v) rfl (by kernel_rfl) (by kernel_rfl) (by kernel_rfl) (by kernel_rfl) (fun _ _ _ h => h) (by rfl) ?g3y (by assumption) ?g3r
            case g3y => (intro W hS; first | (go_simp; done) | (go_simp; with_reducible rfl))
            simp only [Act.put, List.setIfInBounds_toArray, List.set_cons_zero, List.set_cons_succ]
            refine reg_take (i := 2) (v := .slice av q cv) rfl (by kernel_rfl) (by kernel_rfl) (by kernel_rfl) (by kernel_rfl) (fun _ _ _ h => h) (by rfl) (fun W hS => by simp [execOp, Act.eval, HUP.out]) (by assumption) ?_
            simp only [Act.put, List.setIfInBounds_toArray, List.set_cons_zero, List.set_cons_succ]
            refine reg_take (i := 4) (v := ?g4v) rfl (by kernel_rfl) (by kernel_rfl) (by kernel_rfl) (by kernel_rfl) (fun _ _ _ h => h) (by rfl) ?g4y (by assumption) ?g4r
            case g4y => (intro W hS; have f0 := hS.cell gx0 (fun h => h); have f1 := hS.cell gx1 (fun h => h); have f2 := hS.cell gl (fun h => h); first | (go_simp; done) | (go_simp; with_reducible rfl))
            simp only [Act.put, List.setIfInBounds_toArray, List.set_cons_zero, List.set_cons_succ]
            refine reg_take (i := 7) (v := ?g5v) rfl (by kernel_rfl) (by kernel_rfl) (by kernel_rfl) (by kernel_rfl) (fun _ _ _ h => h) (by rfl) ?g5y (by assumption) ?g5r
            case g5y => (intro W hS; have f0 := hS.cell gx0 (fun h => h); have f1 := hS.cell gx1 (fun h => h); have f2 := hS.cell gl (fun h => h); first | (go_simp; done) | (go_simp; with_reducible rfl))
            simp only [Act.put, List.setIfInBounds_toArray, List.set_cons_zero, List.set_cons_succ]
            refine reg_take (i := 8) (v := ?g6v) rfl (by kernel_rfl) (by kernel_rfl) (by kernel_rfl) (by kernel_rfl) (fun _ _ _ h => h) (by rfl) ?g6y (by assumption) ?g6r
            case g6y => (intro W hS; first | (go_simp; done) | (go_simp; with_reducible rfl))
            simp only [Act.put, List.setIfInBounds_toArray, List.set_cons_zero, List.set_cons_succ]
            refine reg_take (i := 9) (v := .slice aq (l.length - q) cq) rfl (by kernel_rfl) (by kernel_rfl) (by kernel_rfl) (by kernel_rfl) (fun _ _ _ h => h) (by rfl) (fun W hS => by simp [execOp, Act.eval, HSL.out]) (by assumption) ?_
            simp only [Act.put, List.setIfInBounds_toArray, List.set_cons_zero, List.set_cons_succ]
            refine reg_two (i := 3) (j := 5) (by kernel_rfl) ?_ ?_
            · refine op_append (i := 3) rfl (by rfl) pt_slT w6.heap.size (World.ownsRow_nil _ _ _ _) (HPRE.out _ hSc) rfl rfl (by rw [flat_length pt_len, HTL.out]) (flat_one' pt_one _) (by unfold maxLen; omega) (by omega) hSc.size ?_
              intro ao1 cap1 w7 hown hg hat
              simp only [Nat.zero_add, List.nil_append] at hown hat ⊢
              have hg' : Chg (fun _ => False) _ w7 := hg.mono (fun _ _ e => by cases e)
              have hSc := hSc.trans hg' (S'' := fun _ => False) (fun _ _ h => h) (fun _ _ h => h)
              have HO := hide hown
              clear hown hg hat hg'
              refine ⟨hSc, ?_⟩
              simp only [Act.put, List.setIfInBounds_toArray, List.set_cons_zero, List.set_cons_succ]
              refine reg_one (i := 5) (by kernel_rfl) ?_
              refine op_val (i := 5) rfl (by rfl) (v := .slice (some ⟨w7.heap.size, 0, none⟩) 1 1) (w' := w7.alloc (.cells #[.int .i64 x.key, .int .i64 x.which] 43)) (by go_simp) ?_
              obtain ⟨w8, hwn⟩ : ∃ wn, wn = w7.alloc (.cells #[.int .i64 x.key, .int .i64 x.which] 43) := ⟨_, rfl⟩
              have hg' : Chg (fun _ => False) w7 w8 := by rw [hwn]; exact Chg.alloc _ _ _
              have hra : Rd w8 (.slice (some ⟨w7.heap.size, 0, none⟩) 1 1) 1 (pt_enc x) := by rw [hwn]; exact Rd_lit _ #[.int .i64 x.key, .int .i64 x.which] 43 1
              have hxl : w6.heap.size ≤ w7.heap.size := hSc.size
              obtain ⟨xa, hxa⟩ : ∃ xa, xa = w7.heap.size := ⟨_, rfl⟩
              rw [← hwn, ← hxa]
              rw [← hxa] at hra hxl
              have hSc := hSc.trans hg' (S'' := fun _ => False) (fun _ _ h => h) (fun _ _ h => h)
              have HRA := hide hra
              have HXL := hide hxl
              have HO := hide (hg'.owns HO.out (fun _ _ h => h))
              clear hra hxl hwn hxa hg'
              refine ⟨hSc, ?_⟩
              simp only [Act.put, List.setIfInBounds_toArray, List.set_cons_zero, List.set_cons_succ]
              refine reg_one (i := 6) (by kernel_rfl) ?_
              refine op_append (i := 6) rfl (by rfl) pt_slT w6.heap.size HO.out HRA.out rfl rfl rfl (pt_one x) (by unfold maxLen; omega) (by omega) hSc.size ?_
              intro ao3 cap3 w9 hown hg hat
              have hSc := hSc.trans hg (S'' := fun _ => False) (fun _ _ h => h) (fun j hj h => absurd (ownsRow_lt HO.out j h).1 (by omega))
              have HO3 := hide hown
              clear hown hg hat
              refine ⟨hSc, ?_⟩
              simp only [Act.put, List.setIfInBounds_toArray, List.set_cons_zero, List.set_cons_succ]
              refine reg_one (i := 10) (by kernel_rfl) ?_
              refine op_append (i := 10) rfl (by rfl) pt_slT w6.heap.size HO3.out (HPOST.out _ hSc) rfl rfl (by rw [flat_length pt_len, HDL.out]) (flat_one' pt_one _) (by unfold maxLen; omega) (by omega) hSc.size ?_
              intro ao4 cap4 w10 hown hg hat
              have hSc := hSc.trans hg (S'' := fun _ => False) (fun _ _ h => h) (fun j hj h => absurd (ownsRow_lt HO3.out j h).1 (by omega))
              have HO4 := hide hown
              clear hown hg hat
              have gl4 := hSc.cell gl (fun h => h)
              have gf4 := free_of_heap (hSc.heap HL6.out.box (fun h => h)) 0
              refine ⟨hSc, ?_⟩
              simp only [Act.put, List.setIfInBounds_toArray, List.set_cons_zero, List.set_cons_succ]
              refine reg_late (i := 11) (by kernel_rfl) (by decide) ?_
              refine op_store (i := 11) rfl (by rfl) (w' := w10.setCell ⟨lb, 0, none⟩ (.slice ao4 (q + 1 + (l.length - q)) cap4)) (by go_simp) ?_
              have HSC := hide hSc
              clear gl4 gf4 hSc hS0
              simp only [Act.put]
              refine wpAnyG_done (by kernel_rfl) ?_ _
              refine NoPanic.normal ?_
              go_wp2_with fail
              go_meet
              have hins : ins ltT l x = l.take q ++ x :: l.drop q := by rw [HQ.out]; rfl
              have hil : q + 1 + (l.length - q) = (ins ltT l x).length := by rw [hins]; simp; omega
              exact scr_new HP6.out HL6.out HSC.out (by rw [hins, flat_append, flat_cons, ← List.append_assoc]; exact HO4.out) hil (by omega) HB6.out
            · refine op_val (i := 5) rfl (by rfl) (v := .slice (some ⟨w6.drew.heap.size, 0, none⟩) 1 1) (w' := w6.drew.alloc (.cells #[.int .i64 x.key, .int .i64 x.which] 43)) (by go_simp) ?_
              obtain ⟨w7, hwn⟩ : ∃ wn, wn = w6.drew.alloc (.cells #[.int .i64 x.key, .int .i64 x.which] 43) := ⟨_, rfl⟩
              have hg' : Chg (fun _ => False) w6.drew w7 := by rw [hwn]; exact Chg.alloc _ _ _
              have hra : Rd w7 (.slice (some ⟨w6.drew.heap.size, 0, none⟩) 1 1) 1 (pt_enc x) := by rw [hwn]; exact Rd_lit _ #[.int .i64 x.key, .int .i64 x.which] 43 1
              have hxl : w6.heap.size ≤ w6.drew.heap.size := hSc.size
              obtain ⟨xa, hxa⟩ : ∃ xa, xa = w6.drew.heap.size := ⟨_, rfl⟩
              rw [← hwn, ← hxa]
              rw [← hxa] at hra hxl
              have hSc := hSc.trans hg' (S'' := fun _ => False) (fun _ _ h => h) (fun _ _ h => h)
              have HRA := hide hra
              have HXL := hide hxl
              clear hra hxl hwn hxa hg'
              refine ⟨hSc, ?_⟩
              simp only [Act.put, List.setIfInBounds_toArray, List.set_cons_zero, List.set_cons_succ]
              refine reg_one (i := 3) (by kernel_rfl) ?_
              refine op_append (i := 3) rfl (by rfl) pt_slT w6.heap.size (World.ownsRow_nil _ _ _ _) (HPRE.out _ hSc) rfl rfl (by rw [flat_length pt_len, HTL.out]) (flat_one' pt_one _) (by unfold maxLen; omega) (by omega) hSc.size ?_
              intro ao1 cap1 w8 hown hg hat
              simp only [Nat.zero_add, List.nil_append] at hown hat ⊢
              have hg' : Chg (fun _ => False) _ w8 := hg.mono (fun _ _ e => by cases e)
              have hSc := hSc.trans hg' (S'' := fun _ => False) (fun _ _ h => h) (fun _ _ h => h)
              have HO := hide hown
              have HRA := hide (HRA.out.chg hg' (fun _ _ _ h => h))
              clear hown hg hat hg'
              refine ⟨hSc, ?_⟩
              simp only [Act.put, List.setIfInBounds_toArray, List.set_cons_zero, List.set_cons_succ]
              refine reg_one (i := 6) (by kernel_rfl) ?_
              refine op_append (i := 6) rfl (by rfl) pt_slT w6.heap.size HO.out HRA.out rfl rfl rfl (pt_one x) (by unfold maxLen; omega) (by omega) hSc.size ?_
              intro ao3 cap3 w9 hown hg hat
              have hSc := hSc.trans hg (S'' := fun _ => False) (fun _ _ h => h) (fun j hj h => absurd (ownsRow_lt HO.out j h).1 (by omega))
              have HO3 := hide hown
              clear hown hg hat
              refine ⟨hSc, ?_⟩
              simp only [Act.put, List.setIfInBounds_toArray, List.set_cons_zero, List.set_cons_succ]
              refine reg_one (i := 10) (by kernel_rfl) ?_
              refine op_append (i := 10) rfl (by rfl) pt_slT w6.heap.size HO3.out (HPOST.out _ hSc) rfl rfl (by rw [flat_length pt_len, HDL.out]) (flat_one' pt_one _) (by unfold maxLen; omega) (by omega) hSc.size ?_
              intro ao4 cap4 w10 hown hg hat
              have hSc := hSc.trans hg (S'' := fun _ => False) (fun _ _ h => h) (fun j hj h => absurd (ownsRow_lt HO3.out j h).1 (by omega))
              have HO4 := hide hown
              clear hown hg hat
              have gl4 := hSc.cell gl (fun h => h)
              have gf4 := free_of_heap (hSc.heap HL6.out.box (fun h => h)) 0
              refine ⟨hSc, ?_⟩
              simp only [Act.put, List.setIfInBounds_toArray, List.set_cons_zero, List.set_cons_succ]
              refine reg_late (i := 11) (by kernel_rfl) (by decide) ?_
              refine op_store (i := 11) rfl (by rfl) (w' := w10.setCell ⟨lb, 0, none⟩ (.slice ao4 (q + 1 + (l.length - q)) cap4)) (by go_simp) ?_
              have HSC := hide hSc
              clear gl4 gf4 hSc hS0
              simp only [Act.put]
              refine wpAnyG_done (by kernel_rfl) ?_ _
              refine NoPanic.normal ?_
              go_wp2_with fail
              go_meet
              have hins : ins ltT l x = l.take q ++ x :: l.drop q := by rw [HQ.out]; rfl
              have hil : q + 1 + (l.length - q) = (ins ltT l x).length := by rw [hins]; simp; omega
              exact scr_new HP6.out HL6.out HSC.out (by rw [hins, flat_append, flat_cons, ← List.append_assoc]; exact HO4.out) hil (by omega) HB6.out
          · obtain ⟨av, cv, hve, hlc, hcs0⟩ := HLX.out.rd.shape
            have HVE := hide hve
            cases l with
            | nil =>
              clear hcs0 hve hlc
              refine (pt_Pop_none wx p _ ao cap HPX.out).mono ?_
              rintro e w5 ⟨rfl, hb5⟩
              have hc5 := Chg.of_below0 (S := fun _ => False) hb5
              obtain ⟨w6, hw6⟩ : ∃ w6, w6 = w5.alloc (.cells #[.int .i64 0, .int .i64 0] 43) := ⟨_, rfl⟩
              have hc6 : Chg (fun _ => False) wx w6 := hc5.trans (by rw [hw6]; exact Chg.alloc _ w5 _) (fun _ _ h => h) (fun _ _ h => h)
              have HE6 : Hid (w6.heap[w5.heap.size]? = some (.cells #[.int .i64 0, .int .i64 0] 43 (0, 0))) := by rw [hw6]; exact heap_alloc_new w5 _
              have HL6 := hide (HLX.out.chg hc6 (fun h => h) (fun _ _ _ h => h) (fun _ _ h => h))
              have HP6 := hide (PileAt.chg HPX.out hc6 (fun _ _ h => h))
              have HB6 := hide (HBX.out.trans (hc6.below HBX.out.size (fun _ _ h => h)))
              have HW6 := hide hw6
              clear hb5 hc5 hc6 hw6 gx0 gx1
              go_wp2_with fail
              rw [← HW6.out]
              have gl := cell_of_heap HL6.out.box 0
              rw [HVE.out] at gl
              have ge0 := cell_of_heap HE6.out 0
              have ge1 := cell_of_heap HE6.out 1
              refine wp_region_quiet_lit (by kernel_rfl) (by kernel_rfl) ?_
              repeat (go_big_quiet_step (fail))
              refine wpQuiet_nil ?_
              intro _ hw'
              obtain ⟨nq, hw''⟩ := hw'
              subst hw''
              clear gl ge0 ge1
              go_wp2_with fail
              go_meet
              have hc7 := Chg.drewN (fun _ => False) w6 nq
              exact ⟨ao, cap, [], vl, PileAt.chg HP6.out hc7 (fun _ _ h => h), HL6.out.chg hc7 (fun h => h) (fun _ _ _ h => h) (fun _ _ h => h), by simp, bdrewN HB6.out _⟩
            | cons y l =>
              obtain ⟨bb, off, hae, hcs⟩ := hcs0 (by simp)
              subst hae
              obtain ⟨hy0, hy1⟩ := pt_cells wx bb off (y :: l) hcs 0 (by simp)
              simp only [Nat.zero_mul, Nat.add_zero, List.getElem_cons_zero] at hy0 hy1
              have hbb := HLX.out.row bb (by rw [hve]; rfl) (by simp [flat_cons, pt_enc])
              have HBB := hide hbb
              have HCS := hide hcs
              have HY0 := hide hy0
              have HY1 := hide hy1
              clear hcs hcs0 hy0 hy1 hbb hve
              refine (pt_Pop wx p _ ao cap y l HPX.out).mono ?_
              rintro e w5 ⟨rfl, ao5, cap5, hp5, hc5, hs5⟩
              obtain ⟨w6, hw6⟩ : ∃ w6, w6 = w5.alloc (.cells #[.int .i64 y.key, .int .i64 y.which] 43) := ⟨_, rfl⟩
              have hc56 : Chg (fun _ => False) w5 w6 := by rw [hw6]; exact Chg.alloc _ w5 _
              have hc6 : Chg (PSet p ao) wx w6 := hc5.trans hc56 (fun _ _ h => h) (fun _ _ h => h.elim)
              have HE6 : Hid (w6.heap[w5.heap.size]? = some (.cells #[.int .i64 y.key, .int .i64 y.which] 43 (0, 0))) := by rw [hw6]; exact heap_alloc_new w5 _
              have HL6 := hide (HLX.out.chg (P' := PSet p ao5) hc6 HLX.out.far (fun b hb hne => (HLX.out.row b hb hne).2.2.2) (fun j hj h => (hs5 j h).resolve_right (by omega)))
              have HP6 : Hid (pt_At W.heap.size w6 p 23 ao5 cap5 l) := PileAt.chg hp5 hc56 (fun _ _ h => h)
              have HB6 := hide (HBX.out.trans (hc6.below HBX.out.size (fun j hj e => by have := (PileAt.lt HPX.out j e).1; omega)))
              have HY60 := hide (hc6.cell HY0.out HBB.out.2.2.2)
              have HY61 := hide (hc6.cell HY1.out HBB.out.2.2.2)
              have HCS6 : Hid (CellsAt w6 bb off (flat pt_enc (y :: l))) := HCS.out.chg hc6 (fun _ => HBB.out.2.2.2)
              have HN5 : Hid (¬ PSet p ao5 bb) := fun h => (hs5 bb h).elim HBB.out.2.2.2 (fun h => by have := HBB.out.2.1; omega)
              have HW6 := hide hw6
              have HZ6 := hide hc6.size
              clear hp5 hc5 hs5 hc56 hc6 hw6 gx0 gx1
              go_wp2_with fail
              rw [← HW6.out]
              have gl := cell_of_heap HL6.out.box 0
              rw [HVE.out] at gl
              have ge0 := cell_of_heap HE6.out 0
              have ge1 := cell_of_heap HE6.out 1
              have gy0 := HY60.out
              have gy1 := HY61.out
              have d0 : decide (((y :: l).length : Int) > 0) = true := decide_eq_true (by simp)
              refine wp_region_quiet_lit (by kernel_rfl) (by kernel_rfl) ?_
              repeat (go_big_quiet_step (fail))
              refine wpQuiet_nil ?_
              intro _ hw'
              obtain ⟨nq, hw''⟩ := hw'
              subst hw''
              clear gl ge0 ge1 gy0 gy1
              have hc7 := Chg.drewN (fun _ => False) w6 nq
              have HL7 := hide (HL6.out.chg hc7 (fun h => h) (fun _ _ _ h => h) (fun _ _ h => h))
              have HP7 := hide (PileAt.chg HP6.out hc7 (fun _ _ h => h))
              have HCS7 : Hid (CellsAt (w6.drewN nq) bb off (flat pt_enc (y :: l))) := HCS6.out
              have HB7 := hide (bdrewN HB6.out nq)
              have hz7 : (w6.drewN nq).heap.size = w6.heap.size := rfl
              generalize w6.drewN nq = w7 at HL7 HP7 HCS7 HB7 hz7 ⊢
              have gl := cell_of_heap HL7.out.box 0
              have gf := free_of_heap HL7.out.box 0
              rw [HVE.out] at gl
              have hlb7 := HL7.out.lt
              have HZ7 := hide hz7
              clear hc7 hz7
              have hrowx : ∀ b, b = bb → W.heap.size ≤ b ∧ b < w7.heap.size ∧ b ≠ lb ∧ ¬ PSet p ao5 b := fun b e => by
                subst e
                refine ⟨HBB.out.1, ?_, HBB.out.2.2.1, HN5.out⟩
                have := HBB.out.2.1; have := HZ6.out; have := HZ7.out; omega
              have HROWX := hide hrowx
              clear hrowx
              have HLK : Hid (l.length ≤ k + 1) := (show l.length ≤ k + 1 by simp at hlk; omega)
              have HLC := hide hlc
              clear hlc
              by_cases hcv : cv = 1
              · subst hcv
                obtain rfl : l = [] := by
                  have := HLC.out
                  cases l with
                  | nil => rfl
                  | cons z l => simp at this
                go_wp2_with fail
                go_meet
                exact scr_set HP7.out HL7.out.box HL7.out.low HL7.out.far (.inr ⟨_, _, rfl, by simp, .inl ⟨rfl, fun j u hu => by simp [flat] at hu⟩⟩) (fun b h1 h2 => absurd rfl h2) (by simp) HB7.out
              · have hcF : (cv = 1) = False := by simp [hcv]
                have HCV := hide hcv
                clear hcv
                go_wp2_with fail
                go_meet
                refine scr_set HP7.out HL7.out.box HL7.out.low HL7.out.far ?_ (fun b h1 _ => HROWX.out b (by cases h1; rfl)) HLK.out HB7.out
                have hcs7 := HCS7.out
                refine .inr ⟨_, _, rfl, by have := HLC.out; simp at this; omega, .inl ⟨rfl, fun j u hu => ?_⟩⟩
                have := hcs7 (2 + j) u (by rw [flat_cons]; show ([.int .i64 y.key, .int .i64 y.which] ++ flat pt_enc l)[2 + j]? = _; rw [List.getElem?_append_right (by simp)]; simpa using hu)
                rwa [← Nat.add_assoc] at this
          · obtain ⟨rs, hrs⟩ : ∃ rs : Nat → List Th, rs = fun j => (l.take j).filter (fun y => !byK x.key y) := ⟨_, rfl⟩
            have HRS := hide hrs
            clear hrs gx0 gx1
            obtain ⟨wo, rfl⟩ : ∃ wo : World, wo = wr := ⟨_, rfl⟩
            go_loopw [10, 11] (fun v i wr => ∃ j : Nat, j ≤ l.length ∧ i = .int .i64 j ∧ Hid (OwnT wx wr v (rs j))) (fun _ i _ => l.length - (intOf i).toNat)
            case atStart => exact ⟨0, by omega, rfl, none, 0, by rw [HRS.out]; rfl, by rw [HRS.out]; exact World.ownsRow_nil _ _ _ _, Chg.refl _ _⟩
            case round =>
              obtain ⟨j, hj, rfl, HV⟩ := hrel
              obtain ⟨aor, capr, rfl, ho, hc⟩ := HV.out
              have HOR := hide ho
              have HCR := hide hc
              clear ho hc HV
              have HLR := hide (HLX.out.chg HCR.out (fun h => h) (fun _ _ _ h => h) (fun _ _ h => h))
              obtain ⟨av, cv, hve, hlc, hcs0⟩ := HLR.out.rd.shape
              have gl := cell_of_heap HLR.out.box 0
              rw [hve] at gl
              by_cases hlt2 : j < l.length
              · obtain ⟨bb, off, hae, hcs⟩ := hcs0 (by omega)
                subst hae
                obtain ⟨hy0, hy1⟩ := pt_cells wr bb off l hcs j hlt2
                have htk : rs (j + 1) = rs j ++ if byK x.key l[j] then [] else [l[j]] := by
                  rw [HRS.out]
                  show (l.take (j + 1)).filter _ = (l.take j).filter _ ++ _
                  rw [take_succ_get l j hlt2, List.filter_append]
                  congr 1
                  cases hh : byK x.key l[j] <;> simp [hh]
                have hrl : (rs j).length ≤ 80 := by rw [HRS.out]; exact Nat.le_trans (List.length_filter_le _ _) (by rw [List.length_take]; omega)
                obtain ⟨y, hyy⟩ : ∃ y, y = l[j] := ⟨_, rfl⟩
                rw [← hyy] at hy0 hy1 htk
                have hxc := HCR.out.heap HXC.out (fun h => h)
                have gx0 := cell_of_heap hxc 0
                have HTK := hide htk
                have HRL := hide hrl
                have HCV := hide hlc
                have hjc : (j : Int) < l.length := by omega
                clear hcs hcs0 hyy htk hrl hlc hve hxc
                by_cases hke : y.key = x.key
                · have d1 : (y.key != x.key) = false := by simp [hke]
                  have hb : byK x.key y = true := by simp [byK, hke]
                  have HBK := hide hb
                  clear hb hke
                  go_wp2_with fail
                  refine wp_region_quiet_lit (by kernel_rfl) (by kernel_rfl) ?_
                  repeat (go_big_quiet_step (fail))
                  refine wpQuiet_nil ?_
                  intro _ hw'
                  obtain ⟨nq, hw''⟩ := hw'
                  subst hw''
                  go_wp2_with fail
                  go_roundw
                  case rel => exact ⟨j + 1, by omega, by go_num, aor, capr, by rw [HTK.out, HBK.out]; simp, by rw [HTK.out, HBK.out]; simpa using (Chg.drewN (fun _ => False) wr nq).owns HOR.out (fun _ _ h => h), HCR.out.trans (Chg.drewN _ wr nq) (fun _ _ h => h) (fun _ _ h => h)⟩
                  case measure => simp [intOf]; omega
                · have d1 : (y.key != x.key) = true := by simp [hke]
                  have hb : byK x.key y = false := by simp [byK, hke]
                  have HBK := hide hb
                  clear hb hke
                  go_wp2_with fail
                  refine wp_region_quiet_lit (by kernel_rfl) (by kernel_rfl) ?_
                  repeat (go_big_quiet_step (fail))
                  refine wpQuiet_nil ?_
                  intro _ hw'
                  obtain ⟨nq, hw''⟩ := hw'
                  subst hw''
                  have hc7 := Chg.drewN (fun _ => False) wr nq
                  have HOR7 := hide (hc7.owns HOR.out (fun _ _ h => h))
                  have HCR7 := hide (HCR.out.trans hc7 (S'' := fun _ => False) (fun _ _ h => h) (fun _ _ h => h))
                  have gl7 := hc7.cell gl (fun h => h)
                  have gy0 := hc7.cell hy0 (fun h => h)
                  have gy1 := hc7.cell hy1 (fun h => h)
                  generalize wr.drewN nq = w7 at HOR7 HCR7 gl7 gy0 gy1 ⊢
                  clear hc7 gl hy0 hy1 gx0 HOR HCR
                  go_wp2_with (at_builtin; refine wpl_append rfl (.tmp 115) (.tmp 120) _ rfl pt_slT wx.heap.size ((Chg.alloc (fun _ => False) w7 _).owns HOR7.out (fun _ _ h => h)) (Rd_lit w7 #[.int .i64 y.key, .int .i64 y.which] 43 1) rfl rfl rfl (by exact pt_one y) (by have := HRL.out; unfold maxLen; omega) (by have := HRL.out; omega) (by have := HCR7.out.size; simp; omega) ?_; intro ao8 cap8 w8 hown hg _ _; have HO8 := hide hown; have HC8 := hide ((HCR7.out.trans (Chg.alloc (fun _ => False) w7 _) (S'' := fun _ => False) (fun _ _ h => h) (fun _ _ h => h)).trans hg (S'' := fun _ => False) (fun _ _ h => h) (fun i hi e => by have := (ownsRow_lt HOR7.out i e).1; omega)); clear hown hg)
                  go_roundw
                  case rel =>
                    refine ⟨j + 1, by omega, by go_num, ao8, cap8, ?_, ?_, HC8.out⟩
                    · rw [HTK.out, HBK.out]; simp
                    · rw [HTK.out, HBK.out]
                      have := HO8.out
                      simp only [Bool.false_eq_true, if_false]
                      rw [List.length_append, flat_append, flat_cons, flat_nil, List.append_nil]
                      exact this
                  case measure => simp [intOf]; omega
              · obtain rfl : j = l.length := by omega
                obtain ⟨rest, hrest⟩ : ∃ rest, rest = rs l.length := ⟨_, rfl⟩
                have hrf : rest = l.filter (fun y => !byK x.key y) := by rw [hrest, HRS.out]; show (l.take l.length).filter _ = _; rw [List.take_length]
                rw [← hrest] at HOR ⊢
                have HXR := hide (HCR.out.heap HXC.out (fun h => h))
                have HPR := hide (PileAt.chg HPX.out HCR.out (fun _ _ h => h))
                have hrm := pt_Remove wr p _ ao cap l HPR.out 28 #[.pointer (some ⟨wo.heap.size, 0, none⟩)] (byK x.key) _ (key_pred wo.heap.size x.key x.which) (fun W1 W2 hq hc => hc.heap hq (fun hk => HNP.out _ hk rfl)) HXR.out
                rw [← hrf] at hrm
                have HRM := hide hrm
                have hrl : rest.length ≤ l.length := by rw [hrf]; exact List.length_filter_le _ _
                have a1 : IntKind.i64.wrap ((l.length : Int) - rest.length) = (l.length : Int) - rest.length := IntWalk.i64_in _ (by omega)
                clear hrf hrest hrm hcs0 hve hlc
                go_wp2_with fail
                refine HRM.out.mono ?_
                rintro e w5 ⟨rfl, ao5, cap5, hp5, hc5, hs5⟩
                have HL5 := hide (HLR.out.chg (P' := PSet p ao5) hc5 HLR.out.far (fun b hb hne => (HLR.out.row b hb hne).2.2.2) (fun j hj h => (hs5 j h).resolve_right (by omega)))
                have HO5 := hide (hc5.owns HOR.out (fun b hb h => by have := (ownsRow_lt HOR.out b hb).1; have := (PileAt.lt HPX.out b h).2; omega))
                have HB5 := hide ((HBX.out.trans (HCR.out.below HBX.out.size (fun _ _ h => h))).trans (hc5.below (Nat.le_trans HBX.out.size HCR.out.size) (fun j hj e => by have := (PileAt.lt HPR.out j e).1; omega)))
                have HP5 := hide hp5
                have HN5 : Hid (∀ b, (Value.slice aor rest.length capr).ownBlock = some b → ¬ PSet p ao5 b) := fun b hb h => by
                  have h1 := ownsRow_lt HOR.out b hb
                  rcases hs5 b h with h2 | h2
                  · have := (PileAt.lt HPX.out b h2).2; omega
                  · omega
                clear hp5 hc5 hs5 gl
                have gl := cell_of_heap HL5.out.box 0
                have gf := free_of_heap HL5.out.box 0
                obtain ⟨av, cv, hve, -, -⟩ := HL5.out.rd.shape
                rw [hve] at gl
                have hlb5 := HL5.out.lt
                clear hve
                go_wp2_with fail
                go_meet
                refine scr_set HP5.out HL5.out.box HL5.out.low HL5.out.far (Rd.of_owns HO5.out) (fun b h1 _ => ?_) (by omega) HB5.out
                have h2 := ownsRow_lt HO5.out b h1
                have := HBX.out.size
                have := HLX.out.lt
                exact ⟨by omega, h2.2, by omega, HN5.out b h1⟩
          · go_meet
            exact ⟨ao, cap, l, vl, HPX.out, HLX.out, by omega, HBX.out⟩
        case rest =>
          clear HX0 HXC HPX HLX HBX HNP HNL HXW HP HL HB hl80 hlk ao cap l vl
          obtain ⟨ao, cap, l, vl, hpl, hls, hlk, hb⟩ := hcut.out
          have HP := hide hpl
          have HL := hide hls
          have HB := hide hb
          clear hpl hls hb hcut
          obtain ⟨av, cv, hve, hlc, hcs0⟩ := HL.out.rd.shape
          have HVE := hide hve
          cases l with
          | nil =>
            clear hcs0 hve hlc
            go_wp2_with fail
            refine (pt_First_none wc p _ ao cap HP.out).mono ?_
            rintro e w5 ⟨rfl, hb5⟩
            have hc5 := Chg.of_below0 (S := fun _ => False) hb5
            obtain ⟨w6, hw6⟩ : ∃ w6, w6 = w5.alloc (.cells #[.int .i64 0, .int .i64 0] 43) := ⟨_, rfl⟩
            have hc6 : Chg (fun _ => False) wc w6 := hc5.trans (by rw [hw6]; exact Chg.alloc _ w5 _) (fun _ _ h => h) (fun _ _ h => h)
            have HE6 : Hid (w6.heap[w5.heap.size]? = some (.cells #[.int .i64 0, .int .i64 0] 43 (0, 0))) := by rw [hw6]; exact heap_alloc_new w5 _
            have HL6 := hide (HL.out.chg hc6 (fun h => h) (fun _ _ _ h => h) (fun _ _ h => h))
            have HP6 := hide (PileAt.chg HP.out hc6 (fun _ _ h => h))
            have HB6 := hide (HB.out.trans (hc6.below HB.out.size (fun _ _ h => h)))
            have HW6 := hide hw6
            clear hb5 hc5 hc6 hw6
            go_wp2_with fail
            rw [← HW6.out]
            have gl := cell_of_heap HL6.out.box 0
            rw [HVE.out] at gl
            have ge0 := cell_of_heap HE6.out 0
            have ge1 := cell_of_heap HE6.out 1
            refine wp_region_noPanic ?_
            refine reg_start (Chg (fun _ => False) w6) 22 22 (by rfl) (by kernel_rfl) (Chg.drew _ _) ?_
            intro hS0
            have hSc := hS0
            refine reg_take (i := 0) (v := ?g8v) rfl (by kernel_rfl) (by kernel_rfl) (by kernel_rfl) (by kernel_rfl) (fun _ _ _ h => h) (by rfl) ?g8y (by assumption) ?g8r
            case g8y => (intro W hS; first | (go_simp; done) | (go_simp; with_reducible rfl))
            simp only [Act.put, List.setIfInBounds_toArray, List.set_cons_zero, List.set_cons_succ]
            refine reg_take (i := 1) (v := ?g9v) rfl (by kernel_rfl) (by kernel_rfl) (by kernel_rfl) (by kernel_rfl) (fun _ _ _ h => h) (by rfl) ?g9y (by assumption) ?g9r
            case g9y => (intro W hS; have f0 := hS.cell gl (fun h => h); have f1 := hS.cell ge0 (fun h => h); have f2 := hS.cell ge1 (fun h => h); first | (go_simp; done) | (go_simp; with_reducible rfl))
            simp only [Act.put, List.setIfInBounds_toArray, List.set_cons_zero, List.set_cons_succ]
            refine reg_take (i := 2) (v := ?g10v) rfl (by kernel_rfl) (by kernel_rfl) (by kernel_rfl) (by kernel_rfl) (fun _ _ _ h => h) (by rfl) ?g10y (by assumption) ?g10r
            case g10y => (intro W hS; first | (go_simp; done) | (go_simp; with_reducible rfl))
            simp only [Act.put, List.setIfInBounds_toArray, List.set_cons_zero, List.set_cons_succ]
            refine reg_take (i := 3) (v := ?g11v) rfl (by kernel_rfl) (by kernel_rfl) (by kernel_rfl) (by kernel_rfl) (fun _ _ _ h => h) (by rfl) ?g11y (by assumption) ?g11r
            case g11y => (intro W hS; first | (go_simp; done) | (go_simp; with_reducible rfl))
            simp only [Act.put, List.setIfInBounds_toArray, List.set_cons_zero, List.set_cons_succ]
            refine reg_take (i := 4) (v := ?g12v) rfl (by kernel_rfl) (by kernel_rfl) (by kernel_rfl) (by kernel_rfl) (fun _ _ _ h => h) (by rfl) ?g12y (by assumption) ?g12r
            case g12y => (intro W hS; first | (go_simp; done) | (go_simp; with_reducible rfl))
            simp only [Act.put, List.setIfInBounds_toArray, List.set_cons_zero, List.set_cons_succ]
            refine reg_take (i := 5) (v := ?g13v) rfl (by kernel_rfl) (by kernel_rfl) (by kernel_rfl) (by kernel_rfl) (fun _ _ _ h => h) (by rfl) ?g13y (by assumption) ?g13r
            case g13y => (intro W hS; first | (go_simp; done) | (go_simp; with_reducible rfl))
            simp only [Act.put, List.setIfInBounds_toArray, List.set_cons_zero, List.set_cons_succ]
            refine reg_take (i := 6) (v := ?g14v) rfl (by kernel_rfl) (by kernel_rfl) (by kernel_rfl) (by kernel_rfl) (fun _ _ _ h => h) (by rfl) ?g14y (by assumption) ?g14r
            case g14y => (intro W hS; first | (go_simp; done) | (go_simp; with_reducible rfl))
            simp only [Act.put, List.setIfInBounds_toArray, List.set_cons_zero, List.set_cons_succ]
            refine reg_take (i := 7) (v := ?g15v) rfl (by kernel_rfl) (by kernel_rfl) (by kernel_rfl) (by kernel_rfl) (fun _ _ _ h => h) (by rfl) ?g15y (by assumption) ?g15r
            case g15y => (intro W hS; first | (go_simp; done) | (go_simp; with_reducible rfl))
            simp only [Act.put, List.setIfInBounds_toArray, List.set_cons_zero, List.set_cons_succ]
            refine reg_skip (i := 8) rfl (by kernel_rfl) (by kernel_rfl) (by kernel_rfl) (by kernel_rfl) (fun _ _ _ h => h) (by rfl) (by assumption) ?_
            simp only [Act.put, List.setIfInBounds_toArray, List.set_cons_zero, List.set_cons_succ]
            refine reg_skip (i := 9) rfl (by kernel_rfl) (by kernel_rfl) (by kernel_rfl) (by kernel_rfl) (fun _ _ _ h => h) (by rfl) (by assumption) ?_
            simp only [Act.put, List.setIfInBounds_toArray, List.set_cons_zero, List.set_cons_succ]
            refine reg_skip (i := 10) rfl (by kernel_rfl) (by kernel_rfl) (by kernel_rfl) (by kernel_rfl) (fun _ _ _ h => h) (by rfl) (by assumption) ?_
            simp only [Act.put, List.setIfInBounds_toArray, List.set_cons_zero, List.set_cons_succ]
            refine reg_skip (i := 11) rfl (by kernel_rfl) (by kernel_rfl) (by kernel_rfl) (by kernel_rfl) (fun _ _ _ h => h) (by rfl) (by assumption) ?_
            simp only [Act.put, List.setIfInBounds_toArray, List.set_cons_zero, List.set_cons_succ]
            refine reg_skip (i := 12) rfl (by kernel_rfl) (by kernel_rfl) (by kernel_rfl) (by kernel_rfl) (fun _ _ _ h => h) (by rfl) (by assumption) ?_
            simp only [Act.put, List.setIfInBounds_toArray, List.set_cons_zero, List.set_cons_succ]
            refine reg_take (i := 13) (v := ?g16v) rfl (by kernel_rfl) (by kernel_rfl) (by kernel_rfl) (by kernel_rfl) (fun _ _ _ h => h) (by rfl) ?g16y (by assumption) ?g16r
            case g16y => (intro W hS; first | (go_simp; done) | (go_simp; with_reducible rfl))
            simp only [Act.put, List.setIfInBounds_toArray, List.set_cons_zero, List.set_cons_succ]
            refine reg_take (i := 14) (v := ?g17v) rfl (by kernel_rfl) (by kernel_rfl) (by kernel_rfl) (by kernel_rfl) (fun _ _ _ h => h) (by rfl) ?g17y (by assumption) ?g17r
            case g17y => (intro W hS; first | (go_simp; done) | (go_simp; with_reducible rfl))
            simp only [Act.put, List.setIfInBounds_toArray, List.set_cons_zero, List.set_cons_succ]
            refine reg_take (i := 15) (v := ?g18v) rfl (by kernel_rfl) (by kernel_rfl) (by kernel_rfl) (by kernel_rfl) (fun _ _ _ h => h) (by rfl) ?g18y (by assumption) ?g18r
            case g18y => (intro W hS; first | (go_simp; done) | (go_simp; with_reducible rfl))
            simp only [Act.put, List.setIfInBounds_toArray, List.set_cons_zero, List.set_cons_succ]
            refine reg_take (i := 16) (v := ?g19v) rfl (by kernel_rfl) (by kernel_rfl) (by kernel_rfl) (by kernel_rfl) (fun _ _ _ h => h) (by rfl) ?g19y (by assumption) ?g19r
            case g19y => (intro W hS; first | (go_simp; done) | (go_simp; with_reducible rfl))
            simp only [Act.put, List.setIfInBounds_toArray, List.set_cons_zero, List.set_cons_succ]
            refine reg_take (i := 18) (v := ?g20v) rfl (by kernel_rfl) (by kernel_rfl) (by kernel_rfl) (by kernel_rfl) (fun _ _ _ h => h) (by rfl) ?g20y (by assumption) ?g20r
            case g20y => (intro W hS; have f0 := hS.cell gl (fun h => h); have f1 := hS.cell ge0 (fun h => h); have f2 := hS.cell ge1 (fun h => h); first | (go_simp; done) | (go_simp; with_reducible rfl))
            simp only [Act.put, List.setIfInBounds_toArray, List.set_cons_zero, List.set_cons_succ]
            refine reg_take (i := 19) (v := ?g21v) rfl (by kernel_rfl) (by kernel_rfl) (by kernel_rfl) (by kernel_rfl) (fun _ _ _ h => h) (by rfl) ?g21y (by assumption) ?g21r
            case g21y => (intro W hS; first | (go_simp; done) | (go_simp; with_reducible rfl))
            simp only [Act.put, List.setIfInBounds_toArray, List.set_cons_zero, List.set_cons_succ]
            refine reg_one (i := 17) (by kernel_rfl) ?_
            refine op_call (i := 17) (#[.pointer (some ⟨p, 0, none⟩)]) rfl (by rfl) (enters_of Try.func30 (by kernel_rfl) rfl) (by first | (simp [Act.eval]; done) | rfl) ?_
            refine (pt_Len _ p _ ao cap _ (PileAt.chg HP6.out hSc (fun _ _ h => h))).mono ?_
            rintro e w7 ⟨rfl, rfl⟩
            refine ⟨_, rfl, hSc, ?_⟩
            simp only [Act.put, List.setIfInBounds_toArray, List.set_cons_zero, List.set_cons_succ]
            refine reg_take (i := 20) (v := ?g22v) rfl (by kernel_rfl) (by kernel_rfl) (by kernel_rfl) (by kernel_rfl) (fun _ _ _ h => h) (by rfl) ?g22y (by assumption) ?g22r
            case g22y => (intro W hS; first | (go_simp; done) | (go_simp; with_reducible rfl))
            simp only [Act.put, List.setIfInBounds_toArray, List.set_cons_zero, List.set_cons_succ]
            refine reg_take (i := 21) (v := ?g23v) rfl (by kernel_rfl) (by kernel_rfl) (by kernel_rfl) (by kernel_rfl) (fun _ _ _ h => h) (by rfl) ?g23y (by assumption) ?g23r
            case g23y => (intro W hS; first | (go_simp; done) | (go_simp; with_reducible rfl))
            simp only [Act.put, List.setIfInBounds_toArray, List.set_cons_zero, List.set_cons_succ]
            refine wpAnyG_done (by kernel_rfl) ?_ _
            refine NoPanic.normal ?_
            have HSC := hide hSc
            clear hS0 hSc gl ge0 ge1
            go_wp2_with fail
            go_roundw
            case rel => exact ⟨k + 1, by omega, by go_num, ao, cap, _, vl, PileAt.chg HP6.out HSC.out (fun _ _ h => h), HL6.out.chg HSC.out (fun h => h) (fun _ _ _ h => h) (fun _ _ h => h), hlk, HB6.out.trans (HSC.out.below HB6.out.size (fun _ _ h => h))⟩
            case measure => simp [intOf]; omega
          | cons y l =>
            obtain ⟨bb, off, hae, hcs⟩ := hcs0 (by simp)
            subst hae
            obtain ⟨hy0, hy1⟩ := pt_cells wc bb off (y :: l) hcs 0 (by simp)
            simp only [Nat.zero_mul, Nat.add_zero, List.getElem_cons_zero] at hy0 hy1
            clear hcs hcs0 hve hlc
            go_wp2_with fail
            refine (pt_First wc p _ ao cap y l HP.out).mono ?_
            rintro e w5 ⟨rfl, hb5⟩
            have hc5 := Chg.of_below0 (S := fun _ => False) hb5
            obtain ⟨w6, hw6⟩ : ∃ w6, w6 = w5.alloc (.cells #[.int .i64 y.key, .int .i64 y.which] 43) := ⟨_, rfl⟩
            have hc6 : Chg (fun _ => False) wc w6 := hc5.trans (by rw [hw6]; exact Chg.alloc _ w5 _) (fun _ _ h => h) (fun _ _ h => h)
            have HE6 : Hid (w6.heap[w5.heap.size]? = some (.cells #[.int .i64 y.key, .int .i64 y.which] 43 (0, 0))) := by rw [hw6]; exact heap_alloc_new w5 _
            have HL6 := hide (HL.out.chg hc6 (fun h => h) (fun _ _ _ h => h) (fun _ _ h => h))
            have HP6 := hide (PileAt.chg HP.out hc6 (fun _ _ h => h))
            have HB6 := hide (HB.out.trans (hc6.below HB.out.size (fun _ _ h => h)))
            have gy0 := hc6.cell hy0 (fun h => h)
            have gy1 := hc6.cell hy1 (fun h => h)
            have GY0 := hide gy0
            have GY1 := hide gy1
            clear gy0 gy1 hy0 hy1
            have d0 : decide (((y :: l).length : Int) > 0) = true := decide_eq_true (by simp)
            have hidx : (0 : Int) < ((y :: l).length : Int) := by simp
            have HW6 := hide hw6
            clear hb5 hc5 hc6 hw6
            go_wp2_with fail
            rw [← HW6.out]
            have gl := cell_of_heap HL6.out.box 0
            rw [HVE.out] at gl
            have ge0 := cell_of_heap HE6.out 0
            have ge1 := cell_of_heap HE6.out 1
            have gy0 := GY0.out
            have gy1 := GY1.out
            refine wp_region_noPanic ?_
            refine reg_start (Chg (fun _ => False) w6) 22 22 (by rfl) (by kernel_rfl) (Chg.drew _ _) ?_
            intro hS0
            have hSc := hS0
            refine reg_take (i := 0) (v := ?g25v) rfl (by kernel_rfl) (by kernel_rfl) (by kernel_rfl) (by kernel_rfl) (fun _ _ _ h => h) (by rfl) ?g25y (by assumption) ?g25r
            case g25y => (intro W hS; first | (go_simp; done) | (go_simp; with_reducible rfl))
            simp only [Act.put, List.setIfInBounds_toArray, List.set_cons_zero, List.set_cons_succ]
            refine reg_take (i := 1) (v := ?g26v) rfl (by kernel_rfl) (by kernel_rfl) (by kernel_rfl) (by kernel_rfl) (fun _ _ _ h => h) (by rfl) ?g26y (by assumption) ?g26r
            case g26y => (intro W hS; have f0 := hS.cell gl (fun h => h); have f1 := hS.cell ge0 (fun h => h); have f2 := hS.cell ge1 (fun h => h); have f3 := hS.cell gy0 (fun h => h); have f4 := hS.cell gy1 (fun h => h); first | (go_simp; done) | (go_simp; with_reducible rfl))
            simp only [Act.put, List.setIfInBounds_toArray, List.set_cons_zero, List.set_cons_succ]
            refine reg_take (i := 2) (v := ?g27v) rfl (by kernel_rfl) (by kernel_rfl) (by kernel_rfl) (by kernel_rfl) (fun _ _ _ h => h) (by rfl) ?g27y (by assumption) ?g27r
            case g27y => (intro W hS; first | (go_simp; done) | (go_simp; with_reducible rfl))
            simp only [Act.put, List.setIfInBounds_toArray, List.set_cons_zero, List.set_cons_succ]
            refine reg_take (i := 3) (v := ?g28v) rfl (by kernel_rfl) (by kernel_rfl) (by kernel_rfl) (by kernel_rfl) (fun _ _ _ h => h) (by rfl) ?g28y (by assumption) ?g28r
            case g28y => (intro W hS; first | (go_simp; done) | (go_simp; with_reducible rfl))
            simp only [Act.put, List.setIfInBounds_toArray, List.set_cons_zero, List.set_cons_succ]
            refine reg_take (i := 4) (v := ?g29v) rfl (by kernel_rfl) (by kernel_rfl) (by kernel_rfl) (by kernel_rfl) (fun _ _ _ h => h) (by rfl) ?g29y (by assumption) ?g29r
            case g29y => (intro W hS; first | (go_simp; done) | (go_simp; with_reducible rfl))
            simp only [Act.put, List.setIfInBounds_toArray, List.set_cons_zero, List.set_cons_succ]
            refine reg_take (i := 5) (v := ?g30v) rfl (by kernel_rfl) (by kernel_rfl) (by kernel_rfl) (by kernel_rfl) (fun _ _ _ h => h) (by rfl) ?g30y (by assumption) ?g30r
            case g30y => (intro W hS; first | (go_simp; done) | (go_simp; with_reducible rfl))
            simp only [Act.put, List.setIfInBounds_toArray, List.set_cons_zero, List.set_cons_succ]
            refine reg_take (i := 6) (v := ?g31v) rfl (by kernel_rfl) (by kernel_rfl) (by kernel_rfl) (by kernel_rfl) (fun _ _ _ h => h) (by rfl) ?g31y (by assumption) ?g31r
            case g31y => (intro W hS; first | (go_simp; done) | (go_simp; with_reducible rfl))
            simp only [Act.put, List.setIfInBounds_toArray, List.set_cons_zero, List.set_cons_succ]
            refine reg_take (i := 7) (v := ?g32v) rfl (by kernel_rfl) (by kernel_rfl) (by kernel_rfl) (by kernel_rfl) (fun _ _ _ h => h) (by rfl) ?g32y (by assumption) ?g32r
            case g32y => (intro W hS; first | (go_simp; done) | (go_simp; with_reducible rfl))
            simp only [Act.put, List.setIfInBounds_toArray, List.set_cons_zero, List.set_cons_succ]
            refine reg_take (i := 8) (v := ?g33v) rfl (by kernel_rfl) (by kernel_rfl) (by kernel_rfl) (by kernel_rfl) (fun _ _ _ h => h) (by rfl) ?g33y (by assumption) ?g33r
            case g33y => (intro W hS; have f0 := hS.cell gl (fun h => h); have f1 := hS.cell ge0 (fun h => h); have f2 := hS.cell ge1 (fun h => h); have f3 := hS.cell gy0 (fun h => h); have f4 := hS.cell gy1 (fun h => h); first | (go_simp; done) | (go_simp; with_reducible rfl))
            simp only [Act.put, List.setIfInBounds_toArray, List.set_cons_zero, List.set_cons_succ]
            refine reg_take (i := 9) (v := ?g34v) rfl (by kernel_rfl) (by kernel_rfl) (by kernel_rfl) (by kernel_rfl) (fun _ _ _ h => h) (by rfl) ?g34y (by assumption) ?g34r
            case g34y => (intro W hS; have f0 := hS.cell gl (fun h => h); have f1 := hS.cell ge0 (fun h => h); have f2 := hS.cell ge1 (fun h => h); have f3 := hS.cell gy0 (fun h => h); have f4 := hS.cell gy1 (fun h => h); first | (go_simp; done) | (go_simp; with_reducible rfl))
            simp only [Act.put, List.setIfInBounds_toArray, List.set_cons_zero, List.set_cons_succ]
            refine reg_take (i := 10) (v := ?g35v) rfl (by kernel_rfl) (by kernel_rfl) (by kernel_rfl) (by kernel_rfl) (fun _ _ _ h => h) (by rfl) ?g35y (by assumption) ?g35r
            case g35y => (intro W hS; first | (go_simp; done) | (go_simp; with_reducible rfl))
            simp only [Act.put, List.setIfInBounds_toArray, List.set_cons_zero, List.set_cons_succ]
            refine reg_take (i := 11) (v := ?g36v) rfl (by kernel_rfl) (by kernel_rfl) (by kernel_rfl) (by kernel_rfl) (fun _ _ _ h => h) (by rfl) ?g36y (by assumption) ?g36r
            case g36y => (intro W hS; have f0 := hS.cell gl (fun h => h); have f1 := hS.cell ge0 (fun h => h); have f2 := hS.cell ge1 (fun h => h); have f3 := hS.cell gy0 (fun h => h); have f4 := hS.cell gy1 (fun h => h); first | (go_simp; done) | (go_simp; with_reducible rfl))
            simp only [Act.put, List.setIfInBounds_toArray, List.set_cons_zero, List.set_cons_succ]
            refine reg_take (i := 12) (v := ?g37v) rfl (by kernel_rfl) (by kernel_rfl) (by kernel_rfl) (by kernel_rfl) (fun _ _ _ h => h) (by rfl) ?g37y (by assumption) ?g37r
            case g37y => (intro W hS; first | (go_simp; done) | (go_simp; with_reducible rfl))
            simp only [Act.put, List.setIfInBounds_toArray, List.set_cons_zero, List.set_cons_succ]
            refine reg_take (i := 13) (v := ?g38v) rfl (by kernel_rfl) (by kernel_rfl) (by kernel_rfl) (by kernel_rfl) (fun _ _ _ h => h) (by rfl) ?g38y (by assumption) ?g38r
            case g38y => (intro W hS; first | (go_simp; done) | (go_simp; with_reducible rfl))
            simp only [Act.put, List.setIfInBounds_toArray, List.set_cons_zero, List.set_cons_succ]
            refine reg_take (i := 14) (v := ?g39v) rfl (by kernel_rfl) (by kernel_rfl) (by kernel_rfl) (by kernel_rfl) (fun _ _ _ h => h) (by rfl) ?g39y (by assumption) ?g39r
            case g39y => (intro W hS; first | (go_simp; done) | (go_simp; with_reducible rfl))
            simp only [Act.put, List.setIfInBounds_toArray, List.set_cons_zero, List.set_cons_succ]
            refine reg_take (i := 15) (v := ?g40v) rfl (by kernel_rfl) (by kernel_rfl) (by kernel_rfl) (by kernel_rfl) (fun _ _ _ h => h) (by rfl) ?g40y (by assumption) ?g40r
            case g40y => (intro W hS; first | (go_simp; done) | (go_simp; with_reducible rfl))
            simp only [Act.put, List.setIfInBounds_toArray, List.set_cons_zero, List.set_cons_succ]
            refine reg_take (i := 16) (v := ?g41v) rfl (by kernel_rfl) (by kernel_rfl) (by kernel_rfl) (by kernel_rfl) (fun _ _ _ h => h) (by rfl) ?g41y (by assumption) ?g41r
            case g41y => (intro W hS; first | (go_simp; done) | (go_simp; with_reducible rfl))
            simp only [Act.put, List.setIfInBounds_toArray, List.set_cons_zero, List.set_cons_succ]
            refine reg_take (i := 18) (v := ?g42v) rfl (by kernel_rfl) (by kernel_rfl) (by kernel_rfl) (by kernel_rfl) (fun _ _ _ h => h) (by rfl) ?g42y (by assumption) ?g42r
            case g42y => (intro W hS; have f0 := hS.cell gl (fun h => h); have f1 := hS.cell ge0 (fun h => h); have f2 := hS.cell ge1 (fun h => h); have f3 := hS.cell gy0 (fun h => h); have f4 := hS.cell gy1 (fun h => h); first | (go_simp; done) | (go_simp; with_reducible rfl))
            simp only [Act.put, List.setIfInBounds_toArray, List.set_cons_zero, List.set_cons_succ]
            refine reg_take (i := 19) (v := ?g43v) rfl (by kernel_rfl) (by kernel_rfl) (by kernel_rfl) (by kernel_rfl) (fun _ _ _ h => h) (by rfl) ?g43y (by assumption) ?g43r
            case g43y => (intro W hS; first | (go_simp; done) | (go_simp; with_reducible rfl))
            simp only [Act.put, List.setIfInBounds_toArray, List.set_cons_zero, List.set_cons_succ]
            refine reg_one (i := 17) (by kernel_rfl) ?_
            refine op_call (i := 17) (#[.pointer (some ⟨p, 0, none⟩)]) rfl (by rfl) (enters_of Try.func30 (by kernel_rfl) rfl) (by first | (simp [Act.eval]; done) | rfl) ?_
            refine (pt_Len _ p _ ao cap _ (PileAt.chg HP6.out hSc (fun _ _ h => h))).mono ?_
            rintro e w7 ⟨rfl, rfl⟩
            refine ⟨_, rfl, hSc, ?_⟩
            simp only [Act.put, List.setIfInBounds_toArray, List.set_cons_zero, List.set_cons_succ]
            refine reg_take (i := 20) (v := ?g44v) rfl (by kernel_rfl) (by kernel_rfl) (by kernel_rfl) (by kernel_rfl) (fun _ _ _ h => h) (by rfl) ?g44y (by assumption) ?g44r
            case g44y => (intro W hS; first | (go_simp; done) | (go_simp; with_reducible rfl))
            simp only [Act.put, List.setIfInBounds_toArray, List.set_cons_zero, List.set_cons_succ]
            refine reg_take (i := 21) (v := ?g45v) rfl (by kernel_rfl) (by kernel_rfl) (by kernel_rfl) (by kernel_rfl) (fun _ _ _ h => h) (by rfl) ?g45y (by assumption) ?g45r
            case g45y => (intro W hS; first | (go_simp; done) | (go_simp; with_reducible rfl))
            simp only [Act.put, List.setIfInBounds_toArray, List.set_cons_zero, List.set_cons_succ]
            refine wpAnyG_done (by kernel_rfl) ?_ _
            refine NoPanic.normal ?_
            have HSC := hide hSc
            clear hS0 hSc gl ge0 ge1 gy0 gy1
            go_wp2_with fail
            go_roundw
            case rel => exact ⟨k + 1, by omega, by go_num, ao, cap, _, vl, PileAt.chg HP6.out HSC.out (fun _ _ h => h), HL6.out.chg HSC.out (fun h => h) (fun _ _ _ h => h) (fun _ _ h => h), hlk, HB6.out.trans (HSC.out.below HB6.out.size (fun _ _ h => h))⟩
            case measure => simp [intOf]; omega
      · obtain ⟨ao, cap, l, vl, hpl, hls, hlk, hb⟩ := HO.out
        have HP := hide hpl
        have HL := hide hls
        have HB := hide hb
        have hl80 : l.length ≤ 80 := by omega
        have hnn : ∀ (B : Nat) w', Sem.run Try.prog (binOp BinOp.neq 55 (.func (.func 63) #[] #[.pointer (some ⟨B, 0, none⟩)]) .nilFunc) w' = .ok (.bool true) w' := by intro B w'; kernel_rfl
        clear hpl hls hb HO
        go_wp2_with fail
        refine (pt_All _ _).mono ?_
        rintro e w' ⟨rfl, rfl⟩
        obtain ⟨nb, hnb⟩ : ∃ nb, nb = wr.heap.size := ⟨_, rfl⟩
        obtain ⟨w3, hw3⟩ : ∃ w3, w3 = (((wr.alloc (.cells #[.int .i64 0] 3)).alloc (.cells #[.bool true] 4)).alloc (.cells #[.pointer (some ⟨p, 0, none⟩)] 40)) := ⟨_, rfl⟩
        have hc3 : Chg (fun _ => False) wr w3 := by rw [hw3]; exact ((Chg.alloc (fun _ => False) wr _).trans (Chg.alloc _ _ _) (fun _ _ h => h) (fun _ _ h => h)).trans (Chg.alloc _ _ _) (fun _ _ h => h) (fun _ _ h => h)
        have hx0 : w3.heap[nb]? = some (.cells #[.int .i64 0] 3 (0, 0)) := by rw [hw3, hnb]; exact (Chg.alloc (fun _ => False) _ _).heap ((Chg.alloc (fun _ => False) _ _).heap (heap_alloc_new wr _) (fun h => h)) (fun h => h)
        have hx1 : w3.heap[nb + 1]? = some (.cells #[.bool true] 4 (0, 0)) := by rw [hw3, hnb]; exact (Chg.alloc (fun _ => False) _ _).heap (by have := heap_alloc_new (wr.alloc (.cells #[.int .i64 0] 3)) (.cells #[.bool true] 4); rwa [World.size_alloc] at this) (fun h => h)
        have hx2 : w3.heap[nb + 1 + 1]? = some (.cells #[.pointer (some ⟨p, 0, none⟩)] 40 (0, 0)) := by rw [hw3, hnb]; have := heap_alloc_new ((wr.alloc (.cells #[.int .i64 0] 3)).alloc (.cells #[.bool true] 4)) (.cells #[.pointer (some ⟨p, 0, none⟩)] 40); rwa [World.size_alloc, World.size_alloc] at this
        have hz3 : w3.heap.size = nb + 3 := by rw [hw3, hnb]; simp
        have hnbp : ∀ j, PSet p ao j → j < nb := fun j hj => by rw [hnb]; exact (PileAt.lt HP.out j hj).2
        have hnbl : lb < nb := by rw [hnb]; exact HL.out.lt
        have hnbw : W.heap.size ≤ nb := by rw [hnb]; exact HB.out.size
        have hnbr : ∀ b, vl.ownBlock = some b → flat pt_enc l ≠ [] → b < nb := fun b h1 h2 => by rw [hnb]; exact (HL.out.row b h1 h2).2.1
        have HP3 := hide (PileAt.chg HP.out hc3 (fun _ _ h => h))
        have HL3 := hide (HL.out.chg hc3 (fun h => h) (fun _ _ _ h => h) (fun _ _ h => h))
        have HB3 := hide (HB.out.trans (hc3.below HB.out.size (fun _ _ h => h)))
        have HX0 := hide hx0
        have HX1 := hide hx1
        have HX2 := hide hx2
        have HZ3 := hide hz3
        have HNP := hide hnbp
        have HNR := hide hnbr
        have HNB := hide hnb
        have HW3 := hide hw3
        clear hc3 hx0 hx1 hx2 hz3 hnbp hnbr hw3 HP HL HB hnb
        rw [← HW3.out, World.size_alloc, World.size_alloc, ← HNB.out]
        clear HW3 HNB
        go_wp2_with fail
        have hR : ∀ k, (k = nb + 1 + 1 ∨ PSet p ao k) → k < w3.heap.size := fun k hk => by
          have := HZ3.out
          rcases hk with rfl | hk
          · omega
          · have := HNP.out k hk; omega
        refine (wpIn_wide (n := 9)).1 ?_
        refine wpIn_range_box (α := Th) rfl (by omega) (gf := 63) (lb := #[.pointer (some ⟨nb + 1 + 1, 0, none⟩)]) rfl trivial (enters_of Try.func63 (by kernel_rfl) rfl)
          (pt_all_seqd w3 (nb + 1 + 1) p _ ao cap l HP3.out (by rw [cell_of_heap HX2.out]; rfl)) (Kpt.refl _ _) hR (fun _ => rfl) 18 43 (fun x => #[.int .i64 x.key, .int .i64 x.which])
          (fun D pre Wr => ItP W p lb nb ao cap l vl D pre Wr) (fun _ _ _ _ => False) ?hI ?hIx ?h0 ?hIa ?assign ?body ?done ?stop
        case hI =>
          intro D s A A' S h c hS
          exact h.chg c hS HZ3.out hnbw HNP.out hnbl HNR.out
        case hIx => exact fun c D s A A' S h _ _ => h.elim
        case h0 =>
          intro W' hc' hz'
          have hz3 := HZ3.out
          exact ⟨hc'.heap HX0.out (fun h => h), hc'.heap HX1.out (fun h => h), HL3.out.chg hc' (fun h => h) (fun _ _ _ h => h) (fun _ _ h => h), PileAt.chg HP3.out hc' (fun _ _ h => h), HB3.out.trans (hc'.below HB3.out.size (fun _ _ h => h)), fun _ h => h.elim, by omega⟩
        case hIa =>
          intro D s A o h
          have c := Chg.alloc (fun _ => False) A o
          exact ⟨c.heap h.cnt (fun h => h), c.heap h.same (fun h => h), h.list.chg c (fun h => h) (fun _ _ _ h => h) (fun _ _ h => h), PileAt.chg h.pile c (fun _ _ h => h), h.bel.trans (c.below h.bel.size (fun _ _ h => h)), fun k hk => ⟨(h.far k hk).1, Nat.lt_of_lt_of_le (h.far k hk).2 c.size⟩, Nat.le_trans h.big c.size⟩
        case assign =>
          intro lr x W1 K hK
          rw [told_one] at hK ⊢
          simp only [List.setIfInBounds_toArray, List.set_cons_zero, List.set_cons_succ] at hK ⊢
          have HK := hide hK
          clear hK
          gi_wp2_with fail
          exact HK.out
        case body =>
          intro lr D pre x Bx W1 hlr hbx hbc hit hpre hnd hnd1 hn0 hn1
          rw [told_one]
          simp only [List.setIfInBounds_toArray, List.set_cons_zero, List.set_cons_succ]
          obtain ⟨hpl, hpx⟩ := prefix_get hpre
          obtain ⟨av, cv, hve, hlc, hcs0⟩ := hit.list.rd.shape
          obtain ⟨bb, off, hae, hcs⟩ := hcs0 (by omega)
          subst hae
          obtain ⟨hy0, hy1⟩ := pt_cells W1 bb off l hcs pre.length hpl
          rw [hpx] at hy0 hy1
          have gx0 := cell_of_heap hbc 0
          have gx1 := cell_of_heap hbc 1
          have gn := cell_of_heap hit.cnt 0
          have gs := cell_of_heap hit.same 0
          have gl := cell_of_heap hit.list.box 0
          rw [hve] at gl
          have hpc : (pre.length : Int) < l.length := by omega
          have d1 : decide ((pre.length : Int) < l.length) = true := decide_eq_true hpc
          have a1 : IntKind.i64.wrap ((pre.length : Int) + 1) = pre.length + 1 := IntWalk.i64_in _ (by omega)
          have HIT := hide hit
          clear hcs hcs0 hve hlc hpx hbc hpre hnd hnd1 hn0 hn1 hit hlr
          gi_wp2_with fail
          refine reg_start_in (Chg (fun _ => False) W1) 16 15 (by rfl) (by kernel_rfl) (by kernel_rfl) (by rintro ⟨_, _, h⟩; exact h) (Chg.drew _ _) ?_
          intro hS0
          have hSc := hS0
          refine reg_take (i := 0) (v := ?g47v) rfl (by kernel_rfl) (by kernel_rfl) (by kernel_rfl) (by kernel_rfl) (fun _ _ _ h => h) (by rfl) ?g47y (by assumption) ?g47r
          case g47y => (intro W hS; have f0 := hS.cell gx0 (fun h => h); have f1 := hS.cell gx1 (fun h => h); have f2 := hS.cell gn (fun h => h); have f3 := hS.cell gs (fun h => h); have f4 := hS.cell gl (fun h => h); have f5 := hS.cell hy0 (fun h => h); have f6 := hS.cell hy1 (fun h => h); first | (go_simp; done) | (go_simp; with_reducible rfl))
          simp only [Act.put, List.setIfInBounds_toArray, List.set_cons_zero, List.set_cons_succ]
          refine reg_take (i := 1) (v := ?g48v) rfl (by kernel_rfl) (by kernel_rfl) (by kernel_rfl) (by kernel_rfl) (fun _ _ _ h => h) (by rfl) ?g48y (by assumption) ?g48r
          case g48y => (intro W hS; first | (go_simp; done) | (go_simp; with_reducible rfl))
          simp only [Act.put, List.setIfInBounds_toArray, List.set_cons_zero, List.set_cons_succ]
          refine reg_take (i := 2) (v := ?g49v) rfl (by kernel_rfl) (by kernel_rfl) (by kernel_rfl) (by kernel_rfl) (fun _ _ _ h => h) (by rfl) ?g49y (by assumption) ?g49r
          case g49y => (intro W hS; have f0 := hS.cell gx0 (fun h => h); have f1 := hS.cell gx1 (fun h => h); have f2 := hS.cell gn (fun h => h); have f3 := hS.cell gs (fun h => h); have f4 := hS.cell gl (fun h => h); have f5 := hS.cell hy0 (fun h => h); have f6 := hS.cell hy1 (fun h => h); first | (go_simp; done) | (go_simp; with_reducible rfl))
          simp only [Act.put, List.setIfInBounds_toArray, List.set_cons_zero, List.set_cons_succ]
          refine reg_take (i := 3) (v := ?g50v) rfl (by kernel_rfl) (by kernel_rfl) (by kernel_rfl) (by kernel_rfl) (fun _ _ _ h => h) (by rfl) ?g50y (by assumption) ?g50r
          case g50y => (intro W hS; have f0 := hS.cell gx0 (fun h => h); have f1 := hS.cell gx1 (fun h => h); have f2 := hS.cell gn (fun h => h); have f3 := hS.cell gs (fun h => h); have f4 := hS.cell gl (fun h => h); have f5 := hS.cell hy0 (fun h => h); have f6 := hS.cell hy1 (fun h => h); first | (go_simp; done) | (go_simp; with_reducible rfl))
          simp only [Act.put, List.setIfInBounds_toArray, List.set_cons_zero, List.set_cons_succ]
          refine reg_take (i := 4) (v := ?g51v) rfl (by kernel_rfl) (by kernel_rfl) (by kernel_rfl) (by kernel_rfl) (fun _ _ _ h => h) (by rfl) ?g51y (by assumption) ?g51r
          case g51y => (intro W hS; first | (go_simp; done) | (go_simp; with_reducible rfl))
          simp only [Act.put, List.setIfInBounds_toArray, List.set_cons_zero, List.set_cons_succ]
          refine reg_take (i := 5) (v := ?g52v) rfl (by kernel_rfl) (by kernel_rfl) (by kernel_rfl) (by kernel_rfl) (fun _ _ _ h => h) (by rfl) ?g52y (by assumption) ?g52r
          case g52y => (intro W hS; first | (go_simp; done) | (go_simp; with_reducible rfl))
          simp only [Act.put, List.setIfInBounds_toArray, List.set_cons_zero, List.set_cons_succ]
          refine reg_take (i := 6) (v := ?g53v) rfl (by kernel_rfl) (by kernel_rfl) (by kernel_rfl) (by kernel_rfl) (fun _ _ _ h => h) (by rfl) ?g53y (by assumption) ?g53r
          case g53y => (intro W hS; first | (go_simp; done) | (go_simp; with_reducible rfl))
          simp only [Act.put, List.setIfInBounds_toArray, List.set_cons_zero, List.set_cons_succ]
          refine reg_take (i := 7) (v := ?g54v) rfl (by kernel_rfl) (by kernel_rfl) (by kernel_rfl) (by kernel_rfl) (fun _ _ _ h => h) (by rfl) ?g54y (by assumption) ?g54r
          case g54y => (intro W hS; first | (go_simp; done) | (go_simp; with_reducible rfl))
          simp only [Act.put, List.setIfInBounds_toArray, List.set_cons_zero, List.set_cons_succ]
          refine reg_take (i := 8) (v := ?g55v) rfl (by kernel_rfl) (by kernel_rfl) (by kernel_rfl) (by kernel_rfl) (fun _ _ _ h => h) (by rfl) ?g55y (by assumption) ?g55r
          case g55y => (intro W hS; have f0 := hS.cell gx0 (fun h => h); have f1 := hS.cell gx1 (fun h => h); have f2 := hS.cell gn (fun h => h); have f3 := hS.cell gs (fun h => h); have f4 := hS.cell gl (fun h => h); have f5 := hS.cell hy0 (fun h => h); have f6 := hS.cell hy1 (fun h => h); first | (go_simp; done) | (go_simp; with_reducible rfl))
          simp only [Act.put, List.setIfInBounds_toArray, List.set_cons_zero, List.set_cons_succ]
          refine reg_take (i := 9) (v := ?g56v) rfl (by kernel_rfl) (by kernel_rfl) (by kernel_rfl) (by kernel_rfl) (fun _ _ _ h => h) (by rfl) ?g56y (by assumption) ?g56r
          case g56y => (intro W hS; have f0 := hS.cell gx0 (fun h => h); have f1 := hS.cell gx1 (fun h => h); have f2 := hS.cell gn (fun h => h); have f3 := hS.cell gs (fun h => h); have f4 := hS.cell gl (fun h => h); have f5 := hS.cell hy0 (fun h => h); have f6 := hS.cell hy1 (fun h => h); first | (go_simp; done) | (go_simp; with_reducible rfl))
          simp only [Act.put, List.setIfInBounds_toArray, List.set_cons_zero, List.set_cons_succ]
          refine reg_take (i := 10) (v := ?g57v) rfl (by kernel_rfl) (by kernel_rfl) (by kernel_rfl) (by kernel_rfl) (fun _ _ _ h => h) (by rfl) ?g57y (by assumption) ?g57r
          case g57y => (intro W hS; have f0 := hS.cell gx0 (fun h => h); have f1 := hS.cell gx1 (fun h => h); have f2 := hS.cell gn (fun h => h); have f3 := hS.cell gs (fun h => h); have f4 := hS.cell gl (fun h => h); have f5 := hS.cell hy0 (fun h => h); have f6 := hS.cell hy1 (fun h => h); first | (go_simp; done) | (go_simp; with_reducible rfl))
          simp only [Act.put, List.setIfInBounds_toArray, List.set_cons_zero, List.set_cons_succ]
          refine reg_take (i := 11) (v := ?g58v) rfl (by kernel_rfl) (by kernel_rfl) (by kernel_rfl) (by kernel_rfl) (fun _ _ _ h => h) (by rfl) ?g58y (by assumption) ?g58r
          case g58y => (intro W hS; first | (go_simp; done) | (go_simp; with_reducible rfl))
          simp only [Act.put, List.setIfInBounds_toArray, List.set_cons_zero, List.set_cons_succ]
          refine reg_take (i := 12) (v := ?g59v) rfl (by kernel_rfl) (by kernel_rfl) (by kernel_rfl) (by kernel_rfl) (fun _ _ _ h => h) (by rfl) ?g59y (by assumption) ?g59r
          case g59y => (intro W hS; have f0 := hS.cell gx0 (fun h => h); have f1 := hS.cell gx1 (fun h => h); have f2 := hS.cell gn (fun h => h); have f3 := hS.cell gs (fun h => h); have f4 := hS.cell gl (fun h => h); have f5 := hS.cell hy0 (fun h => h); have f6 := hS.cell hy1 (fun h => h); first | (go_simp; done) | (go_simp; with_reducible rfl))
          simp only [Act.put, List.setIfInBounds_toArray, List.set_cons_zero, List.set_cons_succ]
          refine reg_take (i := 13) (v := ?g60v) rfl (by kernel_rfl) (by kernel_rfl) (by kernel_rfl) (by kernel_rfl) (fun _ _ _ h => h) (by rfl) ?g60y (by assumption) ?g60r
          case g60y => (intro W hS; first | (go_simp; done) | (go_simp; with_reducible rfl))
          simp only [Act.put, List.setIfInBounds_toArray, List.set_cons_zero, List.set_cons_succ]
          refine reg_take (i := 14) (v := ?g61v) rfl (by kernel_rfl) (by kernel_rfl) (by kernel_rfl) (by kernel_rfl) (fun _ _ _ h => h) (by rfl) ?g61y (by assumption) ?g61r
          case g61y => (intro W hS; first | (go_simp; done) | (go_simp; with_reducible rfl))
          simp only [Act.put, List.setIfInBounds_toArray, List.set_cons_zero, List.set_cons_succ]
          refine reg_late (i := 15) (by kernel_rfl) (by decide) ?_
          refine op_store (i := 15) rfl (by rfl) (w' := W1.drew.setCell ⟨nb + 1, 0, none⟩ (.bool true)) (by have f3 := hS0.cell gs (fun h => h); have ff := free_of_heap (hS0.heap HIT.out.same (fun h => h)) 0; go_simp) ?_
          simp only [Act.put]
          refine wpAnyG_done (by kernel_rfl) ?_ _
          have hc5 : Chg (fun j => j = nb + 1) W1 (W1.drew.setCell ⟨nb + 1, 0, none⟩ (.bool true)) := (Chg.drew _ W1).trans (Chg.setCell _ _ _) (fun _ _ h => h) (fun _ _ h => h)
          have hs5 : (W1.drew.setCell ⟨nb + 1, 0, none⟩ (.bool true)).heap[nb + 1]? = some (.cells #[.bool true] 4 (0, 0)) := by have := heap_setCell_same (w := W1.drew) HIT.out.same (i := 0) (.bool true); exact this
          clear hS0 hSc gx0 gx1 gn gs gl hy0 hy1
          generalize W1.drew.setCell ⟨nb + 1, 0, none⟩ (.bool true) = W5 at hc5 hs5 ⊢
          have hn5 := hc5.heap HIT.out.cnt (fun h => absurd h (by omega))
          have gn := cell_of_heap hn5 0
          have gf := free_of_heap hn5 0
          have hnl5 := (Array.getElem?_eq_some_iff.1 hn5).1
          have HC5 := hide hc5
          have HS5 := hide hs5
          have HN5 := hide hn5
          clear hc5 hs5 hn5
          gi_wp2_with fail
          have hc6 : Chg (fun j => j = nb ∨ j = nb + 1) W1 (W5.setCell ⟨nb, 0, none⟩ (.int .i64 (pre.length + 1))) := HC5.out.trans (Chg.setCell _ _ _) (fun _ _ h => .inr h) (fun _ _ h => .inl h)
          have hit := HIT.out
          have hno : ∀ j, j < nb → ¬ (j = nb ∨ j = nb + 1) := fun j hj h => by omega
          refine ⟨Kpt.of_chg hc6 (fun j hj hr h => ?_), ⟨?_, ?_, hit.list.chg hc6 (hno _ hnbl) (fun b h1 h2 => hno _ (HNR.out b h1 h2)) (fun _ _ h => h), PileAt.chg hit.pile hc6 (fun j hj => hno _ (HNP.out j hj)), hit.bel.trans (hc6.below hit.bel.size (fun j hj => hno _ (by omega))), fun j hj => ⟨(hit.far j hj).1, Nat.lt_of_lt_of_le (hit.far j hj).2 hc6.size⟩, Nat.le_trans hit.big hc6.size⟩⟩
          · have hz3 := HZ3.out
            rcases hr with (h1 | h1) | h1 | h1 | h1
            · omega
            · have := HNP.out j h1; omega
            · have := (hit.far j h1).1; omega
            · omega
            · omega
          · have := heap_setCell_same HN5.out (i := 0) (.int .i64 (pre.length + 1))
            rw [show (pre ++ [x]).length = pre.length + 1 by simp]
            exact this
          · exact (Chg.setCell W5 ⟨nb, 0, none⟩ _).heap HS5.out (fun h => by have h : nb + 1 = nb := h; omega)
        case stop => exact fun _ _ _ _ _ h => h.elim
        case done =>
          intro D Wd hit hdef hnd
          obtain ⟨av, cv, hve, -, -⟩ := hit.list.rd.shape
          have gn := cell_of_heap hit.cnt 0
          have gs := cell_of_heap hit.same 0
          have gl := cell_of_heap hit.list.box 0
          rw [hve] at gl
          have HIT := hide hit
          have HDEF := hide hdef
          clear hve hit hdef hnd
          go_wp2_with fail
          refine wp_region_noPanic ?_
          refine reg_start (Chg (fun _ => False) Wd) 22 22 (by rfl) (by kernel_rfl) (Chg.drew _ _) ?_
          intro hS0
          have hSc := hS0
          refine reg_take (i := 0) (v := ?g63v) rfl (by kernel_rfl) (by kernel_rfl) (by kernel_rfl) (by kernel_rfl) (fun _ _ _ h => h) (by rfl) ?g63y (by assumption) ?g63r
          case g63y => (intro W hS; have f2 := hS.cell gn (fun h => h); have f3 := hS.cell gs (fun h => h); have f4 := hS.cell gl (fun h => h); first | (go_simp; done) | (go_simp; with_reducible rfl))
          simp only [Act.put, List.setIfInBounds_toArray, List.set_cons_zero, List.set_cons_succ]
          refine reg_take (i := 1) (v := ?g64v) rfl (by kernel_rfl) (by kernel_rfl) (by kernel_rfl) (by kernel_rfl) (fun _ _ _ h => h) (by rfl) ?g64y (by assumption) ?g64r
          case g64y => (intro W hS; first | (go_simp; done) | (go_simp; with_reducible rfl))
          simp only [Act.put, List.setIfInBounds_toArray, List.set_cons_zero, List.set_cons_succ]
          refine reg_take (i := 2) (v := ?g65v) rfl (by kernel_rfl) (by kernel_rfl) (by kernel_rfl) (by kernel_rfl) (fun _ _ _ h => h) (by rfl) ?g65y (by assumption) ?g65r
          case g65y => (intro W hS; have f2 := hS.cell gn (fun h => h); have f3 := hS.cell gs (fun h => h); have f4 := hS.cell gl (fun h => h); first | (go_simp; done) | (go_simp; with_reducible rfl))
          simp only [Act.put, List.setIfInBounds_toArray, List.set_cons_zero, List.set_cons_succ]
          refine reg_take (i := 3) (v := ?g66v) rfl (by kernel_rfl) (by kernel_rfl) (by kernel_rfl) (by kernel_rfl) (fun _ _ _ h => h) (by rfl) ?g66y (by assumption) ?g66r
          case g66y => (intro W hS; have f2 := hS.cell gn (fun h => h); have f3 := hS.cell gs (fun h => h); have f4 := hS.cell gl (fun h => h); first | (go_simp; done) | (go_simp; with_reducible rfl))
          simp only [Act.put, List.setIfInBounds_toArray, List.set_cons_zero, List.set_cons_succ]
          refine reg_take (i := 4) (v := ?g67v) rfl (by kernel_rfl) (by kernel_rfl) (by kernel_rfl) (by kernel_rfl) (fun _ _ _ h => h) (by rfl) ?g67y (by assumption) ?g67r
          case g67y => (intro W hS; first | (go_simp; done) | (go_simp; with_reducible rfl))
          simp only [Act.put, List.setIfInBounds_toArray, List.set_cons_zero, List.set_cons_succ]
          refine reg_take (i := 5) (v := ?g68v) rfl (by kernel_rfl) (by kernel_rfl) (by kernel_rfl) (by kernel_rfl) (fun _ _ _ h => h) (by rfl) ?g68y (by assumption) ?g68r
          case g68y => (intro W hS; first | (go_simp; done) | (go_simp; with_reducible rfl))
          simp only [Act.put, List.setIfInBounds_toArray, List.set_cons_zero, List.set_cons_succ]
          refine reg_take (i := 6) (v := ?g69v) rfl (by kernel_rfl) (by kernel_rfl) (by kernel_rfl) (by kernel_rfl) (fun _ _ _ h => h) (by rfl) ?g69y (by assumption) ?g69r
          case g69y => (intro W hS; first | (go_simp; done) | (go_simp; with_reducible rfl))
          simp only [Act.put, List.setIfInBounds_toArray, List.set_cons_zero, List.set_cons_succ]
          refine reg_take (i := 7) (v := ?g70v) rfl (by kernel_rfl) (by kernel_rfl) (by kernel_rfl) (by kernel_rfl) (fun _ _ _ h => h) (by rfl) ?g70y (by assumption) ?g70r
          case g70y => (intro W hS; first | (go_simp; done) | (go_simp; with_reducible rfl))
          simp only [Act.put, List.setIfInBounds_toArray, List.set_cons_zero, List.set_cons_succ]
          refine reg_take (i := 8) (v := ?g71v) rfl (by kernel_rfl) (by kernel_rfl) (by kernel_rfl) (by kernel_rfl) (fun _ _ _ h => h) (by rfl) ?g71y (by assumption) ?g71r
          case g71y => (intro W hS; first | (go_simp; done) | (go_simp; with_reducible rfl))
          simp only [Act.put, List.setIfInBounds_toArray, List.set_cons_zero, List.set_cons_succ]
          refine reg_one (i := 9) (by kernel_rfl) ?_
          refine op_call (i := 9) (#[.pointer (some ⟨p, 0, none⟩), .nilFunc]) rfl (by rfl) (enters_of Try.func27 (by kernel_rfl) rfl) (by first | (simp [Act.eval]; done) | rfl) ?_
          refine (pt_Remove_none _ p).mono ?_
          rintro e w7 ⟨rfl, rfl⟩
          refine ⟨_, rfl, hSc, ?_⟩
          simp only [Act.put, List.setIfInBounds_toArray, List.set_cons_zero, List.set_cons_succ]
          refine reg_take (i := 10) (v := ?g72v) rfl (by kernel_rfl) (by kernel_rfl) (by kernel_rfl) (by kernel_rfl) (fun _ _ _ h => h) (by rfl) ?g72y (by assumption) ?g72r
          case g72y => (intro W hS; first | (go_simp; done) | (go_simp; with_reducible rfl))
          simp only [Act.put, List.setIfInBounds_toArray, List.set_cons_zero, List.set_cons_succ]
          refine reg_take (i := 11) (v := ?g73v) rfl (by kernel_rfl) (by kernel_rfl) (by kernel_rfl) (by kernel_rfl) (fun _ _ _ h => h) (by rfl) ?g73y (by assumption) ?g73r
          case g73y => (intro W hS; first | (go_simp; done) | (go_simp; with_reducible rfl))
          simp only [Act.put, List.setIfInBounds_toArray, List.set_cons_zero, List.set_cons_succ]
          refine reg_take (i := 12) (v := ?g74v) rfl (by kernel_rfl) (by kernel_rfl) (by kernel_rfl) (by kernel_rfl) (fun _ _ _ h => h) (by rfl) ?g74y (by assumption) ?g74r
          case g74y => (intro W hS; first | (go_simp; done) | (go_simp; with_reducible rfl))
          simp only [Act.put, List.setIfInBounds_toArray, List.set_cons_zero, List.set_cons_succ]
          refine reg_take (i := 13) (v := ?g75v) rfl (by kernel_rfl) (by kernel_rfl) (by kernel_rfl) (by kernel_rfl) (fun _ _ _ h => h) (by rfl) ?g75y (by assumption) ?g75r
          case g75y => (intro W hS; first | (go_simp; done) | (go_simp; with_reducible rfl))
          simp only [Act.put, List.setIfInBounds_toArray, List.set_cons_zero, List.set_cons_succ]
          refine reg_take (i := 15) (v := ?g76v) rfl (by kernel_rfl) (by kernel_rfl) (by kernel_rfl) (by kernel_rfl) (fun _ _ _ h => h) (by rfl) ?g76y (by assumption) ?g76r
          case g76y => (intro W hS; have f2 := hS.cell gn (fun h => h); have f3 := hS.cell gs (fun h => h); have f4 := hS.cell gl (fun h => h); first | (go_simp; done) | (go_simp; with_reducible rfl))
          simp only [Act.put, List.setIfInBounds_toArray, List.set_cons_zero, List.set_cons_succ]
          refine reg_one (i := 14) (by kernel_rfl) ?_
          refine op_call (i := 14) (#[.pointer (some ⟨p, 0, none⟩)]) rfl (by rfl) (enters_of Try.func30 (by kernel_rfl) rfl) (by first | (simp [Act.eval]; done) | rfl) ?_
          refine (pt_Len _ p _ ao cap _ (PileAt.chg HIT.out.pile hSc (fun _ _ h => h))).mono ?_
          rintro e w7 ⟨rfl, rfl⟩
          refine ⟨_, rfl, hSc, ?_⟩
          simp only [Act.put, List.setIfInBounds_toArray, List.set_cons_zero, List.set_cons_succ]
          refine reg_take (i := 16) (v := ?g77v) rfl (by kernel_rfl) (by kernel_rfl) (by kernel_rfl) (by kernel_rfl) (fun _ _ _ h => h) (by rfl) ?g77y (by assumption) ?g77r
          case g77y => (intro W hS; first | (go_simp; done) | (go_simp; with_reducible rfl))
          simp only [Act.put, List.setIfInBounds_toArray, List.set_cons_zero, List.set_cons_succ]
          refine reg_take (i := 17) (v := ?g78v) rfl (by kernel_rfl) (by kernel_rfl) (by kernel_rfl) (by kernel_rfl) (fun _ _ _ h => h) (by rfl) ?g78y (by assumption) ?g78r
          case g78y => (intro W hS; first | (go_simp; done) | (go_simp; with_reducible rfl))
          simp only [Act.put, List.setIfInBounds_toArray, List.set_cons_zero, List.set_cons_succ]
          refine reg_take (i := 18) (v := ?g79v) rfl (by kernel_rfl) (by kernel_rfl) (by kernel_rfl) (by kernel_rfl) (fun _ _ _ h => h) (by rfl) ?g79y (by assumption) ?g79r
          case g79y => (intro W hS; first | (go_simp; done) | (go_simp; with_reducible rfl))
          simp only [Act.put, List.setIfInBounds_toArray, List.set_cons_zero, List.set_cons_succ]
          refine reg_one (i := 19) (by kernel_rfl) ?_
          refine op_call (i := 19) (#[]) rfl (by rfl) (enters_of Try.func12 (by kernel_rfl) rfl) (by simp) ?_
          refine (awake2 _).mono ?_
          rintro e w8 ⟨rfl, hb8⟩
          have hSc := hSc.trans (Chg.of_below0 (S := fun _ => False) hb8) (S'' := fun _ => False) (fun _ _ h => h) (fun _ _ h => h)
          clear hb8
          refine ⟨_, rfl, hSc, ?_⟩
          simp only [Act.put, List.setIfInBounds_toArray, List.set_cons_zero, List.set_cons_succ]
          refine reg_take (i := 20) (v := ?g80v) rfl (by kernel_rfl) (by kernel_rfl) (by kernel_rfl) (by kernel_rfl) (fun _ _ _ h => h) (by rfl) ?g80y (by assumption) ?g80r
          case g80y => (intro W hS; first | (go_simp; done) | (go_simp; with_reducible rfl))
          simp only [Act.put, List.setIfInBounds_toArray, List.set_cons_zero, List.set_cons_succ]
          refine reg_take (i := 21) (v := ?g81v) rfl (by kernel_rfl) (by kernel_rfl) (by kernel_rfl) (by kernel_rfl) (fun _ _ _ h => h) (by rfl) ?g81y (by assumption) ?g81r
          case g81y => (intro W hS; first | (go_simp; done) | (go_simp; with_reducible rfl))
          simp only [Act.put, List.setIfInBounds_toArray, List.set_cons_zero, List.set_cons_succ]
          refine wpAnyG_done (by kernel_rfl) ?_ _
          refine NoPanic.normal ?_
          have HSC := hide hSc
          clear hS0 hSc gn gs gl
          go_wp2_with fail
          have hd3 := HSC.out.heap HDEF.out (fun h => h)
          refine ⟨by simp, .inl ⟨_, _, rfl, run_takeDeferred hd3, ?_⟩⟩
          have hp := chg_putObj w8 w3.heap.size (.deferred none)
          have hbw := HIT.out.bel.trans (HSC.out.below HIT.out.bel.size (fun _ _ h => h))
          exact ⟨_, results_tmp rfl _ _ _, rfl, hbw.trans (hp.below hbw.size (fun k hk e => by have := HZ3.out; omega))⟩
  · have d8 : decide ((acts.length : Int) > 80) = true := decide_eq_true (by omega)
    go_wp2_with fail
    refine (awake2 _).mono ?_
    rintro e w10 ⟨rfl, hb10⟩
    have HB10 := hide hb10
    clear hb10
    go_wp2_with fail
    exact ⟨_, results_tmp rfl _ _ _, rfl, HB10.out⟩

set_option maxRecDepth 100000 in
theorem PileScript_lifted (os : Os) (started : os.Started) (H : Type) (enc : TypeId × Value → H) :
    ReturnsInHanded {} Try.checked os 5 .any (Rows.pileScriptSpec.pre6 enc Try.prog Try.f5 Rows.pileScriptRow.domain false) (Rows.pileScriptSpec.post enc Try.prog Try.f5 false true false false) := by
  refine returnsInHanded_of_change (C := Try.checked) law_own started (by kernel_rfl) Try.func5
    (ChangeSpec.witness6 (enc := enc) (C := Try.checked) false ⟨#[], #[.slice none 0 0], []⟩ 8 (by kernel_rfl) (by kernel_rfl) (by kernel_rfl) (by kernel_rfl)) ?_
  intro W base args ds gs before hval0 hW hcnd _
  have hval : ∀ (j : Nat) t v, Try.f5.params[j]? = some t → args[j]? = some v → Value.okWide Try.prog W .any base t v := hval0
  have hW' := hW
  obtain ⟨p, q, hA0, hV, rfl, hfz, hnd⟩ := hW
  have hA : DataW.TrodAll enc Try.prog W 0 (fun _ => true) true Try.f5.params.toList args.toList ds p := hA0
  rw [Try.params5] at hA hval
  obtain ⟨v0, vs0, d0, ds0, p0, q0, hargs, rfl, rfl, h0, r0⟩ := trodAll_cons hA
  obtain ⟨rfl, rfl, rfl⟩ := trodAll_nil r0
  obtain rfl : args = #[v0] := by cases args; simp_all
  obtain ⟨rfl, rfl⟩ := trodVars_none hV
  have k0 := h0
  have lt0 : ∀ x ∈ p0, x.block < W.heap.size := by obtain ⟨m, hm⟩ := k0; exact DataW.trod_lt m _ _ _ hm
  obtain ⟨a0, len0, cap0, rfl⟩ := okWide_slice Try.underlying39 (hval 0 39 v0 rfl rfl)
  clear hA0 hval0
  refine (PileScript_walk (enc := enc) W a0 len0 cap0 (Readable.of_trod h0)).mono fun e W' ⟨he, bel⟩ => ?_
  subst he
  exact ⟨_, rfl, _, _, _, [], _, [], hW', trodAll_mk1 (shut_bool Try.underlying4 _), (trodAll_cons_mk (Below.trod law_laid (by kernel_rfl) (of_decide_eq_true (by kernel_rfl)) k0 bel lt0) trodAll_mk0), rfl, bel.frame _, fun h => by cases h⟩

theorem PileScript_over : Rows.pileScriptRow.holds Try.pinned (OpenSpec.ofChange Rows.pileScriptSpec) :=
  OpenClaim.holds_of_wide 5 Try.f5 rfl rfl rfl rfl rfl rfl rfl ⟨rfl, rfl, rfl, rfl, rfl⟩ rfl rfl rfl rfl rfl (by kernel_rfl) Try.func5 (by kernel_rfl)
    (of_decide_eq_true (by kernel_rfl)) (by unfold Func.isWrapper; first | (rw [if_pos (by decide +kernel)]; kernel_rfl) | (rw [if_neg (by decide +kernel)]; exact ⟨rfl, rfl⟩))
    (fun os started H enc _ => PileScript_lifted os started H enc)

theorem PileScript_holds : Rows.PileScriptSaid := PileScript_over
#print axioms PileScript_holds

end Go.Proofs.Ytjgcicpclojfgaa
