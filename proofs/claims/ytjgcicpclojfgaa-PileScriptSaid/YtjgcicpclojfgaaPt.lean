/- A pile of cortegelaw2.Thing: put. -/
import Derived.Test.YtjgcicpclojfgaaPt0
import Derived.Test.YtjgcicpclojfgaaPileW
import Derived.Test.YtjgcicpclojfgaaLow
import Derived.Deep.RegionWith
namespace Go.Proofs.Ytjgcicpclojfgaa
open Go.RowKit Go.Shelf

structure Th where
  key : Int
  which : Int
def pt_enc (x : Th) : List Value := [.int .i64 (x).key, .int .i64 (x).which]
theorem pt_len (x : Th) : (pt_enc x).length = 2 := rfl
theorem pt_one (x : Th) : ∀ u ∈ pt_enc x, u.oneCell' = true := by simp [pt_enc, Value.oneCell']
theorem pt_cells (w : World) (b off : Nat) (l : List Th) (h : CellsAt w b off (flat pt_enc l)) (i : Nat) (hi : i < l.length) : w.cell? ⟨b, off + i * 2, none⟩ = some (.int .i64 l[i].key) ∧ w.cell? ⟨b, off + i * 2 + 1, none⟩ = some (.int .i64 l[i].which) := by
  have g : ∀ j u, j < 2 → (pt_enc l[i])[j]? = some u → w.cell? ⟨b, off + i * 2 + j, none⟩ = some u := fun j u hj hu => by
    have := h (i * 2 + j) u (by rw [flat_get pt_len (by decide) l i j hi hj]; exact hu)
    rwa [← Nat.add_assoc] at this
  exact ⟨g 0 _ (by decide) rfl, g 1 _ (by decide) rfl⟩
/-- What a pile's order answers. -/
def pt_Less (g : Nat) (lt : Th → Th → Bool) : Prop := (∀ args w, (callFunc g args).run Try.prog w = .ok (.enter g args) w) ∧ ∀ (W : World) (x y : Th), Calls Try.prog g #[.agg #[.int .i64 (x).key, .int .i64 (x).which], .agg #[.int .i64 (y).key, .int .i64 (y).which]] W fun e W' => Lays e (.bool (lt x y)) W W'
def pt_At (base : Nat) (w : World) (p g : Nat) (ao : Option Addr) (cap : Nat) (l : List Th) : Prop := PileAt 95 43 2 base w p (.func (.func g) #[] #[]) ao cap l.length (flat pt_enc l)
def pt_Grew (base : Nat) (w : World) (p g : Nat) (ao : Option Addr) (l : List Th) (w' : World) : Prop := Grew 95 43 2 base w p (.func (.func g) #[] #[]) ao l.length (flat pt_enc l) w'

set_option maxHeartbeats 8000000 in
set_option maxRecDepth 100000 in
theorem pt_put {base : Nat} (w : World) (p g : Nat) (ao : Option Addr) (cap : Nat) (l : List Th) (lt : Th → Th → Bool) (x : Th) (hle : pt_Less g lt) (h : pt_At base w p g ao cap l) (hl : l.length < 1000) :
    Calls Try.prog 60 #[.pointer (some ⟨p, 0, none⟩), .agg #[.int .i64 (x).key, .int .i64 (x).which]] w fun e w' => e = .returned (.tuple #[]) ∧ pt_Grew base w p g ao (ins lt l x) w' := by
  have eg := hle.1
  have EG := hide eg
  have HL := hide hle.2
  have HP := hide h
  have h1 := h.c1
  have HB := hide h.low
  have hpl := (h.lt p (.inl rfl)).2
  have HPL := hide hpl
  clear hle eg h
  have mixed : Try.prog.follows .mixedOrders = true := by kernel_rfl
  go_enter Try.func60, Try.ntmps60
  go_wp2_with fail
  obtain ⟨w1, hw1⟩ : ∃ w1, w1 = w.alloc (.cells #[.int .i64 (x).key, .int .i64 (x).which] 43) := ⟨_, rfl⟩
  have hc01 : Chg (fun _ => False) w w1 := by rw [hw1]; exact Chg.alloc (fun _ => False) w _
  have hbx1 : w1.heap[w.heap.size]? = some (.cells #[.int .i64 (x).key, .int .i64 (x).which] 43 (0, 0)) := by rw [hw1]; exact heap_alloc_new w _
  rw [← hw1]
  have HC01 := hide hc01
  have HBX := hide hbx1
  clear hw1 hc01 hbx1 h1 hpl
  go_loopw [4] (fun i wr => ∃ k : Nat, k ≤ l.length ∧ i = .int .i64 k ∧ Hid (Chg (fun _ => False) w1 wr) ∧ Hid (∀ j (hj : j < l.length), k ≤ j → lt x l[j] = true)) (fun i _ => (intOf i).toNat)
  case atStart => exact ⟨l.length, Nat.le_refl _, rfl, Chg.refl _ _, fun j hj h => absurd hj (by omega)⟩
  case round =>
    obtain ⟨k, hk, rfl, HC, HA⟩ := hrel
    have hpw := (HP.out.chg HC01.out (fun _ _ h => h)).chg HC.out (fun _ _ h => h)
    have HPW := hide hpw
    have hplw := (hpw.lt p (.inl rfl)).2
    have h0g := cell_grown (a := ⟨p, 0, none⟩) hplw hpw.c0
    have h1g := cell_grown (a := ⟨p, 1, none⟩) hplw hpw.c1
    have hbxw := HC.out.heap HBX.out (fun h => h)
    have hbl : w.heap.size < wr.heap.size := (Array.getElem?_eq_some_iff.1 hbxw).1
    have HBXW := hide hbxw
    have hb0 := cell_grown (a := ⟨w.heap.size, 0, none⟩) hbl (cell_of_heap HBXW.out 0); have hb1 := cell_grown (a := ⟨w.heap.size, 1, none⟩) hbl (cell_of_heap HBXW.out 1)
    clear hpw hbxw
    cases k with
    | zero =>
      have hd : decide ((0 : Int) < 0) = false := rfl
      go_wp2_with fail
      refine wp_region_quiet_grown mixed (by kernel_rfl) ?_
      repeat (go_big_quiet_step (fail))
      refine wpQuiet_nil ?_
      intro _ hw'
      obtain ⟨⟨nq, osq⟩, hw''⟩ := hw'
      subst hw''
      have hcq := HC.out.trans (chg_grow wr nq osq) (S'' := fun _ => False) (fun _ _ h => h) (fun _ _ h => h)
      generalize Go.Sort.grow (wr.drewN nq) osq = wv at hcq ⊢
      have hpv := (HP.out.chg HC01.out (fun _ _ h => h)).chg hcq (fun _ _ h => h)
      have HPV := hide hpv
      have HCQ := hide hcq
      have hbv := hcq.heap HBX.out (fun h => h)
      have h0v := hpv.c0
      have hplv := (hpv.lt p (.inl rfl)).2
      have h1v := hpv.c1
      have hb0v := cell_of_heap hbv 0; have hb1v := cell_of_heap hbv 1
      clear hpv hcq hbv
      go_wp2_with fail
      have hi := pt_insert (base := base) (wv.drew.alloc (.cells #[.int .i64 (x).key, .int .i64 (x).which] 43)) ao l.length cap (0) (flat pt_enc l) wv.heap.size (pt_enc x) (((HPV.out.drewN 1).chg (Chg.alloc (fun _ => False) _ _) (fun _ _ h => h)).2.1) hk (heap_alloc_new (wv.drewN 1) _) rfl (flat_one' pt_one l) (pt_one x) (fun k hk => by have := (HPV.out.lt k (.inr (own_slice ao _ _ _ _ ▸ hk))).2; omega) (by omega) (by have := HPV.out.low; simp; omega)
      rw [show wv.drew.alloc (.cells #[.int .i64 (x).key, .int .i64 (x).which] 43) = (wv.alloc (.cells #[.int .i64 (x).key, .int .i64 (x).which] 43)).drew from rfl] at hi
      have HI := hide (hi.mono (R' := fun e w2 => ∃ v, e = .returned v ∧ ∃ ao1 cap1, v = .slice ao1 (l.length + 1) cap1 ∧ w2.cell? ⟨p, 1, none⟩ = some (.slice ao l.length cap) ∧ w2.frozen? ⟨p, 1, none⟩ = false ∧ Grew 95 43 2 base (wv.drewN 1) p (.func (.func g) #[] #[]) ao (l.length + 1) (insRow 2 0 (flat pt_enc l) (pt_enc x)) (w2.setCell ⟨p, 1, none⟩ (.slice ao1 (l.length + 1) cap1))) (fun e w2 hins => by
        obtain ⟨ao1, cap1, rfl, hc1, hf1, hgr⟩ := pile_ins (o := .cells #[.int .i64 (x).key, .int .i64 (x).which] 43) (HPV.out.drewN 1) (by decide) hl (by exact hins)
        exact ⟨_, rfl, ao1, cap1, rfl, hc1, hf1, hgr⟩))
      clear hi
      go_region_law (refine step_call (by rfl) (f := 78) (by rfl) (enters_of Try.func78 (by kernel_rfl) rfl) (by simp [Act.eval]) HI.out ?_; rintro v2 w2 ⟨ao1, cap1, rfl, hc1, hf1, hgr⟩; have HGR := hide hgr; clear hgr)
      all_goals
        go_wp2_with fail
        go_end0
        refine ⟨rfl, ?_⟩
        have hpl := placeOf_eq lt x l (0) hk HA.out (fun h => absurd h (by omega))
        have hcv : Chg (fun _ => False) w wv := HC01.out.trans HCQ.out (fun _ _ h => h) (fun _ _ h => h)
        have hg := grew_trans (w := w) (ao := ao) (hcv.mono (fun _ _ h => h.elim)) (fun _ h => .inl h) HGR.out.of_drewN
        rw [flat_ins pt_len l _ x hk] at hg
        unfold pt_Grew
        rw [ins_length]
        unfold ins
        rw [hpl]
        exact hg
    | succ m =>
      obtain ⟨ao', cap', e0, hnc, hcs0⟩ := HPW.out.rd.shape
      obtain ⟨bb, off, e1, hcs⟩ := hcs0 (by omega)
      cases e0
      subst e1
      have hbbl : bb < wr.heap.size := (HPW.out.lt bb (.inr rfl)).2
      obtain ⟨hx0, hx1⟩ := pt_cells wr bb off l hcs m (by omega)
      have hx0g := cell_grown (a := ⟨bb, off + m * 2, none⟩) hbbl hx0; have hx1g := cell_grown (a := ⟨bb, off + m * 2 + 1, none⟩) hbbl hx1
      have eg := EG.out
      have hml : m < l.length := by omega
      have a1 : IntKind.i64.wrap (m : Int) = m := IntWalk.i64_in _ (by omega)
      clear hcs hcs0
      cases hlx : lt x l[m] with
      | true =>
        have HX := hide hlx
        have hc : ∀ W, Calls Try.prog g #[.agg #[.int .i64 (x).key, .int .i64 (x).which], .agg #[.int .i64 (l[m]).key, .int .i64 (l[m]).which]] W fun e W' => Lays e (.bool true) W W' := fun W => by have := HL.out W x l[m]; rwa [hlx] at this
        clear hlx
        go_wp2_with fail
        refine wp_region_quiet_grown mixed (by kernel_rfl) ?_
        repeat (go_big_quiet_step ((go_at_fn g; exact lays_quiet (hc _))))
        refine wpQuiet_nil ?_
        intro _ hw'
        obtain ⟨⟨nq, osq⟩, hw''⟩ := hw'
        subst hw''
        clear hc
        have hcq := HC.out.trans (chg_grow wr nq osq) (S'' := fun _ => False) (fun _ _ h => h) (fun _ _ h => h)
        generalize Go.Sort.grow (wr.drewN nq) osq = wv at hcq ⊢
        have hpv := (HP.out.chg HC01.out (fun _ _ h => h)).chg hcq (fun _ _ h => h)
        have HPV := hide hpv
        have HCQ := hide hcq
        have hbv := hcq.heap HBX.out (fun h => h)
        have h0v := hpv.c0
        have hplv := (hpv.lt p (.inl rfl)).2
        have h1v := hpv.c1
        have hb0v := cell_of_heap hbv 0; have hb1v := cell_of_heap hbv 1
        clear hpv hcq hbv
        go_wp2_with fail
        go_roundw
        case rel =>
          refine ⟨m, by omega, by go_num, HCQ.out, fun j hj h => ?_⟩
          by_cases e : j = m
          · subst e; exact HX.out
          · exact HA.out j hj (by omega)
        case measure => simp [intOf]
      | false =>
        have HX := hide hlx
        have hc : ∀ W, Calls Try.prog g #[.agg #[.int .i64 (x).key, .int .i64 (x).which], .agg #[.int .i64 (l[m]).key, .int .i64 (l[m]).which]] W fun e W' => Lays e (.bool false) W W' := fun W => by have := HL.out W x l[m]; rwa [hlx] at this
        clear hlx
        go_wp2_with fail
        refine wp_region_quiet_grown mixed (by kernel_rfl) ?_
        repeat (go_big_quiet_step ((go_at_fn g; exact lays_quiet (hc _))))
        refine wpQuiet_nil ?_
        intro _ hw'
        obtain ⟨⟨nq, osq⟩, hw''⟩ := hw'
        subst hw''
        clear hc
        have hcq := HC.out.trans (chg_grow wr nq osq) (S'' := fun _ => False) (fun _ _ h => h) (fun _ _ h => h)
        generalize Go.Sort.grow (wr.drewN nq) osq = wv at hcq ⊢
        have hpv := (HP.out.chg HC01.out (fun _ _ h => h)).chg hcq (fun _ _ h => h)
        have HPV := hide hpv
        have HCQ := hide hcq
        have hbv := hcq.heap HBX.out (fun h => h)
        have h0v := hpv.c0
        have hplv := (hpv.lt p (.inl rfl)).2
        have h1v := hpv.c1
        have hb0v := cell_of_heap hbv 0; have hb1v := cell_of_heap hbv 1
        clear hpv hcq hbv
        go_wp2_with fail
        have hi := pt_insert (base := base) (wv.drew.alloc (.cells #[.int .i64 (x).key, .int .i64 (x).which] 43)) (some ⟨bb, off, none⟩) l.length cap (m + 1) (flat pt_enc l) wv.heap.size (pt_enc x) (((HPV.out.drewN 1).chg (Chg.alloc (fun _ => False) _ _) (fun _ _ h => h)).2.1) hk (heap_alloc_new (wv.drewN 1) _) rfl (flat_one' pt_one l) (pt_one x) (fun k hk => by have := (HPV.out.lt k (.inr (own_slice (some ⟨bb, off, none⟩) _ _ _ _ ▸ hk))).2; omega) (by omega) (by have := HPV.out.low; simp; omega)
        rw [show wv.drew.alloc (.cells #[.int .i64 (x).key, .int .i64 (x).which] 43) = (wv.alloc (.cells #[.int .i64 (x).key, .int .i64 (x).which] 43)).drew from rfl] at hi
        have HI := hide (hi.mono (R' := fun e w2 => ∃ v, e = .returned v ∧ ∃ ao1 cap1, v = .slice ao1 (l.length + 1) cap1 ∧ w2.cell? ⟨p, 1, none⟩ = some (.slice (some ⟨bb, off, none⟩) l.length cap) ∧ w2.frozen? ⟨p, 1, none⟩ = false ∧ Grew 95 43 2 base (wv.drewN 1) p (.func (.func g) #[] #[]) (some ⟨bb, off, none⟩) (l.length + 1) (insRow 2 (m + 1) (flat pt_enc l) (pt_enc x)) (w2.setCell ⟨p, 1, none⟩ (.slice ao1 (l.length + 1) cap1))) (fun e w2 hins => by
        obtain ⟨ao1, cap1, rfl, hc1, hf1, hgr⟩ := pile_ins (o := .cells #[.int .i64 (x).key, .int .i64 (x).which] 43) (HPV.out.drewN 1) (by decide) hl (by exact hins)
        exact ⟨_, rfl, ao1, cap1, rfl, hc1, hf1, hgr⟩))
        clear hi
        go_region_law (refine step_call (by rfl) (f := 78) (by rfl) (enters_of Try.func78 (by kernel_rfl) rfl) (by simp [Act.eval]) HI.out ?_; rintro v2 w2 ⟨ao1, cap1, rfl, hc1, hf1, hgr⟩; have HGR := hide hgr; clear hgr)
        all_goals
          go_wp2_with fail
          go_end0
          refine ⟨rfl, ?_⟩
          have hpl := placeOf_eq lt x l (m + 1) hk HA.out (fun _ => HX.out)
          have hcv : Chg (fun _ => False) w wv := HC01.out.trans HCQ.out (fun _ _ h => h) (fun _ _ h => h)
          have hg := grew_trans (w := w) (ao := (some ⟨bb, off, none⟩)) (hcv.mono (fun _ _ h => h.elim)) (fun _ h => .inl h) HGR.out.of_drewN
          rw [flat_ins pt_len l _ x hk] at hg
          unfold pt_Grew
          rw [ins_length]
          unfold ins
          rw [hpl]
          exact hg
end Go.Proofs.Ytjgcicpclojfgaa
