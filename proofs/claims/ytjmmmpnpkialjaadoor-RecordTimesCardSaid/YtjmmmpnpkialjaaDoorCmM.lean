/- tree.May. Conditions: none. -/
import Derived.Test.YtjmmmpnpkialjaaDoorCmP
import Derived.Laws.Concat
namespace Go.Proofs.YtjmmmpnpkialjaaDoor
open Go.RowKit Go.Shelf Go.Sort

def prefB (s q : ByteArray) : Bool := decide (q.size ≤ s.size) && ((s.extract 0 q.size).toList == q.toList)
theorem lite_prefix (w : World) (s q : ByteArray) : Calls Tryd.prog 107 #[.string s, .string q] w fun e w' => e = .returned (.bool (prefB s q)) ∧ w' = w := by
  obtain ⟨r, hr⟩ : ∃ r, r = prefB s q := ⟨_, rfl⟩
  rw [← hr]
  by_cases h1 : q.size ≤ s.size
  · have d1 : decide ((s.size : Int) ≥ q.size) = true := decide_eq_true (by omega)
    have hrf : r = ((s.extract 0 q.size).toList == q.toList) := by rw [hr, prefB, decide_eq_true h1]; rfl
    cases h2 : ((s.extract 0 q.size).toList == q.toList) with
    | true =>
      rw [h2] at hrf
      have HRF := hide hrf
      have hqs : (q.size : Int) ≤ s.size := by omega
      clear hr hrf
      go_enter Tryd.func107, Tryd.ntmps107
      go_wp2
      go_ret
      exact ⟨ret_bool HRF.out.symm, rfl⟩
    | false =>
      rw [h2] at hrf
      have HRF := hide hrf
      have hqs : (q.size : Int) ≤ s.size := by omega
      clear hr hrf
      go_enter Tryd.func107, Tryd.ntmps107
      go_wp2
      go_ret
      exact ⟨ret_bool HRF.out.symm, rfl⟩
  · have d1 : decide ((s.size : Int) ≥ q.size) = false := decide_eq_false (by omega)
    have hrf : r = false := by rw [hr, prefB, decide_eq_false h1]; rfl
    have HRF := hide hrf
    clear hr hrf
    go_enter Tryd.func107, Tryd.ntmps107
    go_wp2
    go_ret
    exact ⟨ret_bool HRF.out.symm, rfl⟩
theorem str_prefix (w : World) (s q : ByteArray) : Calls Tryd.prog 103 #[.string s, .string q] w fun e w' => e = .returned (.bool (prefB s q)) ∧ w' = w := by
  have HC := hide (lite_prefix w s q)
  go_enter Tryd.func103, Tryd.ntmps103
  go_wp2_with fail
  refine HC.out.mono ?_
  rintro e w1 ⟨rfl, rfl⟩
  go_wp2_with fail
  go_ret
  exact ⟨rfl, rfl⟩
def underB (p d : ByteArray) : Bool := prefB p (d ++ slash)
theorem tree_under (w : World) (p d : ByteArray) (hd : d.size ≤ 1000) : Calls Tryd.prog 92 #[.string p, .string d] w fun e w' => e = .returned (.bool (underB p d)) ∧ w' = w := by
  have hz : (d ++ slash).size = d.size + 1 := by simp [slash, ByteArray.size_append]; rfl
  have HC := hide (str_prefix w p (d ++ slash))
  have hs := run_string_add_sum (P := Tryd.prog) (w := w) d slash (by show d.size + 1 ≤ _; omega)
  have HB : Hid (underB p d = prefB p (d ++ slash)) := rfl
  clear hz
  go_enter Tryd.func92, Tryd.ntmps92
  go_wp2_with fail
  refine HC.out.mono ?_
  rintro e w1 ⟨rfl, rfl⟩
  go_wp2_with fail
  go_ret
  exact ⟨ret_bool HB.out.symm, rfl⟩
/-- The closure that asks for an ancestor. -/
theorem may_under (w : World) (f g : Fl) (b : Nat) (hb : w.cell? ⟨b, 0, none⟩ = some (.string f.path)) (hg : g.path.size ≤ 1000) :
    Calls Tryd.prog 91 #[.agg #[.string g.path, .string g.data], .pointer (some ⟨b, 0, none⟩)] w fun e w' => e = .returned (.bool (underB f.path g.path)) ∧ Below w.heap.size w w' := by
  have HC := fun W => hide (tree_under W f.path g.path hg)
  have HB := hide hb
  obtain ⟨r, hr⟩ : ∃ r, r = underB f.path g.path := ⟨_, rfl⟩
  rw [← hr] at HC ⊢
  obtain ⟨s, hs⟩ : ∃ s, s = f.path := ⟨_, rfl⟩
  rw [← hs] at HC hb HB
  have hS := Chg.alloc (fun _ => False) w (.cells #[.string g.path, .string g.data] 68)
  have hbb := hS.cell hb (fun h => h)
  have HW := hide (Below.refl w.heap.size w |>.alloc (Nat.le_refl _) (.cells #[.string g.path, .string g.data] 68))
  clear hS hb hr hs hg
  go_enter Tryd.func91, Tryd.ntmps91
  go_wp2_with fail
  refine (HC _).out.mono ?_
  rintro e w1 ⟨rfl, rfl⟩
  go_wp2_with fail
  go_ret
  exact ⟨rfl, HW.out⟩

def fl0 : Fl := ⟨ByteArray.empty, ByteArray.empty⟩
def flAt (t : List Fl) (i : Nat) : Fl := t.getD i fl0
def geB (a b : ByteArray) : Bool := !(Op.bytesLess a.toList b.toList)
def okAt (t : List Fl) (i : Nat) : Bool :=
  pathB (flAt t i).path && decide ((flAt t i).data.size ≤ 400) && !(decide (0 < i) && geB (flAt t (i - 1)).path (flAt t i).path) && !(t.take i).any (fun g => underB (flAt t i).path g.path)
def mayT (t : List Fl) : Bool := decide (t.length ≤ 12) && (List.range t.length).all (okAt t)
theorem flAt_lt {t : List Fl} {i : Nat} (h : i < t.length) : flAt t i = t[i] := by simp [flAt, h]
theorem mayT_no {t : List Fl} {k : Nat} (hk : k < t.length) (h : okAt t k = false) : mayT t = false := by
  have : (List.range t.length).all (okAt t) = false := by
    rw [List.all_eq_false]
    exact ⟨k, List.mem_range.2 hk, by rw [h]; simp⟩
  rw [mayT, this, Bool.and_false]
theorem mayT_yes {t : List Fl} (hl : t.length ≤ 12) (h : ∀ i, i < t.length → okAt t i = true) : mayT t = true := by
  have : (List.range t.length).all (okAt t) = true := List.all_eq_true.2 fun i hi => h i (List.mem_range.1 hi)
  rw [mayT, this, decide_eq_true hl]; rfl
theorem pathB_size {p : ByteArray} (h : pathB p = true) : p.size ≤ 60 := by
  simp only [pathB, Bool.and_eq_true, decide_eq_true_eq] at h
  exact h.1.1.2
theorem okAt_path {t : List Fl} {i : Nat} (h : okAt t i = true) : (flAt t i).path.size ≤ 60 := by
  simp only [okAt, Bool.and_eq_true] at h
  exact pathB_size h.1.1.1
theorem okAt_1 {t : List Fl} {i : Nat} (h : pathB (flAt t i).path = false) : okAt t i = false := by rw [okAt, h]; rfl
theorem okAt_2 {t : List Fl} {i : Nat} (h : ¬ (flAt t i).data.size ≤ 400) : okAt t i = false := by rw [okAt, decide_eq_false h]; simp
theorem okAt_3 {t : List Fl} {i : Nat} (hi : 0 < i) (h : geB (flAt t (i - 1)).path (flAt t i).path = true) : okAt t i = false := by rw [okAt, h, decide_eq_true hi]; simp
theorem okAt_4 {t : List Fl} {i : Nat} (h1 : pathB (flAt t i).path = true) (h2 : (flAt t i).data.size ≤ 400) (h3 : (decide (0 < i) && geB (flAt t (i - 1)).path (flAt t i).path) = false) : okAt t i = !(t.take i).any (fun g => underB (flAt t i).path g.path) := by
  rw [okAt, h1, decide_eq_true h2, h3]; rfl

set_option maxRecDepth 100000 in
set_option maxHeartbeats 2000000 in
theorem tree_May (w : World) (vt : Value) (t : List Fl) (ht : Rd w vt t.length (flat fl_enc t)) (hlt : ∀ b, vt.ownBlock = some b → t ≠ [] → b < w.heap.size) (hM : Mx w) :
    Calls Tryd.prog 69 #[vt] w fun e w' => e = .returned (.bool (mayT t)) ∧ Below w.heap.size w w' := by
  obtain ⟨ao, ca, rfl, hca, -⟩ := ht.shape
  obtain ⟨r, hr⟩ : ∃ r, r = mayT t := ⟨_, rfl⟩
  rw [← hr]
  by_cases hl : t.length ≤ 12
  · have d1 : decide ((t.length : Int) > 12) = false := decide_eq_false (by omega)
    have HR := hide hr
    have HT := hide ht
    have HLT := hide hlt
    have HM := hide hM
    have HL := hide hl
    have HCA := hide hca
    clear ht hlt hM hr hl hca
    go_enter Tryd.func69, Tryd.ntmps69
    go_wp2_with fail
    go_loopw [10] (fun i wr => ∃ k : Nat, k ≤ t.length ∧ i = .int .i64 k ∧ Hid (∀ j, j < k → okAt t j = true) ∧ Hid (Below w.heap.size w wr) ∧ Hid (Mx wr)) (fun i _ => t.length - (intOf i).toNat)
    case atStart => exact ⟨0, Nat.zero_le _, rfl, (fun j h => by omega), Below.refl _ _, HM⟩
    case round =>
      obtain ⟨k, hk, rfl, HN, HB, HMr⟩ := hrel
      by_cases hkl : k < t.length
      · have hne : t ≠ [] := by rintro rfl; simp at hkl
        have hrd := HT.out.chg (Chg.of_below HB.out) (fun b hb _ h => by have := HLT.out b hb hne; omega)
        obtain ⟨a', c', e, -, hcs0⟩ := hrd.shape
        obtain ⟨b, off, rfl, hcs⟩ := hcs0 (by omega)
        cases e
        obtain ⟨hx0, hx1⟩ := fl_cells wr b off t hcs k hkl
        have HX0 := hide hx0
        have HX1 := hide hx1
        have HRU := hide (hrd.upto k 2 hk (by rw [flat_length fl_len]))
        have HK := hide hk
        have HKL := hide hkl
        have HNE := hide hne
        have hfa : flAt t k = t[k] := flAt_lt hkl
        have HPF := hide (fl_cells wr b off t hcs (k - 1) (by omega)).1
        have hfp : flAt t (k - 1) = t[k - 1] := flAt_lt (by omega)
        clear hcs hcs0 hrd hne
        go_wp2_with fail
        have hB1 : Below w.heap.size w (wr.alloc (Obj.cells #[Value.string t[k].path, Value.string t[k].data] 68)) := HB.out.alloc HB.out.size _
        have hC1 : Chg (fun _ => False) wr (wr.alloc (Obj.cells #[Value.string t[k].path, Value.string t[k].data] 68)) := Chg.alloc _ _ _
        have hh := heap_alloc_new wr (Obj.cells #[Value.string t[k].path, Value.string t[k].data] 68)
        generalize wr.alloc (Obj.cells #[Value.string t[k].path, Value.string t[k].data] 68) = W1 at hB1 hC1 hh ⊢
        generalize wr.heap.size = fb at hh ⊢
        have hf0 := cell_of_heap hh 0
        have hf1 := cell_of_heap hh 1
        simp at hf0 hf1
        have hpx : W1.cell? ⟨b, off + (k - 1) * 2, none⟩ = some (.string t[k - 1].path) := hC1.cell HPF.out (fun h => h)
        have HB1 := hide hB1
        have HBR1 := hide hC1
        have HM1 := hide (HMr.out.chg hC1 (fun h => h))
        clear hB1 hC1 hh
        have HFA := hide hfa
        have h1 := @okAt_1 t k
        have h2 := @okAt_2 t k
        have h3 := @okAt_3 t k
        have h4 := @okAt_4 t k
        have HSZ : Hid (∀ x ∈ t.take k, x.path.size ≤ 1000) := hide (fun x hx => by
          obtain ⟨i, hi, rfl⟩ := List.mem_take_iff_getElem.1 hx
          have := okAt_path (HN.out i (by omega))
          rw [flAt_lt (by omega)] at this
          omega)
        rw [hfa] at h1 h2 h3 h4
        rw [hfp] at h3 h4
        clear hfa hfp HFA HX0 HX1 HPF hx0 hx1
        generalize t[k - 1].path = pp at hpx h3 h4
        generalize t[k].path = fp at *
        generalize t[k].data = fd at *
        have HPC0 := fun W (h : Mx W) => hide (path_ok W fp h)
        cases hpb : pathB fp with
        | false =>
          have HNO := hide (mayT_no hkl (h1 hpb))
          have HPC : Hid (∀ W, Mx W → _) := hide (fun W h => (HPC0 W h).out)
          rw [hpb] at HPC
          clear h1 h2 h3 h4 HPC0 hpb hpx
          refine reg_start (Chg (fun _ => False) W1) 25 25 (by rfl) (by kernel_rfl) (Chg.drew _ _) ?_
          intro hS0
          have hSc := hS0
          refine reg_take (i := 0) (v := ?g2v) rfl (by kernel_rfl) (by kernel_rfl) (by kernel_rfl) (by kernel_rfl) (fun _ _ _ h => h) (by rfl) ?g2y (by assumption) ?g2r
          case g2y => (intro W hS; first | (go_simp; done) | (go_simp; with_reducible rfl))
          simp only [Act.put, List.setIfInBounds_toArray, List.set_cons_zero, List.set_cons_succ]
          refine reg_take (i := 1) (v := ?g3v) rfl (by kernel_rfl) (by kernel_rfl) (by kernel_rfl) (by kernel_rfl) (fun _ _ _ h => h) (by rfl) ?g3y (by assumption) ?g3r
          case g3y => (intro W hS; have f0 := hS.cell hf0 (fun h => h); have f1 := hS.cell hf1 (fun h => h); first | (go_simp; done) | (go_simp; with_reducible rfl))
          simp only [Act.put, List.setIfInBounds_toArray, List.set_cons_zero, List.set_cons_succ]
          refine reg_one (i := 2) (by kernel_rfl) ?_
          refine op_call (i := 2) (#[.string fp]) rfl (by rfl) (enters_of Tryd.func89 (by kernel_rfl) rfl) (by first | (simp [Act.eval]; done) | rfl | (simp only [List.map_toArray, List.map_cons, List.map_nil, Act.eval]; rfl) | (simp [Act.eval]; trace_state; done)) ?_
          refine (HPC.out _ (HM1.out.chg hSc (fun h => h))).mono ?_
          rintro e W3 ⟨rfl, hb2⟩
          have hSc := hSc.trans (Chg.of_below0 (S := fun _ => False) hb2) (S'' := fun _ => False) (fun _ _ h => h) (fun _ _ h => h)
          clear hb2
          refine ⟨_, rfl, hSc, ?_⟩
          simp only [Act.put, List.setIfInBounds_toArray, List.set_cons_zero, List.set_cons_succ]
          refine reg_take (i := 3) (v := ?g4v) rfl (by kernel_rfl) (by kernel_rfl) (by kernel_rfl) (by kernel_rfl) (fun _ _ _ h => h) (by rfl) ?g4y (by assumption) ?g4r
          case g4y => (intro W hS; first | (go_simp; done) | (go_simp; with_reducible rfl))
          simp only [Act.put, List.setIfInBounds_toArray, List.set_cons_zero, List.set_cons_succ]
          refine reg_take (i := 4) (v := ?g5v) rfl (by kernel_rfl) (by kernel_rfl) (by kernel_rfl) (by kernel_rfl) (fun _ _ _ h => h) (by rfl) ?g5y (by assumption) ?g5r
          case g5y => (intro W hS; first | (go_simp; done) | (go_simp; with_reducible rfl))
          simp only [Act.put, List.setIfInBounds_toArray, List.set_cons_zero, List.set_cons_succ]
          refine reg_skip (i := 5) rfl (by kernel_rfl) (by kernel_rfl) (by kernel_rfl) (by kernel_rfl) (fun _ _ _ h => h) (by rfl) (by assumption) ?_
          simp only [Act.put, List.setIfInBounds_toArray, List.set_cons_zero, List.set_cons_succ]
          refine reg_skip (i := 6) rfl (by kernel_rfl) (by kernel_rfl) (by kernel_rfl) (by kernel_rfl) (fun _ _ _ h => h) (by rfl) (by assumption) ?_
          simp only [Act.put, List.setIfInBounds_toArray, List.set_cons_zero, List.set_cons_succ]
          refine reg_skip (i := 7) rfl (by kernel_rfl) (by kernel_rfl) (by kernel_rfl) (by kernel_rfl) (fun _ _ _ h => h) (by rfl) (by assumption) ?_
          simp only [Act.put, List.setIfInBounds_toArray, List.set_cons_zero, List.set_cons_succ]
          refine reg_skip (i := 8) rfl (by kernel_rfl) (by kernel_rfl) (by kernel_rfl) (by kernel_rfl) (fun _ _ _ h => h) (by rfl) (by assumption) ?_
          simp only [Act.put, List.setIfInBounds_toArray, List.set_cons_zero, List.set_cons_succ]
          refine reg_take (i := 9) (v := ?g6v) rfl (by kernel_rfl) (by kernel_rfl) (by kernel_rfl) (by kernel_rfl) (fun _ _ _ h => h) (by rfl) ?g6y (by assumption) ?g6r
          case g6y => (intro W hS; first | (go_simp; done) | (go_simp; with_reducible rfl))
          simp only [Act.put, List.setIfInBounds_toArray, List.set_cons_zero, List.set_cons_succ]
          refine reg_take (i := 10) (v := ?g7v) rfl (by kernel_rfl) (by kernel_rfl) (by kernel_rfl) (by kernel_rfl) (fun _ _ _ h => h) (by rfl) ?g7y (by assumption) ?g7r
          case g7y => (intro W hS; first | (go_simp; done) | (go_simp; with_reducible rfl))
          simp only [Act.put, List.setIfInBounds_toArray, List.set_cons_zero, List.set_cons_succ]
          refine reg_skip (i := 11) rfl (by kernel_rfl) (by kernel_rfl) (by kernel_rfl) (by kernel_rfl) (fun _ _ _ h => h) (by rfl) (by assumption) ?_
          simp only [Act.put, List.setIfInBounds_toArray, List.set_cons_zero, List.set_cons_succ]
          refine reg_skip (i := 12) rfl (by kernel_rfl) (by kernel_rfl) (by kernel_rfl) (by kernel_rfl) (fun _ _ _ h => h) (by rfl) (by assumption) ?_
          simp only [Act.put, List.setIfInBounds_toArray, List.set_cons_zero, List.set_cons_succ]
          refine reg_skip (i := 13) rfl (by kernel_rfl) (by kernel_rfl) (by kernel_rfl) (by kernel_rfl) (fun _ _ _ h => h) (by rfl) (by assumption) ?_
          simp only [Act.put, List.setIfInBounds_toArray, List.set_cons_zero, List.set_cons_succ]
          refine reg_skip (i := 14) rfl (by kernel_rfl) (by kernel_rfl) (by kernel_rfl) (by kernel_rfl) (fun _ _ _ h => h) (by rfl) (by assumption) ?_
          simp only [Act.put, List.setIfInBounds_toArray, List.set_cons_zero, List.set_cons_succ]
          refine reg_skip (i := 15) rfl (by kernel_rfl) (by kernel_rfl) (by kernel_rfl) (by kernel_rfl) (fun _ _ _ h => h) (by rfl) (by assumption) ?_
          simp only [Act.put, List.setIfInBounds_toArray, List.set_cons_zero, List.set_cons_succ]
          refine reg_skip (i := 16) rfl (by kernel_rfl) (by kernel_rfl) (by kernel_rfl) (by kernel_rfl) (fun _ _ _ h => h) (by rfl) (by assumption) ?_
          simp only [Act.put, List.setIfInBounds_toArray, List.set_cons_zero, List.set_cons_succ]
          refine reg_skip (i := 17) rfl (by kernel_rfl) (by kernel_rfl) (by kernel_rfl) (by kernel_rfl) (fun _ _ _ h => h) (by rfl) (by assumption) ?_
          simp only [Act.put, List.setIfInBounds_toArray, List.set_cons_zero, List.set_cons_succ]
          refine reg_skip (i := 18) rfl (by kernel_rfl) (by kernel_rfl) (by kernel_rfl) (by kernel_rfl) (fun _ _ _ h => h) (by rfl) (by assumption) ?_
          simp only [Act.put, List.setIfInBounds_toArray, List.set_cons_zero, List.set_cons_succ]
          refine reg_skip (i := 19) rfl (by kernel_rfl) (by kernel_rfl) (by kernel_rfl) (by kernel_rfl) (fun _ _ _ h => h) (by rfl) (by assumption) ?_
          simp only [Act.put, List.setIfInBounds_toArray, List.set_cons_zero, List.set_cons_succ]
          refine reg_skip (i := 20) rfl (by kernel_rfl) (by kernel_rfl) (by kernel_rfl) (by kernel_rfl) (fun _ _ _ h => h) (by rfl) (by assumption) ?_
          simp only [Act.put, List.setIfInBounds_toArray, List.set_cons_zero, List.set_cons_succ]
          refine reg_skip (i := 21) rfl (by kernel_rfl) (by kernel_rfl) (by kernel_rfl) (by kernel_rfl) (fun _ _ _ h => h) (by rfl) (by assumption) ?_
          simp only [Act.put, List.setIfInBounds_toArray, List.set_cons_zero, List.set_cons_succ]
          refine reg_skip (i := 22) rfl (by kernel_rfl) (by kernel_rfl) (by kernel_rfl) (by kernel_rfl) (fun _ _ _ h => h) (by rfl) (by assumption) ?_
          simp only [Act.put, List.setIfInBounds_toArray, List.set_cons_zero, List.set_cons_succ]
          refine reg_skip (i := 23) rfl (by kernel_rfl) (by kernel_rfl) (by kernel_rfl) (by kernel_rfl) (fun _ _ _ h => h) (by rfl) (by assumption) ?_
          simp only [Act.put, List.setIfInBounds_toArray, List.set_cons_zero, List.set_cons_succ]
          refine reg_take (i := 24) (v := ?g8v) rfl (by kernel_rfl) (by kernel_rfl) (by kernel_rfl) (by kernel_rfl) (fun _ _ _ h => h) (by rfl) ?g8y (by assumption) ?g8r
          case g8y => (intro W hS; first | (go_simp; done) | (go_simp; with_reducible rfl))
          simp only [Act.put, List.setIfInBounds_toArray, List.set_cons_zero, List.set_cons_succ]
          refine wpAnyG_done (by kernel_rfl) ?_ _
          have HB3 := hide (HB1.out.trans ((hSc.below (Nat.le_refl _) (fun _ _ h => h)).mono HB1.out.size))
          clear hS0 hSc
          go_wp2_with fail
          go_ret
          exact ⟨ret_bool (HR.out.trans HNO.out).symm, HB3.out⟩
        | true =>
          have HPC : Hid (∀ W, Mx W → _) := hide (fun W h => (HPC0 W h).out)
          rw [hpb] at HPC
          clear HPC0
          by_cases hz : fd.size ≤ 400
          · have dz : decide ((fd.size : Int) > 400) = false := decide_eq_false (by omega)
            by_cases hk0 : 0 < k
            · have dk : decide ((k : Int) > 0) = true := decide_eq_true (by omega)
              have hkk : (k : Int) - 1 = ((k - 1 : Nat) : Int) := by omega
              have hl12 := HL.out
              have hwr : IntKind.i64.wrap ((k - 1 : Nat) : Int) = ((k - 1 : Nat) : Int) := IntKind.wrap_i64 _ |>.trans (by omega)
              have hlk : ((k - 1 : Nat) : Int) < (t.length : Int) := by omega
              cases hge : geB pp fp with
              | true =>
                have HNO := hide (mayT_no hkl (h3 hk0 hge))
                have hge' : (!(Op.bytesLess pp.toList fp.toList)) = true := hge
                clear h1 h2 h3 h4 hpb hge
                refine reg_start (Chg (fun _ => False) W1) 25 25 (by rfl) (by kernel_rfl) (Chg.drew _ _) ?_
                intro hS0
                have hSc := hS0
                refine reg_take (i := 0) (v := ?g10v) rfl (by kernel_rfl) (by kernel_rfl) (by kernel_rfl) (by kernel_rfl) (fun _ _ _ h => h) (by rfl) ?g10y (by assumption) ?g10r
                case g10y => (intro W hS; first | (go_simp; done) | (go_simp; with_reducible rfl))
                simp only [Act.put, List.setIfInBounds_toArray, List.set_cons_zero, List.set_cons_succ]
                refine reg_take (i := 1) (v := ?g11v) rfl (by kernel_rfl) (by kernel_rfl) (by kernel_rfl) (by kernel_rfl) (fun _ _ _ h => h) (by rfl) ?g11y (by assumption) ?g11r
                case g11y => (intro W hS; have f0 := hS.cell hf0 (fun h => h); have f1 := hS.cell hf1 (fun h => h); have f2 := hS.cell hpx (fun h => h); first | (go_simp; done) | (go_simp; with_reducible rfl))
                simp only [Act.put, List.setIfInBounds_toArray, List.set_cons_zero, List.set_cons_succ]
                refine reg_one (i := 2) (by kernel_rfl) ?_
                refine op_call (i := 2) (#[.string fp]) rfl (by rfl) (enters_of Tryd.func89 (by kernel_rfl) rfl) (by first | (simp [Act.eval]; done) | rfl | (simp only [List.map_toArray, List.map_cons, List.map_nil, Act.eval]; rfl) | (simp [Act.eval]; trace_state; done)) ?_
                refine (HPC.out _ (HM1.out.chg hSc (fun h => h))).mono ?_
                rintro e W3 ⟨rfl, hb2⟩
                have hSc := hSc.trans (Chg.of_below0 (S := fun _ => False) hb2) (S'' := fun _ => False) (fun _ _ h => h) (fun _ _ h => h)
                clear hb2
                refine ⟨_, rfl, hSc, ?_⟩
                simp only [Act.put, List.setIfInBounds_toArray, List.set_cons_zero, List.set_cons_succ]
                refine reg_take (i := 3) (v := ?g12v) rfl (by kernel_rfl) (by kernel_rfl) (by kernel_rfl) (by kernel_rfl) (fun _ _ _ h => h) (by rfl) ?g12y (by assumption) ?g12r
                case g12y => (intro W hS; first | (go_simp; done) | (go_simp; with_reducible rfl))
                simp only [Act.put, List.setIfInBounds_toArray, List.set_cons_zero, List.set_cons_succ]
                refine reg_take (i := 4) (v := ?g13v) rfl (by kernel_rfl) (by kernel_rfl) (by kernel_rfl) (by kernel_rfl) (fun _ _ _ h => h) (by rfl) ?g13y (by assumption) ?g13r
                case g13y => (intro W hS; first | (go_simp; done) | (go_simp; with_reducible rfl))
                simp only [Act.put, List.setIfInBounds_toArray, List.set_cons_zero, List.set_cons_succ]
                refine reg_take (i := 5) (v := ?g14v) rfl (by kernel_rfl) (by kernel_rfl) (by kernel_rfl) (by kernel_rfl) (fun _ _ _ h => h) (by rfl) ?g14y (by assumption) ?g14r
                case g14y => (intro W hS; first | (go_simp; done) | (go_simp; with_reducible rfl))
                simp only [Act.put, List.setIfInBounds_toArray, List.set_cons_zero, List.set_cons_succ]
                refine reg_take (i := 6) (v := ?g15v) rfl (by kernel_rfl) (by kernel_rfl) (by kernel_rfl) (by kernel_rfl) (fun _ _ _ h => h) (by rfl) ?g15y (by assumption) ?g15r
                case g15y => (intro W hS; have f0 := hS.cell hf0 (fun h => h); have f1 := hS.cell hf1 (fun h => h); have f2 := hS.cell hpx (fun h => h); first | (go_simp; done) | (go_simp; with_reducible rfl))
                simp only [Act.put, List.setIfInBounds_toArray, List.set_cons_zero, List.set_cons_succ]
                refine reg_take (i := 7) (v := ?g16v) rfl (by kernel_rfl) (by kernel_rfl) (by kernel_rfl) (by kernel_rfl) (fun _ _ _ h => h) (by rfl) ?g16y (by assumption) ?g16r
                case g16y => (intro W hS; first | (go_simp; done) | (go_simp; with_reducible rfl))
                simp only [Act.put, List.setIfInBounds_toArray, List.set_cons_zero, List.set_cons_succ]
                refine reg_take (i := 8) (v := ?g17v) rfl (by kernel_rfl) (by kernel_rfl) (by kernel_rfl) (by kernel_rfl) (fun _ _ _ h => h) (by rfl) ?g17y (by assumption) ?g17r
                case g17y => (intro W hS; first | (go_simp; done) | (go_simp; with_reducible rfl))
                simp only [Act.put, List.setIfInBounds_toArray, List.set_cons_zero, List.set_cons_succ]
                refine reg_take (i := 9) (v := ?g18v) rfl (by kernel_rfl) (by kernel_rfl) (by kernel_rfl) (by kernel_rfl) (fun _ _ _ h => h) (by rfl) ?g18y (by assumption) ?g18r
                case g18y => (intro W hS; first | (go_simp; done) | (go_simp; with_reducible rfl))
                simp only [Act.put, List.setIfInBounds_toArray, List.set_cons_zero, List.set_cons_succ]
                refine reg_take (i := 10) (v := ?g19v) rfl (by kernel_rfl) (by kernel_rfl) (by kernel_rfl) (by kernel_rfl) (fun _ _ _ h => h) (by rfl) ?g19y (by assumption) ?g19r
                case g19y => (intro W hS; first | (go_simp; done) | (go_simp; with_reducible rfl))
                simp only [Act.put, List.setIfInBounds_toArray, List.set_cons_zero, List.set_cons_succ]
                refine reg_take (i := 11) (v := ?g20v) rfl (by kernel_rfl) (by kernel_rfl) (by kernel_rfl) (by kernel_rfl) (fun _ _ _ h => h) (by rfl) ?g20y (by assumption) ?g20r
                case g20y => (intro W hS; first | (go_simp; done) | (go_simp; with_reducible rfl))
                simp only [Act.put, List.setIfInBounds_toArray, List.set_cons_zero, List.set_cons_succ]
                refine reg_take (i := 12) (v := ?g21v) rfl (by kernel_rfl) (by kernel_rfl) (by kernel_rfl) (by kernel_rfl) (fun _ _ _ h => h) (by rfl) ?g21y (by assumption) ?g21r
                case g21y => (intro W hS; first | (go_simp; done) | (go_simp; with_reducible rfl))
                simp only [Act.put, List.setIfInBounds_toArray, List.set_cons_zero, List.set_cons_succ]
                refine reg_take (i := 13) (v := ?g22v) rfl (by kernel_rfl) (by kernel_rfl) (by kernel_rfl) (by kernel_rfl) (fun _ _ _ h => h) (by rfl) ?g22y (by assumption) ?g22r
                case g22y => (intro W hS; first | (go_simp; done) | (go_simp; with_reducible rfl))
                simp only [Act.put, List.setIfInBounds_toArray, List.set_cons_zero, List.set_cons_succ]
                refine reg_take (i := 14) (v := ?g23v) rfl (by kernel_rfl) (by kernel_rfl) (by kernel_rfl) (by kernel_rfl) (fun _ _ _ h => h) (by rfl) ?g23y (by assumption) ?g23r
                case g23y => (intro W hS; first | (go_simp; done) | (go_simp; with_reducible rfl))
                simp only [Act.put, List.setIfInBounds_toArray, List.set_cons_zero, List.set_cons_succ]
                refine reg_take (i := 15) (v := ?g24v) rfl (by kernel_rfl) (by kernel_rfl) (by kernel_rfl) (by kernel_rfl) (fun _ _ _ h => h) (by rfl) ?g24y (by assumption) ?g24r
                case g24y => (intro W hS; first | (go_simp; done) | (go_simp; with_reducible rfl))
                simp only [Act.put, List.setIfInBounds_toArray, List.set_cons_zero, List.set_cons_succ]
                refine reg_take (i := 16) (v := ?g25v) rfl (by kernel_rfl) (by kernel_rfl) (by kernel_rfl) (by kernel_rfl) (fun _ _ _ h => h) (by rfl) ?g25y (by assumption) ?g25r
                case g25y => (intro W hS; first | (go_simp; done) | (go_simp; with_reducible rfl))
                simp only [Act.put, List.setIfInBounds_toArray, List.set_cons_zero, List.set_cons_succ]
                refine reg_take (i := 17) (v := ?g26v) rfl (by kernel_rfl) (by kernel_rfl) (by kernel_rfl) (by kernel_rfl) (fun _ _ _ h => h) (by rfl) ?g26y (by assumption) ?g26r
                case g26y => (intro W hS; first | (go_simp; done) | (go_simp; with_reducible rfl))
                simp only [Act.put, List.setIfInBounds_toArray, List.set_cons_zero, List.set_cons_succ]
                refine reg_take (i := 18) (v := ?g27v) rfl (by kernel_rfl) (by kernel_rfl) (by kernel_rfl) (by kernel_rfl) (fun _ _ _ h => h) (by rfl) ?g27y (by assumption) ?g27r
                case g27y => (intro W hS; first | (go_simp; done) | (go_simp; with_reducible rfl))
                simp only [Act.put, List.setIfInBounds_toArray, List.set_cons_zero, List.set_cons_succ]
                refine reg_take (i := 19) (v := ?g28v) rfl (by kernel_rfl) (by kernel_rfl) (by kernel_rfl) (by kernel_rfl) (fun _ _ _ h => h) (by rfl) ?g28y (by assumption) ?g28r
                case g28y => (intro W hS; have f0 := hS.cell hf0 (fun h => h); have f1 := hS.cell hf1 (fun h => h); have f2 := hS.cell hpx (fun h => h); first | (go_simp; done) | (go_simp; with_reducible rfl))
                simp only [Act.put, List.setIfInBounds_toArray, List.set_cons_zero, List.set_cons_succ]
                refine reg_take (i := 20) (v := ?g29v) rfl (by kernel_rfl) (by kernel_rfl) (by kernel_rfl) (by kernel_rfl) (fun _ _ _ h => h) (by rfl) ?g29y (by assumption) ?g29r
                case g29y => (intro W hS; first | (go_simp; done) | (go_simp; with_reducible rfl))
                simp only [Act.put, List.setIfInBounds_toArray, List.set_cons_zero, List.set_cons_succ]
                refine reg_take (i := 21) (v := ?g30v) rfl (by kernel_rfl) (by kernel_rfl) (by kernel_rfl) (by kernel_rfl) (fun _ _ _ h => h) (by rfl) ?g30y (by assumption) ?g30r
                case g30y => (intro W hS; have f0 := hS.cell hf0 (fun h => h); have f1 := hS.cell hf1 (fun h => h); have f2 := hS.cell hpx (fun h => h); first | (go_simp; done) | (go_simp; with_reducible rfl))
                simp only [Act.put, List.setIfInBounds_toArray, List.set_cons_zero, List.set_cons_succ]
                refine reg_take (i := 22) (v := ?g31v) rfl (by kernel_rfl) (by kernel_rfl) (by kernel_rfl) (by kernel_rfl) (fun _ _ _ h => h) (by rfl) ?g31y (by assumption) ?g31r
                case g31y => (intro W hS; first | (go_simp; done) | (go_simp; with_reducible rfl))
                simp only [Act.put, List.setIfInBounds_toArray, List.set_cons_zero, List.set_cons_succ]
                refine reg_take (i := 23) (v := ?g32v) rfl (by kernel_rfl) (by kernel_rfl) (by kernel_rfl) (by kernel_rfl) (fun _ _ _ h => h) (by rfl) ?g32y (by assumption) ?g32r
                case g32y => (intro W hS; first | (go_simp; done) | (go_simp; with_reducible rfl))
                simp only [Act.put, List.setIfInBounds_toArray, List.set_cons_zero, List.set_cons_succ]
                refine reg_take (i := 24) (v := ?g33v) rfl (by kernel_rfl) (by kernel_rfl) (by kernel_rfl) (by kernel_rfl) (fun _ _ _ h => h) (by rfl) ?g33y (by assumption) ?g33r
                case g33y => (intro W hS; first | (go_simp; done) | (go_simp; with_reducible rfl))
                simp only [Act.put, List.setIfInBounds_toArray, List.set_cons_zero, List.set_cons_succ]
                refine wpAnyG_done (by kernel_rfl) ?_ _
                have HB3 := hide (HB1.out.trans ((hSc.below (Nat.le_refl _) (fun _ _ h => h)).mono HB1.out.size))
                clear hS0 hSc
                go_wp2_with fail
                go_ret
                exact ⟨ret_bool (HR.out.trans HNO.out).symm, HB3.out⟩
              | false =>
                have HOKE := hide (h4 hpb hz (by rw [hge]; simp))
                have hge' : (!(Op.bytesLess pp.toList fp.toList)) = false := hge
                clear h1 h2 h3 h4 hpb hge
                refine reg_start (Chg (fun _ => False) W1) 25 25 (by rfl) (by kernel_rfl) (Chg.drew _ _) ?_
                intro hS0
                have hSc := hS0
                refine reg_take (i := 0) (v := ?g35v) rfl (by kernel_rfl) (by kernel_rfl) (by kernel_rfl) (by kernel_rfl) (fun _ _ _ h => h) (by rfl) ?g35y (by assumption) ?g35r
                case g35y => (intro W hS; first | (go_simp; done) | (go_simp; with_reducible rfl))
                simp only [Act.put, List.setIfInBounds_toArray, List.set_cons_zero, List.set_cons_succ]
                refine reg_take (i := 1) (v := ?g36v) rfl (by kernel_rfl) (by kernel_rfl) (by kernel_rfl) (by kernel_rfl) (fun _ _ _ h => h) (by rfl) ?g36y (by assumption) ?g36r
                case g36y => (intro W hS; have f0 := hS.cell hf0 (fun h => h); have f1 := hS.cell hf1 (fun h => h); have f2 := hS.cell hpx (fun h => h); first | (go_simp; done) | (go_simp; with_reducible rfl))
                simp only [Act.put, List.setIfInBounds_toArray, List.set_cons_zero, List.set_cons_succ]
                refine reg_one (i := 2) (by kernel_rfl) ?_
                refine op_call (i := 2) (#[.string fp]) rfl (by rfl) (enters_of Tryd.func89 (by kernel_rfl) rfl) (by first | (simp [Act.eval]; done) | rfl | (simp only [List.map_toArray, List.map_cons, List.map_nil, Act.eval]; rfl) | (simp [Act.eval]; trace_state; done)) ?_
                refine (HPC.out _ (HM1.out.chg hSc (fun h => h))).mono ?_
                rintro e W3 ⟨rfl, hb2⟩
                have hSc := hSc.trans (Chg.of_below0 (S := fun _ => False) hb2) (S'' := fun _ => False) (fun _ _ h => h) (fun _ _ h => h)
                clear hb2
                refine ⟨_, rfl, hSc, ?_⟩
                simp only [Act.put, List.setIfInBounds_toArray, List.set_cons_zero, List.set_cons_succ]
                refine reg_take (i := 3) (v := ?g37v) rfl (by kernel_rfl) (by kernel_rfl) (by kernel_rfl) (by kernel_rfl) (fun _ _ _ h => h) (by rfl) ?g37y (by assumption) ?g37r
                case g37y => (intro W hS; first | (go_simp; done) | (go_simp; with_reducible rfl))
                simp only [Act.put, List.setIfInBounds_toArray, List.set_cons_zero, List.set_cons_succ]
                refine reg_take (i := 4) (v := ?g38v) rfl (by kernel_rfl) (by kernel_rfl) (by kernel_rfl) (by kernel_rfl) (fun _ _ _ h => h) (by rfl) ?g38y (by assumption) ?g38r
                case g38y => (intro W hS; first | (go_simp; done) | (go_simp; with_reducible rfl))
                simp only [Act.put, List.setIfInBounds_toArray, List.set_cons_zero, List.set_cons_succ]
                refine reg_take (i := 5) (v := ?g39v) rfl (by kernel_rfl) (by kernel_rfl) (by kernel_rfl) (by kernel_rfl) (fun _ _ _ h => h) (by rfl) ?g39y (by assumption) ?g39r
                case g39y => (intro W hS; first | (go_simp; done) | (go_simp; with_reducible rfl))
                simp only [Act.put, List.setIfInBounds_toArray, List.set_cons_zero, List.set_cons_succ]
                refine reg_take (i := 6) (v := ?g40v) rfl (by kernel_rfl) (by kernel_rfl) (by kernel_rfl) (by kernel_rfl) (fun _ _ _ h => h) (by rfl) ?g40y (by assumption) ?g40r
                case g40y => (intro W hS; have f0 := hS.cell hf0 (fun h => h); have f1 := hS.cell hf1 (fun h => h); have f2 := hS.cell hpx (fun h => h); first | (go_simp; done) | (go_simp; with_reducible rfl))
                simp only [Act.put, List.setIfInBounds_toArray, List.set_cons_zero, List.set_cons_succ]
                refine reg_take (i := 7) (v := ?g41v) rfl (by kernel_rfl) (by kernel_rfl) (by kernel_rfl) (by kernel_rfl) (fun _ _ _ h => h) (by rfl) ?g41y (by assumption) ?g41r
                case g41y => (intro W hS; first | (go_simp; done) | (go_simp; with_reducible rfl))
                simp only [Act.put, List.setIfInBounds_toArray, List.set_cons_zero, List.set_cons_succ]
                refine reg_take (i := 8) (v := ?g42v) rfl (by kernel_rfl) (by kernel_rfl) (by kernel_rfl) (by kernel_rfl) (fun _ _ _ h => h) (by rfl) ?g42y (by assumption) ?g42r
                case g42y => (intro W hS; first | (go_simp; done) | (go_simp; with_reducible rfl))
                simp only [Act.put, List.setIfInBounds_toArray, List.set_cons_zero, List.set_cons_succ]
                refine reg_take (i := 9) (v := ?g43v) rfl (by kernel_rfl) (by kernel_rfl) (by kernel_rfl) (by kernel_rfl) (fun _ _ _ h => h) (by rfl) ?g43y (by assumption) ?g43r
                case g43y => (intro W hS; first | (go_simp; done) | (go_simp; with_reducible rfl))
                simp only [Act.put, List.setIfInBounds_toArray, List.set_cons_zero, List.set_cons_succ]
                refine reg_take (i := 10) (v := ?g44v) rfl (by kernel_rfl) (by kernel_rfl) (by kernel_rfl) (by kernel_rfl) (fun _ _ _ h => h) (by rfl) ?g44y (by assumption) ?g44r
                case g44y => (intro W hS; first | (go_simp; done) | (go_simp; with_reducible rfl))
                simp only [Act.put, List.setIfInBounds_toArray, List.set_cons_zero, List.set_cons_succ]
                refine reg_take (i := 11) (v := ?g45v) rfl (by kernel_rfl) (by kernel_rfl) (by kernel_rfl) (by kernel_rfl) (fun _ _ _ h => h) (by rfl) ?g45y (by assumption) ?g45r
                case g45y => (intro W hS; first | (go_simp; done) | (go_simp; with_reducible rfl))
                simp only [Act.put, List.setIfInBounds_toArray, List.set_cons_zero, List.set_cons_succ]
                refine reg_take (i := 12) (v := ?g46v) rfl (by kernel_rfl) (by kernel_rfl) (by kernel_rfl) (by kernel_rfl) (fun _ _ _ h => h) (by rfl) ?g46y (by assumption) ?g46r
                case g46y => (intro W hS; first | (go_simp; done) | (go_simp; with_reducible rfl))
                simp only [Act.put, List.setIfInBounds_toArray, List.set_cons_zero, List.set_cons_succ]
                refine reg_take (i := 13) (v := ?g47v) rfl (by kernel_rfl) (by kernel_rfl) (by kernel_rfl) (by kernel_rfl) (fun _ _ _ h => h) (by rfl) ?g47y (by assumption) ?g47r
                case g47y => (intro W hS; first | (go_simp; done) | (go_simp; with_reducible rfl))
                simp only [Act.put, List.setIfInBounds_toArray, List.set_cons_zero, List.set_cons_succ]
                refine reg_take (i := 14) (v := ?g48v) rfl (by kernel_rfl) (by kernel_rfl) (by kernel_rfl) (by kernel_rfl) (fun _ _ _ h => h) (by rfl) ?g48y (by assumption) ?g48r
                case g48y => (intro W hS; first | (go_simp; done) | (go_simp; with_reducible rfl))
                simp only [Act.put, List.setIfInBounds_toArray, List.set_cons_zero, List.set_cons_succ]
                refine reg_take (i := 15) (v := ?g49v) rfl (by kernel_rfl) (by kernel_rfl) (by kernel_rfl) (by kernel_rfl) (fun _ _ _ h => h) (by rfl) ?g49y (by assumption) ?g49r
                case g49y => (intro W hS; first | (go_simp; done) | (go_simp; with_reducible rfl))
                simp only [Act.put, List.setIfInBounds_toArray, List.set_cons_zero, List.set_cons_succ]
                refine reg_take (i := 16) (v := ?g50v) rfl (by kernel_rfl) (by kernel_rfl) (by kernel_rfl) (by kernel_rfl) (fun _ _ _ h => h) (by rfl) ?g50y (by assumption) ?g50r
                case g50y => (intro W hS; first | (go_simp; done) | (go_simp; with_reducible rfl))
                simp only [Act.put, List.setIfInBounds_toArray, List.set_cons_zero, List.set_cons_succ]
                refine reg_take (i := 17) (v := ?g51v) rfl (by kernel_rfl) (by kernel_rfl) (by kernel_rfl) (by kernel_rfl) (fun _ _ _ h => h) (by rfl) ?g51y (by assumption) ?g51r
                case g51y => (intro W hS; first | (go_simp; done) | (go_simp; with_reducible rfl))
                simp only [Act.put, List.setIfInBounds_toArray, List.set_cons_zero, List.set_cons_succ]
                refine reg_take (i := 18) (v := ?g52v) rfl (by kernel_rfl) (by kernel_rfl) (by kernel_rfl) (by kernel_rfl) (fun _ _ _ h => h) (by rfl) ?g52y (by assumption) ?g52r
                case g52y => (intro W hS; first | (go_simp; done) | (go_simp; with_reducible rfl))
                simp only [Act.put, List.setIfInBounds_toArray, List.set_cons_zero, List.set_cons_succ]
                refine reg_take (i := 19) (v := ?g53v) rfl (by kernel_rfl) (by kernel_rfl) (by kernel_rfl) (by kernel_rfl) (fun _ _ _ h => h) (by rfl) ?g53y (by assumption) ?g53r
                case g53y => (intro W hS; have f0 := hS.cell hf0 (fun h => h); have f1 := hS.cell hf1 (fun h => h); have f2 := hS.cell hpx (fun h => h); first | (go_simp; done) | (go_simp; with_reducible rfl))
                simp only [Act.put, List.setIfInBounds_toArray, List.set_cons_zero, List.set_cons_succ]
                refine reg_take (i := 20) (v := ?g54v) rfl (by kernel_rfl) (by kernel_rfl) (by kernel_rfl) (by kernel_rfl) (fun _ _ _ h => h) (by rfl) ?g54y (by assumption) ?g54r
                case g54y => (intro W hS; first | (go_simp; done) | (go_simp; with_reducible rfl))
                simp only [Act.put, List.setIfInBounds_toArray, List.set_cons_zero, List.set_cons_succ]
                refine reg_take (i := 21) (v := ?g55v) rfl (by kernel_rfl) (by kernel_rfl) (by kernel_rfl) (by kernel_rfl) (fun _ _ _ h => h) (by rfl) ?g55y (by assumption) ?g55r
                case g55y => (intro W hS; have f0 := hS.cell hf0 (fun h => h); have f1 := hS.cell hf1 (fun h => h); have f2 := hS.cell hpx (fun h => h); first | (go_simp; done) | (go_simp; with_reducible rfl))
                simp only [Act.put, List.setIfInBounds_toArray, List.set_cons_zero, List.set_cons_succ]
                refine reg_take (i := 22) (v := ?g56v) rfl (by kernel_rfl) (by kernel_rfl) (by kernel_rfl) (by kernel_rfl) (fun _ _ _ h => h) (by rfl) ?g56y (by assumption) ?g56r
                case g56y => (intro W hS; first | (go_simp; done) | (go_simp; with_reducible rfl))
                simp only [Act.put, List.setIfInBounds_toArray, List.set_cons_zero, List.set_cons_succ]
                refine reg_take (i := 23) (v := ?g57v) rfl (by kernel_rfl) (by kernel_rfl) (by kernel_rfl) (by kernel_rfl) (fun _ _ _ h => h) (by rfl) ?g57y (by assumption) ?g57r
                case g57y => (intro W hS; first | (go_simp; done) | (go_simp; with_reducible rfl))
                simp only [Act.put, List.setIfInBounds_toArray, List.set_cons_zero, List.set_cons_succ]
                refine reg_take (i := 24) (v := ?g58v) rfl (by kernel_rfl) (by kernel_rfl) (by kernel_rfl) (by kernel_rfl) (fun _ _ _ h => h) (by rfl) ?g58y (by assumption) ?g58r
                case g58y => (intro W hS; first | (go_simp; done) | (go_simp; with_reducible rfl))
                simp only [Act.put, List.setIfInBounds_toArray, List.set_cons_zero, List.set_cons_succ]
                refine wpAnyG_done (by kernel_rfl) ?_ _
                have HB3 := hide (HB1.out.trans ((hSc.below (Nat.le_refl _) (fun _ _ h => h)).mono HB1.out.size))
                have HC3 := hide (HBR1.out.trans hSc (S'' := fun _ => False) (fun _ _ h => h) (fun _ _ h => h))
                have HBR3 := hide (HC3.out.below (Nat.le_refl _) (fun _ _ h => h))
                have HF0 := hide (hSc.cell hf0 (fun h => h))
                have HLT3 := hide (fun b' (hb' : (Value.slice (some ⟨b, off, none⟩) k ca).ownBlock = some b') => Nat.lt_of_lt_of_le (HLT.out b' hb' HNE.out) HB3.out.size)
                clear hS0 hSc hf0 hf1
                cases hu : (t.take k).any (fun g => underB fp g.path) with
                | true =>
                  have HOKV := hide (HOKE.out.trans (by rw [hu]; rfl) : okAt t k = false)
                  have HC := hide (fl_containsFunc W3 (.slice (some ⟨b, off, none⟩) k ca) (t.take k) (by rw [List.length_take, Nat.min_eq_left HK.out, ← (flat_split fl_len t k HK.out).1]; exact HRU.out.chg HC3.out (fun _ _ _ h => h)) (fun b' hb' _ => HLT3.out b' hb') (by rw [List.length_take]; have := HL.out; omega) 91 #[.pointer (some ⟨fb, 0, none⟩)] (fun g => underB fp g.path) (fun W => W.cell? ⟨fb, 0, none⟩ = some (.string fp)) (enters_of Tryd.func91 (by kernel_rfl) rfl)
                    (fun W x hx hW => may_under W ⟨fp, fd⟩ x fb hW (HSZ.out x hx)) (fun W W' hW hb => (Chg.of_below0 (S := fun _ => False) hb).cell hW (fun h => h)) HF0.out)
                  rw [hu] at HC
                  clear hu
                  have HNO := hide (mayT_no HKL.out HOKV.out)
                  have hkca := Nat.le_trans HK.out HCA.out
                  go_wp2_with fail
                  refine HC.out.mono ?_
                  rintro e W4 ⟨rfl, hb4⟩
                  have HB4 := hide hb4
                  clear hb4
                  go_wp2_with fail
                  go_ret
                  exact ⟨ret_bool ((HR.out.trans HNO.out).symm), HB3.out.trans (HB4.out.mono HB3.out.size)⟩
                | false =>
                  have HOKV := hide (HOKE.out.trans (by rw [hu]; rfl) : okAt t k = true)
                  have HC := hide (fl_containsFunc W3 (.slice (some ⟨b, off, none⟩) k ca) (t.take k) (by rw [List.length_take, Nat.min_eq_left HK.out, ← (flat_split fl_len t k HK.out).1]; exact HRU.out.chg HC3.out (fun _ _ _ h => h)) (fun b' hb' _ => HLT3.out b' hb') (by rw [List.length_take]; have := HL.out; omega) 91 #[.pointer (some ⟨fb, 0, none⟩)] (fun g => underB fp g.path) (fun W => W.cell? ⟨fb, 0, none⟩ = some (.string fp)) (enters_of Tryd.func91 (by kernel_rfl) rfl)
                    (fun W x hx hW => may_under W ⟨fp, fd⟩ x fb hW (HSZ.out x hx)) (fun W W' hW hb => (Chg.of_below0 (S := fun _ => False) hb).cell hW (fun h => h)) HF0.out)
                  rw [hu] at HC
                  clear hu
                  have hkca := Nat.le_trans HK.out HCA.out
                  go_wp2_with fail
                  refine HC.out.mono ?_
                  rintro e W4 ⟨rfl, hb4⟩
                  have HB4 := hide hb4
                  clear hb4
                  go_wp2_with fail
                  go_roundw
                  case rel =>
                    refine ⟨k + 1, by omega, by go_num, fun j hj => ?_, HB3.out.trans (HB4.out.mono HB3.out.size), HMr.out.chg ((Chg.of_below0 (S := fun _ => False) HBR3.out).trans (Chg.of_below0 (S := fun _ => False) HB4.out) (S'' := fun _ => False) (fun _ _ h => h) (fun _ _ h => h)) (fun h => h)⟩
                    by_cases h : j = k
                    · rw [h]; exact HOKV.out
                    · exact HN.out j (by omega)
                  case measure => simp [intOf]; omega
            · have dk : decide ((k : Int) > 0) = false := decide_eq_false (by omega)
              have HOKE := hide (h4 hpb hz (by rw [decide_eq_false hk0]; rfl))
              clear h1 h2 h3 h4 hpb hpx
              refine reg_start (Chg (fun _ => False) W1) 25 25 (by rfl) (by kernel_rfl) (Chg.drew _ _) ?_
              intro hS0
              have hSc := hS0
              refine reg_take (i := 0) (v := ?g60v) rfl (by kernel_rfl) (by kernel_rfl) (by kernel_rfl) (by kernel_rfl) (fun _ _ _ h => h) (by rfl) ?g60y (by assumption) ?g60r
              case g60y => (intro W hS; first | (go_simp; done) | (go_simp; with_reducible rfl))
              simp only [Act.put, List.setIfInBounds_toArray, List.set_cons_zero, List.set_cons_succ]
              refine reg_take (i := 1) (v := ?g61v) rfl (by kernel_rfl) (by kernel_rfl) (by kernel_rfl) (by kernel_rfl) (fun _ _ _ h => h) (by rfl) ?g61y (by assumption) ?g61r
              case g61y => (intro W hS; have f0 := hS.cell hf0 (fun h => h); have f1 := hS.cell hf1 (fun h => h); first | (go_simp; done) | (go_simp; with_reducible rfl))
              simp only [Act.put, List.setIfInBounds_toArray, List.set_cons_zero, List.set_cons_succ]
              refine reg_one (i := 2) (by kernel_rfl) ?_
              refine op_call (i := 2) (#[.string fp]) rfl (by rfl) (enters_of Tryd.func89 (by kernel_rfl) rfl) (by first | (simp [Act.eval]; done) | rfl | (simp only [List.map_toArray, List.map_cons, List.map_nil, Act.eval]; rfl) | (simp [Act.eval]; trace_state; done)) ?_
              refine (HPC.out _ (HM1.out.chg hSc (fun h => h))).mono ?_
              rintro e W3 ⟨rfl, hb2⟩
              have hSc := hSc.trans (Chg.of_below0 (S := fun _ => False) hb2) (S'' := fun _ => False) (fun _ _ h => h) (fun _ _ h => h)
              clear hb2
              refine ⟨_, rfl, hSc, ?_⟩
              simp only [Act.put, List.setIfInBounds_toArray, List.set_cons_zero, List.set_cons_succ]
              refine reg_take (i := 3) (v := ?g62v) rfl (by kernel_rfl) (by kernel_rfl) (by kernel_rfl) (by kernel_rfl) (fun _ _ _ h => h) (by rfl) ?g62y (by assumption) ?g62r
              case g62y => (intro W hS; first | (go_simp; done) | (go_simp; with_reducible rfl))
              simp only [Act.put, List.setIfInBounds_toArray, List.set_cons_zero, List.set_cons_succ]
              refine reg_take (i := 4) (v := ?g63v) rfl (by kernel_rfl) (by kernel_rfl) (by kernel_rfl) (by kernel_rfl) (fun _ _ _ h => h) (by rfl) ?g63y (by assumption) ?g63r
              case g63y => (intro W hS; first | (go_simp; done) | (go_simp; with_reducible rfl))
              simp only [Act.put, List.setIfInBounds_toArray, List.set_cons_zero, List.set_cons_succ]
              refine reg_take (i := 5) (v := ?g64v) rfl (by kernel_rfl) (by kernel_rfl) (by kernel_rfl) (by kernel_rfl) (fun _ _ _ h => h) (by rfl) ?g64y (by assumption) ?g64r
              case g64y => (intro W hS; first | (go_simp; done) | (go_simp; with_reducible rfl))
              simp only [Act.put, List.setIfInBounds_toArray, List.set_cons_zero, List.set_cons_succ]
              refine reg_take (i := 6) (v := ?g65v) rfl (by kernel_rfl) (by kernel_rfl) (by kernel_rfl) (by kernel_rfl) (fun _ _ _ h => h) (by rfl) ?g65y (by assumption) ?g65r
              case g65y => (intro W hS; have f0 := hS.cell hf0 (fun h => h); have f1 := hS.cell hf1 (fun h => h); first | (go_simp; done) | (go_simp; with_reducible rfl))
              simp only [Act.put, List.setIfInBounds_toArray, List.set_cons_zero, List.set_cons_succ]
              refine reg_take (i := 7) (v := ?g66v) rfl (by kernel_rfl) (by kernel_rfl) (by kernel_rfl) (by kernel_rfl) (fun _ _ _ h => h) (by rfl) ?g66y (by assumption) ?g66r
              case g66y => (intro W hS; first | (go_simp; done) | (go_simp; with_reducible rfl))
              simp only [Act.put, List.setIfInBounds_toArray, List.set_cons_zero, List.set_cons_succ]
              refine reg_take (i := 8) (v := ?g67v) rfl (by kernel_rfl) (by kernel_rfl) (by kernel_rfl) (by kernel_rfl) (fun _ _ _ h => h) (by rfl) ?g67y (by assumption) ?g67r
              case g67y => (intro W hS; first | (go_simp; done) | (go_simp; with_reducible rfl))
              simp only [Act.put, List.setIfInBounds_toArray, List.set_cons_zero, List.set_cons_succ]
              refine reg_take (i := 9) (v := ?g68v) rfl (by kernel_rfl) (by kernel_rfl) (by kernel_rfl) (by kernel_rfl) (fun _ _ _ h => h) (by rfl) ?g68y (by assumption) ?g68r
              case g68y => (intro W hS; first | (go_simp; done) | (go_simp; with_reducible rfl))
              simp only [Act.put, List.setIfInBounds_toArray, List.set_cons_zero, List.set_cons_succ]
              refine reg_take (i := 10) (v := ?g69v) rfl (by kernel_rfl) (by kernel_rfl) (by kernel_rfl) (by kernel_rfl) (fun _ _ _ h => h) (by rfl) ?g69y (by assumption) ?g69r
              case g69y => (intro W hS; first | (go_simp; done) | (go_simp; with_reducible rfl))
              simp only [Act.put, List.setIfInBounds_toArray, List.set_cons_zero, List.set_cons_succ]
              refine reg_take (i := 11) (v := ?g70v) rfl (by kernel_rfl) (by kernel_rfl) (by kernel_rfl) (by kernel_rfl) (fun _ _ _ h => h) (by rfl) ?g70y (by assumption) ?g70r
              case g70y => (intro W hS; first | (go_simp; done) | (go_simp; with_reducible rfl))
              simp only [Act.put, List.setIfInBounds_toArray, List.set_cons_zero, List.set_cons_succ]
              refine reg_take (i := 12) (v := ?g71v) rfl (by kernel_rfl) (by kernel_rfl) (by kernel_rfl) (by kernel_rfl) (fun _ _ _ h => h) (by rfl) ?g71y (by assumption) ?g71r
              case g71y => (intro W hS; first | (go_simp; done) | (go_simp; with_reducible rfl))
              simp only [Act.put, List.setIfInBounds_toArray, List.set_cons_zero, List.set_cons_succ]
              refine reg_take (i := 13) (v := ?g72v) rfl (by kernel_rfl) (by kernel_rfl) (by kernel_rfl) (by kernel_rfl) (fun _ _ _ h => h) (by rfl) ?g72y (by assumption) ?g72r
              case g72y => (intro W hS; first | (go_simp; done) | (go_simp; with_reducible rfl))
              simp only [Act.put, List.setIfInBounds_toArray, List.set_cons_zero, List.set_cons_succ]
              refine reg_skip (i := 14) rfl (by kernel_rfl) (by kernel_rfl) (by kernel_rfl) (by kernel_rfl) (fun _ _ _ h => h) (by rfl) (by assumption) ?_
              simp only [Act.put, List.setIfInBounds_toArray, List.set_cons_zero, List.set_cons_succ]
              refine reg_skip (i := 15) rfl (by kernel_rfl) (by kernel_rfl) (by kernel_rfl) (by kernel_rfl) (fun _ _ _ h => h) (by rfl) (by assumption) ?_
              simp only [Act.put, List.setIfInBounds_toArray, List.set_cons_zero, List.set_cons_succ]
              refine reg_skip (i := 16) rfl (by kernel_rfl) (by kernel_rfl) (by kernel_rfl) (by kernel_rfl) (fun _ _ _ h => h) (by rfl) (by assumption) ?_
              simp only [Act.put, List.setIfInBounds_toArray, List.set_cons_zero, List.set_cons_succ]
              refine reg_skip (i := 17) rfl (by kernel_rfl) (by kernel_rfl) (by kernel_rfl) (by kernel_rfl) (fun _ _ _ h => h) (by rfl) (by assumption) ?_
              simp only [Act.put, List.setIfInBounds_toArray, List.set_cons_zero, List.set_cons_succ]
              refine reg_skip (i := 18) rfl (by kernel_rfl) (by kernel_rfl) (by kernel_rfl) (by kernel_rfl) (fun _ _ _ h => h) (by rfl) (by assumption) ?_
              simp only [Act.put, List.setIfInBounds_toArray, List.set_cons_zero, List.set_cons_succ]
              refine reg_skip (i := 19) rfl (by kernel_rfl) (by kernel_rfl) (by kernel_rfl) (by kernel_rfl) (fun _ _ _ h => h) (by rfl) (by assumption) ?_
              simp only [Act.put, List.setIfInBounds_toArray, List.set_cons_zero, List.set_cons_succ]
              refine reg_skip (i := 20) rfl (by kernel_rfl) (by kernel_rfl) (by kernel_rfl) (by kernel_rfl) (fun _ _ _ h => h) (by rfl) (by assumption) ?_
              simp only [Act.put, List.setIfInBounds_toArray, List.set_cons_zero, List.set_cons_succ]
              refine reg_skip (i := 21) rfl (by kernel_rfl) (by kernel_rfl) (by kernel_rfl) (by kernel_rfl) (fun _ _ _ h => h) (by rfl) (by assumption) ?_
              simp only [Act.put, List.setIfInBounds_toArray, List.set_cons_zero, List.set_cons_succ]
              refine reg_skip (i := 22) rfl (by kernel_rfl) (by kernel_rfl) (by kernel_rfl) (by kernel_rfl) (fun _ _ _ h => h) (by rfl) (by assumption) ?_
              simp only [Act.put, List.setIfInBounds_toArray, List.set_cons_zero, List.set_cons_succ]
              refine reg_take (i := 23) (v := ?g73v) rfl (by kernel_rfl) (by kernel_rfl) (by kernel_rfl) (by kernel_rfl) (fun _ _ _ h => h) (by rfl) ?g73y (by assumption) ?g73r
              case g73y => (intro W hS; first | (go_simp; done) | (go_simp; with_reducible rfl))
              simp only [Act.put, List.setIfInBounds_toArray, List.set_cons_zero, List.set_cons_succ]
              refine reg_take (i := 24) (v := ?g74v) rfl (by kernel_rfl) (by kernel_rfl) (by kernel_rfl) (by kernel_rfl) (fun _ _ _ h => h) (by rfl) ?g74y (by assumption) ?g74r
              case g74y => (intro W hS; first | (go_simp; done) | (go_simp; with_reducible rfl))
              simp only [Act.put, List.setIfInBounds_toArray, List.set_cons_zero, List.set_cons_succ]
              refine wpAnyG_done (by kernel_rfl) ?_ _
              have HB3 := hide (HB1.out.trans ((hSc.below (Nat.le_refl _) (fun _ _ h => h)).mono HB1.out.size))
              have HC3 := hide (HBR1.out.trans hSc (S'' := fun _ => False) (fun _ _ h => h) (fun _ _ h => h))
              have HBR3 := hide (HC3.out.below (Nat.le_refl _) (fun _ _ h => h))
              have HF0 := hide (hSc.cell hf0 (fun h => h))
              have HLT3 := hide (fun b' (hb' : (Value.slice (some ⟨b, off, none⟩) k ca).ownBlock = some b') => Nat.lt_of_lt_of_le (HLT.out b' hb' HNE.out) HB3.out.size)
              clear hS0 hSc hf0 hf1
              cases hu : (t.take k).any (fun g => underB fp g.path) with
              | true =>
                have HOKV := hide (HOKE.out.trans (by rw [hu]; rfl) : okAt t k = false)
                have HC := hide (fl_containsFunc W3 (.slice (some ⟨b, off, none⟩) k ca) (t.take k) (by rw [List.length_take, Nat.min_eq_left HK.out, ← (flat_split fl_len t k HK.out).1]; exact HRU.out.chg HC3.out (fun _ _ _ h => h)) (fun b' hb' _ => HLT3.out b' hb') (by rw [List.length_take]; have := HL.out; omega) 91 #[.pointer (some ⟨fb, 0, none⟩)] (fun g => underB fp g.path) (fun W => W.cell? ⟨fb, 0, none⟩ = some (.string fp)) (enters_of Tryd.func91 (by kernel_rfl) rfl)
                  (fun W x hx hW => may_under W ⟨fp, fd⟩ x fb hW (HSZ.out x hx)) (fun W W' hW hb => (Chg.of_below0 (S := fun _ => False) hb).cell hW (fun h => h)) HF0.out)
                rw [hu] at HC
                clear hu
                have HNO := hide (mayT_no HKL.out HOKV.out)
                have hkca := Nat.le_trans HK.out HCA.out
                go_wp2_with fail
                refine HC.out.mono ?_
                rintro e W4 ⟨rfl, hb4⟩
                have HB4 := hide hb4
                clear hb4
                go_wp2_with fail
                go_ret
                exact ⟨ret_bool ((HR.out.trans HNO.out).symm), HB3.out.trans (HB4.out.mono HB3.out.size)⟩
              | false =>
                have HOKV := hide (HOKE.out.trans (by rw [hu]; rfl) : okAt t k = true)
                have HC := hide (fl_containsFunc W3 (.slice (some ⟨b, off, none⟩) k ca) (t.take k) (by rw [List.length_take, Nat.min_eq_left HK.out, ← (flat_split fl_len t k HK.out).1]; exact HRU.out.chg HC3.out (fun _ _ _ h => h)) (fun b' hb' _ => HLT3.out b' hb') (by rw [List.length_take]; have := HL.out; omega) 91 #[.pointer (some ⟨fb, 0, none⟩)] (fun g => underB fp g.path) (fun W => W.cell? ⟨fb, 0, none⟩ = some (.string fp)) (enters_of Tryd.func91 (by kernel_rfl) rfl)
                  (fun W x hx hW => may_under W ⟨fp, fd⟩ x fb hW (HSZ.out x hx)) (fun W W' hW hb => (Chg.of_below0 (S := fun _ => False) hb).cell hW (fun h => h)) HF0.out)
                rw [hu] at HC
                clear hu
                have hkca := Nat.le_trans HK.out HCA.out
                go_wp2_with fail
                refine HC.out.mono ?_
                rintro e W4 ⟨rfl, hb4⟩
                have HB4 := hide hb4
                clear hb4
                go_wp2_with fail
                go_roundw
                case rel =>
                  refine ⟨k + 1, by omega, by go_num, fun j hj => ?_, HB3.out.trans (HB4.out.mono HB3.out.size), HMr.out.chg ((Chg.of_below0 (S := fun _ => False) HBR3.out).trans (Chg.of_below0 (S := fun _ => False) HB4.out) (S'' := fun _ => False) (fun _ _ h => h) (fun _ _ h => h)) (fun h => h)⟩
                  by_cases h : j = k
                  · rw [h]; exact HOKV.out
                  · exact HN.out j (by omega)
                case measure => simp [intOf]; omega
          · have dz : decide ((fd.size : Int) > 400) = true := decide_eq_true (by omega)
            have HNO := hide (mayT_no hkl (h2 hz))
            clear h1 h2 h3 h4 hpb hpx
            refine reg_start (Chg (fun _ => False) W1) 25 25 (by rfl) (by kernel_rfl) (Chg.drew _ _) ?_
            intro hS0
            have hSc := hS0
            refine reg_take (i := 0) (v := ?g76v) rfl (by kernel_rfl) (by kernel_rfl) (by kernel_rfl) (by kernel_rfl) (fun _ _ _ h => h) (by rfl) ?g76y (by assumption) ?g76r
            case g76y => (intro W hS; first | (go_simp; done) | (go_simp; with_reducible rfl))
            simp only [Act.put, List.setIfInBounds_toArray, List.set_cons_zero, List.set_cons_succ]
            refine reg_take (i := 1) (v := ?g77v) rfl (by kernel_rfl) (by kernel_rfl) (by kernel_rfl) (by kernel_rfl) (fun _ _ _ h => h) (by rfl) ?g77y (by assumption) ?g77r
            case g77y => (intro W hS; have f0 := hS.cell hf0 (fun h => h); have f1 := hS.cell hf1 (fun h => h); first | (go_simp; done) | (go_simp; with_reducible rfl))
            simp only [Act.put, List.setIfInBounds_toArray, List.set_cons_zero, List.set_cons_succ]
            refine reg_one (i := 2) (by kernel_rfl) ?_
            refine op_call (i := 2) (#[.string fp]) rfl (by rfl) (enters_of Tryd.func89 (by kernel_rfl) rfl) (by first | (simp [Act.eval]; done) | rfl | (simp only [List.map_toArray, List.map_cons, List.map_nil, Act.eval]; rfl) | (simp [Act.eval]; trace_state; done)) ?_
            refine (HPC.out _ (HM1.out.chg hSc (fun h => h))).mono ?_
            rintro e W3 ⟨rfl, hb2⟩
            have hSc := hSc.trans (Chg.of_below0 (S := fun _ => False) hb2) (S'' := fun _ => False) (fun _ _ h => h) (fun _ _ h => h)
            clear hb2
            refine ⟨_, rfl, hSc, ?_⟩
            simp only [Act.put, List.setIfInBounds_toArray, List.set_cons_zero, List.set_cons_succ]
            refine reg_take (i := 3) (v := ?g78v) rfl (by kernel_rfl) (by kernel_rfl) (by kernel_rfl) (by kernel_rfl) (fun _ _ _ h => h) (by rfl) ?g78y (by assumption) ?g78r
            case g78y => (intro W hS; first | (go_simp; done) | (go_simp; with_reducible rfl))
            simp only [Act.put, List.setIfInBounds_toArray, List.set_cons_zero, List.set_cons_succ]
            refine reg_take (i := 4) (v := ?g79v) rfl (by kernel_rfl) (by kernel_rfl) (by kernel_rfl) (by kernel_rfl) (fun _ _ _ h => h) (by rfl) ?g79y (by assumption) ?g79r
            case g79y => (intro W hS; first | (go_simp; done) | (go_simp; with_reducible rfl))
            simp only [Act.put, List.setIfInBounds_toArray, List.set_cons_zero, List.set_cons_succ]
            refine reg_take (i := 5) (v := ?g80v) rfl (by kernel_rfl) (by kernel_rfl) (by kernel_rfl) (by kernel_rfl) (fun _ _ _ h => h) (by rfl) ?g80y (by assumption) ?g80r
            case g80y => (intro W hS; first | (go_simp; done) | (go_simp; with_reducible rfl))
            simp only [Act.put, List.setIfInBounds_toArray, List.set_cons_zero, List.set_cons_succ]
            refine reg_take (i := 6) (v := ?g81v) rfl (by kernel_rfl) (by kernel_rfl) (by kernel_rfl) (by kernel_rfl) (fun _ _ _ h => h) (by rfl) ?g81y (by assumption) ?g81r
            case g81y => (intro W hS; have f0 := hS.cell hf0 (fun h => h); have f1 := hS.cell hf1 (fun h => h); first | (go_simp; done) | (go_simp; with_reducible rfl))
            simp only [Act.put, List.setIfInBounds_toArray, List.set_cons_zero, List.set_cons_succ]
            refine reg_take (i := 7) (v := ?g82v) rfl (by kernel_rfl) (by kernel_rfl) (by kernel_rfl) (by kernel_rfl) (fun _ _ _ h => h) (by rfl) ?g82y (by assumption) ?g82r
            case g82y => (intro W hS; first | (go_simp; done) | (go_simp; with_reducible rfl))
            simp only [Act.put, List.setIfInBounds_toArray, List.set_cons_zero, List.set_cons_succ]
            refine reg_take (i := 8) (v := ?g83v) rfl (by kernel_rfl) (by kernel_rfl) (by kernel_rfl) (by kernel_rfl) (fun _ _ _ h => h) (by rfl) ?g83y (by assumption) ?g83r
            case g83y => (intro W hS; first | (go_simp; done) | (go_simp; with_reducible rfl))
            simp only [Act.put, List.setIfInBounds_toArray, List.set_cons_zero, List.set_cons_succ]
            refine reg_take (i := 9) (v := ?g84v) rfl (by kernel_rfl) (by kernel_rfl) (by kernel_rfl) (by kernel_rfl) (fun _ _ _ h => h) (by rfl) ?g84y (by assumption) ?g84r
            case g84y => (intro W hS; first | (go_simp; done) | (go_simp; with_reducible rfl))
            simp only [Act.put, List.setIfInBounds_toArray, List.set_cons_zero, List.set_cons_succ]
            refine reg_take (i := 10) (v := ?g85v) rfl (by kernel_rfl) (by kernel_rfl) (by kernel_rfl) (by kernel_rfl) (fun _ _ _ h => h) (by rfl) ?g85y (by assumption) ?g85r
            case g85y => (intro W hS; first | (go_simp; done) | (go_simp; with_reducible rfl))
            simp only [Act.put, List.setIfInBounds_toArray, List.set_cons_zero, List.set_cons_succ]
            refine reg_skip (i := 11) rfl (by kernel_rfl) (by kernel_rfl) (by kernel_rfl) (by kernel_rfl) (fun _ _ _ h => h) (by rfl) (by assumption) ?_
            simp only [Act.put, List.setIfInBounds_toArray, List.set_cons_zero, List.set_cons_succ]
            refine reg_skip (i := 12) rfl (by kernel_rfl) (by kernel_rfl) (by kernel_rfl) (by kernel_rfl) (fun _ _ _ h => h) (by rfl) (by assumption) ?_
            simp only [Act.put, List.setIfInBounds_toArray, List.set_cons_zero, List.set_cons_succ]
            refine reg_skip (i := 13) rfl (by kernel_rfl) (by kernel_rfl) (by kernel_rfl) (by kernel_rfl) (fun _ _ _ h => h) (by rfl) (by assumption) ?_
            simp only [Act.put, List.setIfInBounds_toArray, List.set_cons_zero, List.set_cons_succ]
            refine reg_skip (i := 14) rfl (by kernel_rfl) (by kernel_rfl) (by kernel_rfl) (by kernel_rfl) (fun _ _ _ h => h) (by rfl) (by assumption) ?_
            simp only [Act.put, List.setIfInBounds_toArray, List.set_cons_zero, List.set_cons_succ]
            refine reg_skip (i := 15) rfl (by kernel_rfl) (by kernel_rfl) (by kernel_rfl) (by kernel_rfl) (fun _ _ _ h => h) (by rfl) (by assumption) ?_
            simp only [Act.put, List.setIfInBounds_toArray, List.set_cons_zero, List.set_cons_succ]
            refine reg_skip (i := 16) rfl (by kernel_rfl) (by kernel_rfl) (by kernel_rfl) (by kernel_rfl) (fun _ _ _ h => h) (by rfl) (by assumption) ?_
            simp only [Act.put, List.setIfInBounds_toArray, List.set_cons_zero, List.set_cons_succ]
            refine reg_skip (i := 17) rfl (by kernel_rfl) (by kernel_rfl) (by kernel_rfl) (by kernel_rfl) (fun _ _ _ h => h) (by rfl) (by assumption) ?_
            simp only [Act.put, List.setIfInBounds_toArray, List.set_cons_zero, List.set_cons_succ]
            refine reg_skip (i := 18) rfl (by kernel_rfl) (by kernel_rfl) (by kernel_rfl) (by kernel_rfl) (fun _ _ _ h => h) (by rfl) (by assumption) ?_
            simp only [Act.put, List.setIfInBounds_toArray, List.set_cons_zero, List.set_cons_succ]
            refine reg_skip (i := 19) rfl (by kernel_rfl) (by kernel_rfl) (by kernel_rfl) (by kernel_rfl) (fun _ _ _ h => h) (by rfl) (by assumption) ?_
            simp only [Act.put, List.setIfInBounds_toArray, List.set_cons_zero, List.set_cons_succ]
            refine reg_skip (i := 20) rfl (by kernel_rfl) (by kernel_rfl) (by kernel_rfl) (by kernel_rfl) (fun _ _ _ h => h) (by rfl) (by assumption) ?_
            simp only [Act.put, List.setIfInBounds_toArray, List.set_cons_zero, List.set_cons_succ]
            refine reg_skip (i := 21) rfl (by kernel_rfl) (by kernel_rfl) (by kernel_rfl) (by kernel_rfl) (fun _ _ _ h => h) (by rfl) (by assumption) ?_
            simp only [Act.put, List.setIfInBounds_toArray, List.set_cons_zero, List.set_cons_succ]
            refine reg_skip (i := 22) rfl (by kernel_rfl) (by kernel_rfl) (by kernel_rfl) (by kernel_rfl) (fun _ _ _ h => h) (by rfl) (by assumption) ?_
            simp only [Act.put, List.setIfInBounds_toArray, List.set_cons_zero, List.set_cons_succ]
            refine reg_skip (i := 23) rfl (by kernel_rfl) (by kernel_rfl) (by kernel_rfl) (by kernel_rfl) (fun _ _ _ h => h) (by rfl) (by assumption) ?_
            simp only [Act.put, List.setIfInBounds_toArray, List.set_cons_zero, List.set_cons_succ]
            refine reg_take (i := 24) (v := ?g86v) rfl (by kernel_rfl) (by kernel_rfl) (by kernel_rfl) (by kernel_rfl) (fun _ _ _ h => h) (by rfl) ?g86y (by assumption) ?g86r
            case g86y => (intro W hS; first | (go_simp; done) | (go_simp; with_reducible rfl))
            simp only [Act.put, List.setIfInBounds_toArray, List.set_cons_zero, List.set_cons_succ]
            refine wpAnyG_done (by kernel_rfl) ?_ _
            have HB3 := hide (HB1.out.trans ((hSc.below (Nat.le_refl _) (fun _ _ h => h)).mono HB1.out.size))
            clear hS0 hSc
            go_wp2_with fail
            go_ret
            exact ⟨ret_bool (HR.out.trans HNO.out).symm, HB3.out⟩
      · obtain rfl : k = t.length := by omega
        have hrr : r = true := by rw [HR.out]; exact mayT_yes HL.out HN.out
        have HRR := hide hrr
        clear hrr HN
        go_wp2_with fail
        go_ret
        exact ⟨ret_bool HRR.out.symm, HB.out⟩
  · have d1 : decide ((t.length : Int) > 12) = true := decide_eq_true (by omega)
    have hrr : r = false := by rw [hr, mayT, decide_eq_false hl]; rfl
    have HR := hide hrr
    clear ht hlt hM hr hl hrr
    go_enter Tryd.func69, Tryd.ntmps69
    go_wp2_with fail
    go_ret
    exact ⟨ret_bool HR.out.symm, Below.refl _ _⟩
end Go.Proofs.YtjmmmpnpkialjaaDoor
