/- The document's trees: cortegeref7.Under, May are the tree's. Conditions: none. -/
import Derived.Test.YtjmmmpnpkialjaaDoorRfP
import Derived.Laws.StructEq
namespace Go.Proofs.YtjmmmpnpkialjaaDoor
open Go.RowKit Go.Shelf

/-- A path under another one, told as the document tells it. -/
theorem underB_law (p q : ByteArray) : underB p q = (decide (q.size < p.size) && ((p.extract 0 q.size).toList == q.toList) && (((sb p).getD q.size 0) == 47)) := by
  have hz : (q ++ slash).size = q.size + 1 := by rw [ByteArray.size_append]; rfl
  have hsl : (sb p).length = p.size := sb_length p
  rw [underB, prefB, hz]
  by_cases h : q.size < p.size
  · rw [decide_eq_true (by omega : q.size + 1 ≤ p.size), decide_eq_true h]
    rw [Bool.eq_iff_iff]
    simp only [Bool.true_and, Bool.and_eq_true, beq_iff_eq]
    have hq : ∀ x : ByteArray, x.toList = x.data.toList := fun x => ByteArray.toList_eq x
    rw [hq, hq, hq, hq]
    have e1 : (p.extract 0 (q.size + 1)).data.toList = (sb p).take (q.size + 1) := by simp [sb, ByteArray.data_extract]
    have e2 : (p.extract 0 q.size).data.toList = (sb p).take q.size := by simp [sb, ByteArray.data_extract]
    have e3 : (q ++ slash).data.toList = q.data.toList ++ [47] := by rw [ByteArray.data_append]; simp [slash]
    have hql : q.data.toList.length = q.size := sb_length q
    rw [e1, e2, e3, List.take_succ_eq_append_getElem (by omega), List.getD_eq_getElem?_getD, List.getElem?_eq_getElem (by omega), Option.getD_some]
    constructor
    · intro e
      have := List.append_inj e (by rw [List.length_take, hql]; omega)
      exact ⟨this.1, by simpa using this.2⟩
    · rintro ⟨a, b⟩
      rw [a, b]
  · rw [decide_eq_false (by omega : ¬ q.size + 1 ≤ p.size), decide_eq_false h]; rfl
set_option maxRecDepth 100000 in
theorem ref7_Under (w : World) (p q : ByteArray) (hp : p.size ≤ maxLen) (hq : q.size ≤ maxLen) : Calls Tryd.prog 94 #[.string p, .string q] w fun e w' => e = .returned (.bool (underB p q)) ∧ w' = w := by
  obtain ⟨r, hr⟩ : ∃ r, r = underB p q := ⟨_, rfl⟩
  have hl := hr.trans (underB_law p q)
  rw [← hr]
  have hm1 : p.size ≤ 9223372036854775807 := by unfold maxLen at hp; omega
  have hm2 : q.size ≤ 9223372036854775807 := by unfold maxLen at hq; omega
  clear hr hp hq
  by_cases h : q.size < p.size
  · have d1 : decide ((p.size : Int) > (q.size : Int)) = true := decide_eq_true (by omega)
    have d1' : decide (q.size < p.size) = true := decide_eq_true h
    cases h2 : ((p.extract 0 q.size).toList == q.toList) with
    | false =>
      have HR : Hid (r = false) := hide (by rw [hl, h2]; simp)
      clear hl
      go_enter Tryd.func94, Tryd.ntmps94
      go_wp2_with fail
      go_ret
      exact ⟨ret_bool HR.out.symm, rfl⟩
    | true =>
      have hg : (sb p).getD q.size 0 = p[q.size] := by
        have h' : q.size < p.data.toList.length := by have := sb_length p; rw [← this] at h; exact h
        show p.data.toList.getD q.size 0 = p.data[q.size]
        rw [List.getD_eq_getElem?_getD, List.getElem?_eq_getElem h', Option.getD_some, Array.getElem_toList]
      have HR : Hid (r = ((p[q.size].toNat : Int) == 47)) := hide (by
        rw [hl, h2, hg, decide_eq_true h, Bool.eq_iff_iff]
        simp only [Bool.true_and, beq_iff_eq]
        exact ⟨fun h => by rw [h]; rfl, fun h => UInt8.toNat_inj.1 (by have h5 : (47 : UInt8).toNat = 47 := rfl; omega)⟩)
      clear hl hg
      go_enter Tryd.func94, Tryd.ntmps94
      go_wp2_with fail
      go_ret
      exact ⟨ret_bool HR.out.symm, rfl⟩
  · have d1 : decide ((p.size : Int) > (q.size : Int)) = false := decide_eq_false (by omega)
    have d1' : decide (q.size < p.size) = false := decide_eq_false h
    have HR : Hid (r = false) := hide (by rw [hl, decide_eq_false h]; rfl)
    clear hl
    go_enter Tryd.func94, Tryd.ntmps94
    go_wp2_with fail
    go_ret
    exact ⟨ret_bool HR.out.symm, rfl⟩

set_option maxRecDepth 100000 in
set_option maxHeartbeats 4000000 in
theorem ref7_May (w : World) (vt : Value) (t : List Fl) (ht : Rd w vt t.length (flat fl_enc t)) (hsz : ∀ f ∈ t, f.path.size ≤ 100000) :
    Calls Tryd.prog 71 #[vt] w fun e w' => e = .returned (.bool (mayT t)) ∧ Below w.heap.size w w' := by
  obtain ⟨ao, ca, rfl, hca, -⟩ := ht.shape
  obtain ⟨r, hr⟩ : ∃ r, r = mayT t := ⟨_, rfl⟩
  rw [← hr]
  by_cases hl : t.length ≤ 12
  · have d1 : decide ((t.length : Int) > 12) = false := decide_eq_false (by omega)
    have HR := hide hr
    have HT := hide ht
    have HL := hide hl
    have HSZ := hide hsz
    clear ht hr hl hca hsz
    go_enter Tryd.func71, Tryd.ntmps71
    go_wp2_with fail
    go_loopw [3] (fun i wr => ∃ k : Nat, k ≤ t.length ∧ i = .int .i64 k ∧ Hid (∀ j, j < k → okAt t j = true) ∧ Hid (Chg (fun _ => False) w wr)) (fun i _ => t.length - (intOf i).toNat)
    case atStart => exact ⟨0, Nat.zero_le _, rfl, (fun j h => by omega), Chg.refl _ _⟩
    case round =>
      obtain ⟨k, hk, rfl, HN, HC⟩ := hrel
      obtain ⟨wo, rfl⟩ : ∃ wo : World, wo = wr := ⟨_, rfl⟩
      by_cases hkl : k < t.length
      · have hrd := HT.out.chg HC.out (fun _ _ _ h => h)
        obtain ⟨a', c', e, -, hcs0⟩ := hrd.shape
        obtain ⟨b, off, rfl, hcs⟩ := hcs0 (by omega)
        cases e
        obtain ⟨hf0, hf1⟩ := fl_cells wo b off t hcs k hkl
        have hfa : flAt t k = t[k] := flAt_lt hkl
        have hpx := (fl_cells wo b off t hcs (k - 1) (by omega)).1
        have hfp : flAt t (k - 1) = t[k - 1] := flAt_lt (by omega)
        have HKL := hide hkl
        have HCS := hide hcs
        have hps : t[k].path.size ≤ 100000 := HSZ.out _ (List.getElem_mem hkl)
        have h1 := @okAt_1 t k
        have h2 := @okAt_2 t k
        have h3 := @okAt_3 t k
        have h4 := @okAt_4 t k
        rw [hfa] at h1 h2 h3 h4
        rw [hfp] at h3 h4
        have HPC0 := fun W => hide (ref7_Path W t[k].path (by unfold maxLen; omega))
        have HUN := hide (fun W (j : Nat) (hj : j < t.length) => ref7_Under W t[k].path t[j].path (by unfold maxLen; omega) (by have := HSZ.out _ (List.getElem_mem hj); unfold maxLen; omega))
        have HF0 : Hid (wo.cell? ⟨b, off + k * 2, none⟩ = some (.string t[k].path)) := hide hf0
        clear hcs hcs0 hrd hfa hfp hps
        generalize t[k - 1].path = pp at hpx h3 h4
        generalize hfpe : t[k].path = fp at *
        have HFP := hide hfpe
        clear hfpe
        generalize t[k].data = fd at *
        cases hpb : pathB fp with
        | false =>
          have HNO := hide (mayT_no hkl (h1 hpb))
          have HPC : Hid (∀ W, _) := hide (fun W => (HPC0 W).out)
          rw [hpb] at HPC
          clear h1 h2 h3 h4 HPC0 hpb hpx HUN
          go_wp2_with fail
          refine reg_start (Chg (fun _ => False) wo) 34 34 (by rfl) (by kernel_rfl) (Chg.drew _ _) ?_
          intro hS0
          have hSc := hS0
          refine reg_take (i := 0) (v := ?g2v) rfl (by kernel_rfl) (by kernel_rfl) (by kernel_rfl) (by kernel_rfl) (fun _ _ _ h => h) (by rfl) ?g2y (by assumption) ?g2r
          case g2y => (intro W hS; first | (go_simp; done) | (go_simp; with_reducible rfl))
          simp only [Act.put, List.setIfInBounds_toArray, List.set_cons_zero, List.set_cons_succ]
          refine reg_take (i := 1) (v := ?g3v) rfl (by kernel_rfl) (by kernel_rfl) (by kernel_rfl) (by kernel_rfl) (fun _ _ _ h => h) (by rfl) ?g3y (by assumption) ?g3r
          case g3y => (intro W hS; first | (go_simp; done) | (go_simp; with_reducible rfl))
          simp only [Act.put, List.setIfInBounds_toArray, List.set_cons_zero, List.set_cons_succ]
          refine reg_take (i := 2) (v := ?g4v) rfl (by kernel_rfl) (by kernel_rfl) (by kernel_rfl) (by kernel_rfl) (fun _ _ _ h => h) (by rfl) ?g4y (by assumption) ?g4r
          case g4y => (intro W hS; first | (go_simp; done) | (go_simp; with_reducible rfl))
          simp only [Act.put, List.setIfInBounds_toArray, List.set_cons_zero, List.set_cons_succ]
          refine reg_take (i := 3) (v := ?g5v) rfl (by kernel_rfl) (by kernel_rfl) (by kernel_rfl) (by kernel_rfl) (fun _ _ _ h => h) (by rfl) ?g5y (by assumption) ?g5r
          case g5y => (intro W hS; first | (go_simp; done) | (go_simp; with_reducible rfl))
          simp only [Act.put, List.setIfInBounds_toArray, List.set_cons_zero, List.set_cons_succ]
          refine reg_take (i := 4) (v := ?g6v) rfl (by kernel_rfl) (by kernel_rfl) (by kernel_rfl) (by kernel_rfl) (fun _ _ _ h => h) (by rfl) ?g6y (by assumption) ?g6r
          case g6y => (intro W hS; have f0 := hS.cell hf0 (fun h => h); have f1 := hS.cell hf1 (fun h => h); first | (go_simp; done) | (go_simp; with_reducible rfl))
          simp only [Act.put, List.setIfInBounds_toArray, List.set_cons_zero, List.set_cons_succ]
          refine reg_one (i := 5) (by kernel_rfl) ?_
          refine op_call (i := 5) (#[.string fp]) rfl (by rfl) (enters_of Tryd.func93 (by kernel_rfl) rfl) (by first | (simp [Act.eval]; done) | rfl | (simp only [List.map_toArray, List.map_cons, List.map_nil, Act.eval]; rfl) | (simp [Act.eval]; trace_state; done)) ?_
          refine (HPC.out _).mono ?_
          rintro e W3 ⟨rfl, rfl⟩
          refine ⟨_, rfl, hSc, ?_⟩
          simp only [Act.put, List.setIfInBounds_toArray, List.set_cons_zero, List.set_cons_succ]
          refine reg_take (i := 6) (v := ?g7v) rfl (by kernel_rfl) (by kernel_rfl) (by kernel_rfl) (by kernel_rfl) (fun _ _ _ h => h) (by rfl) ?g7y (by assumption) ?g7r
          case g7y => (intro W hS; first | (go_simp; done) | (go_simp; with_reducible rfl))
          simp only [Act.put, List.setIfInBounds_toArray, List.set_cons_zero, List.set_cons_succ]
          refine reg_take (i := 7) (v := ?g8v) rfl (by kernel_rfl) (by kernel_rfl) (by kernel_rfl) (by kernel_rfl) (fun _ _ _ h => h) (by rfl) ?g8y (by assumption) ?g8r
          case g8y => (intro W hS; first | (go_simp; done) | (go_simp; with_reducible rfl))
          simp only [Act.put, List.setIfInBounds_toArray, List.set_cons_zero, List.set_cons_succ]
          refine reg_skip (i := 8) rfl (by kernel_rfl) (by kernel_rfl) (by kernel_rfl) (by kernel_rfl) (fun _ _ _ h => h) (by rfl) (by assumption) ?_
          simp only [Act.put, List.setIfInBounds_toArray, List.set_cons_zero, List.set_cons_succ]
          refine reg_skip (i := 9) rfl (by kernel_rfl) (by kernel_rfl) (by kernel_rfl) (by kernel_rfl) (fun _ _ _ h => h) (by rfl) (by assumption) ?_
          simp only [Act.put, List.setIfInBounds_toArray, List.set_cons_zero, List.set_cons_succ]
          refine reg_skip (i := 10) rfl (by kernel_rfl) (by kernel_rfl) (by kernel_rfl) (by kernel_rfl) (fun _ _ _ h => h) (by rfl) (by assumption) ?_
          simp only [Act.put, List.setIfInBounds_toArray, List.set_cons_zero, List.set_cons_succ]
          refine reg_skip (i := 11) rfl (by kernel_rfl) (by kernel_rfl) (by kernel_rfl) (by kernel_rfl) (fun _ _ _ h => h) (by rfl) (by assumption) ?_
          simp only [Act.put, List.setIfInBounds_toArray, List.set_cons_zero, List.set_cons_succ]
          refine reg_skip (i := 12) rfl (by kernel_rfl) (by kernel_rfl) (by kernel_rfl) (by kernel_rfl) (fun _ _ _ h => h) (by rfl) (by assumption) ?_
          simp only [Act.put, List.setIfInBounds_toArray, List.set_cons_zero, List.set_cons_succ]
          refine reg_skip (i := 13) rfl (by kernel_rfl) (by kernel_rfl) (by kernel_rfl) (by kernel_rfl) (fun _ _ _ h => h) (by rfl) (by assumption) ?_
          simp only [Act.put, List.setIfInBounds_toArray, List.set_cons_zero, List.set_cons_succ]
          refine reg_skip (i := 14) rfl (by kernel_rfl) (by kernel_rfl) (by kernel_rfl) (by kernel_rfl) (fun _ _ _ h => h) (by rfl) (by assumption) ?_
          simp only [Act.put, List.setIfInBounds_toArray, List.set_cons_zero, List.set_cons_succ]
          refine reg_take (i := 15) (v := ?g9v) rfl (by kernel_rfl) (by kernel_rfl) (by kernel_rfl) (by kernel_rfl) (fun _ _ _ h => h) (by rfl) ?g9y (by assumption) ?g9r
          case g9y => (intro W hS; first | (go_simp; done) | (go_simp; with_reducible rfl))
          simp only [Act.put, List.setIfInBounds_toArray, List.set_cons_zero, List.set_cons_succ]
          refine reg_take (i := 16) (v := ?g10v) rfl (by kernel_rfl) (by kernel_rfl) (by kernel_rfl) (by kernel_rfl) (fun _ _ _ h => h) (by rfl) ?g10y (by assumption) ?g10r
          case g10y => (intro W hS; first | (go_simp; done) | (go_simp; with_reducible rfl))
          simp only [Act.put, List.setIfInBounds_toArray, List.set_cons_zero, List.set_cons_succ]
          refine reg_skip (i := 17) rfl (by kernel_rfl) (by kernel_rfl) (by kernel_rfl) (by kernel_rfl) (fun _ _ _ h => h) (by rfl) (by assumption) ?_
          simp only [Act.put, List.setIfInBounds_toArray, List.set_cons_zero, List.set_cons_succ]
          refine reg_skip (i := 18) rfl (by kernel_rfl) (by kernel_rfl) (by kernel_rfl) (by kernel_rfl) (fun _ _ _ h => h) (by rfl) (by assumption) ?_
          simp only [Act.put, List.setIfInBounds_toArray, List.set_cons_zero, List.set_cons_succ]
          refine reg_skip (i := 19) rfl (by kernel_rfl) (by kernel_rfl) (by kernel_rfl) (by kernel_rfl) (fun _ _ _ h => h) (by rfl) (by assumption) ?_
          simp only [Act.put, List.setIfInBounds_toArray, List.set_cons_zero, List.set_cons_succ]
          refine reg_skip (i := 20) rfl (by kernel_rfl) (by kernel_rfl) (by kernel_rfl) (by kernel_rfl) (fun _ _ _ h => h) (by rfl) (by assumption) ?_
          simp only [Act.put, List.setIfInBounds_toArray, List.set_cons_zero, List.set_cons_succ]
          refine reg_skip (i := 21) rfl (by kernel_rfl) (by kernel_rfl) (by kernel_rfl) (by kernel_rfl) (fun _ _ _ h => h) (by rfl) (by assumption) ?_
          simp only [Act.put, List.setIfInBounds_toArray, List.set_cons_zero, List.set_cons_succ]
          refine reg_skip (i := 22) rfl (by kernel_rfl) (by kernel_rfl) (by kernel_rfl) (by kernel_rfl) (fun _ _ _ h => h) (by rfl) (by assumption) ?_
          simp only [Act.put, List.setIfInBounds_toArray, List.set_cons_zero, List.set_cons_succ]
          refine reg_skip (i := 23) rfl (by kernel_rfl) (by kernel_rfl) (by kernel_rfl) (by kernel_rfl) (fun _ _ _ h => h) (by rfl) (by assumption) ?_
          simp only [Act.put, List.setIfInBounds_toArray, List.set_cons_zero, List.set_cons_succ]
          refine reg_skip (i := 24) rfl (by kernel_rfl) (by kernel_rfl) (by kernel_rfl) (by kernel_rfl) (fun _ _ _ h => h) (by rfl) (by assumption) ?_
          simp only [Act.put, List.setIfInBounds_toArray, List.set_cons_zero, List.set_cons_succ]
          refine reg_skip (i := 25) rfl (by kernel_rfl) (by kernel_rfl) (by kernel_rfl) (by kernel_rfl) (fun _ _ _ h => h) (by rfl) (by assumption) ?_
          simp only [Act.put, List.setIfInBounds_toArray, List.set_cons_zero, List.set_cons_succ]
          refine reg_skip (i := 26) rfl (by kernel_rfl) (by kernel_rfl) (by kernel_rfl) (by kernel_rfl) (fun _ _ _ h => h) (by rfl) (by assumption) ?_
          simp only [Act.put, List.setIfInBounds_toArray, List.set_cons_zero, List.set_cons_succ]
          refine reg_skip (i := 27) rfl (by kernel_rfl) (by kernel_rfl) (by kernel_rfl) (by kernel_rfl) (fun _ _ _ h => h) (by rfl) (by assumption) ?_
          simp only [Act.put, List.setIfInBounds_toArray, List.set_cons_zero, List.set_cons_succ]
          refine reg_skip (i := 28) rfl (by kernel_rfl) (by kernel_rfl) (by kernel_rfl) (by kernel_rfl) (fun _ _ _ h => h) (by rfl) (by assumption) ?_
          simp only [Act.put, List.setIfInBounds_toArray, List.set_cons_zero, List.set_cons_succ]
          refine reg_skip (i := 29) rfl (by kernel_rfl) (by kernel_rfl) (by kernel_rfl) (by kernel_rfl) (fun _ _ _ h => h) (by rfl) (by assumption) ?_
          simp only [Act.put, List.setIfInBounds_toArray, List.set_cons_zero, List.set_cons_succ]
          refine reg_skip (i := 30) rfl (by kernel_rfl) (by kernel_rfl) (by kernel_rfl) (by kernel_rfl) (fun _ _ _ h => h) (by rfl) (by assumption) ?_
          simp only [Act.put, List.setIfInBounds_toArray, List.set_cons_zero, List.set_cons_succ]
          refine reg_skip (i := 31) rfl (by kernel_rfl) (by kernel_rfl) (by kernel_rfl) (by kernel_rfl) (fun _ _ _ h => h) (by rfl) (by assumption) ?_
          simp only [Act.put, List.setIfInBounds_toArray, List.set_cons_zero, List.set_cons_succ]
          refine reg_skip (i := 32) rfl (by kernel_rfl) (by kernel_rfl) (by kernel_rfl) (by kernel_rfl) (fun _ _ _ h => h) (by rfl) (by assumption) ?_
          simp only [Act.put, List.setIfInBounds_toArray, List.set_cons_zero, List.set_cons_succ]
          refine reg_take (i := 33) (v := ?g11v) rfl (by kernel_rfl) (by kernel_rfl) (by kernel_rfl) (by kernel_rfl) (fun _ _ _ h => h) (by rfl) ?g11y (by assumption) ?g11r
          case g11y => (intro W hS; first | (go_simp; done) | (go_simp; with_reducible rfl))
          simp only [Act.put, List.setIfInBounds_toArray, List.set_cons_zero, List.set_cons_succ]
          refine wpAnyG_done (by kernel_rfl) ?_ _
          have HC3 := hide (HC.out.trans hSc (S'' := fun _ => False) (fun _ _ h => h) (fun _ _ h => h))
          clear hS0 hSc
          go_wp2_with fail
          go_ret
          exact ⟨ret_bool (HR.out.trans HNO.out).symm, HC3.out.below (Nat.le_refl _) (fun _ _ h => h)⟩
        | true =>
          have HPC : Hid (∀ W, _) := hide (fun W => (HPC0 W).out)
          rw [hpb] at HPC
          clear HPC0
          by_cases hz : fd.size ≤ 400
          · have dz : decide ((fd.size : Int) > 400) = false := decide_eq_false (by omega)
            by_cases hk0 : 0 < k
            · have dk : decide ((k : Int) > 0) = true := decide_eq_true (by omega)
              have hkk : (k : Int) - 1 = ((k - 1 : Nat) : Int) := by omega
              have hl12 := HL.out
              have hwr : IntKind.i64.wrap ((k - 1 : Nat) : Int) = ((k - 1 : Nat) : Int) := (IntKind.wrap_i64 _).trans (by omega)
              have hlk : ((k - 1 : Nat) : Int) < (t.length : Int) := by omega
              cases hge : geB pp fp with
              | true =>
                have HNO := hide (mayT_no hkl (h3 hk0 hge))
                have hge' : (!(Op.bytesLess pp.toList fp.toList)) = true := hge
                clear h1 h2 h3 h4 hpb hge HUN
                go_wp2_with fail
                refine reg_start (Chg (fun _ => False) wo) 34 34 (by rfl) (by kernel_rfl) (Chg.drew _ _) ?_
                intro hS0
                have hSc := hS0
                refine reg_take (i := 0) (v := ?g13v) rfl (by kernel_rfl) (by kernel_rfl) (by kernel_rfl) (by kernel_rfl) (fun _ _ _ h => h) (by rfl) ?g13y (by assumption) ?g13r
                case g13y => (intro W hS; first | (go_simp; done) | (go_simp; with_reducible rfl))
                simp only [Act.put, List.setIfInBounds_toArray, List.set_cons_zero, List.set_cons_succ]
                refine reg_take (i := 1) (v := ?g14v) rfl (by kernel_rfl) (by kernel_rfl) (by kernel_rfl) (by kernel_rfl) (fun _ _ _ h => h) (by rfl) ?g14y (by assumption) ?g14r
                case g14y => (intro W hS; first | (go_simp; done) | (go_simp; with_reducible rfl))
                simp only [Act.put, List.setIfInBounds_toArray, List.set_cons_zero, List.set_cons_succ]
                refine reg_take (i := 2) (v := ?g15v) rfl (by kernel_rfl) (by kernel_rfl) (by kernel_rfl) (by kernel_rfl) (fun _ _ _ h => h) (by rfl) ?g15y (by assumption) ?g15r
                case g15y => (intro W hS; first | (go_simp; done) | (go_simp; with_reducible rfl))
                simp only [Act.put, List.setIfInBounds_toArray, List.set_cons_zero, List.set_cons_succ]
                refine reg_take (i := 3) (v := ?g16v) rfl (by kernel_rfl) (by kernel_rfl) (by kernel_rfl) (by kernel_rfl) (fun _ _ _ h => h) (by rfl) ?g16y (by assumption) ?g16r
                case g16y => (intro W hS; first | (go_simp; done) | (go_simp; with_reducible rfl))
                simp only [Act.put, List.setIfInBounds_toArray, List.set_cons_zero, List.set_cons_succ]
                refine reg_take (i := 4) (v := ?g17v) rfl (by kernel_rfl) (by kernel_rfl) (by kernel_rfl) (by kernel_rfl) (fun _ _ _ h => h) (by rfl) ?g17y (by assumption) ?g17r
                case g17y => (intro W hS; have f0 := hS.cell hf0 (fun h => h); have f1 := hS.cell hf1 (fun h => h); have f2 := hS.cell hpx (fun h => h); first | (go_simp; done) | (go_simp; with_reducible rfl))
                simp only [Act.put, List.setIfInBounds_toArray, List.set_cons_zero, List.set_cons_succ]
                refine reg_one (i := 5) (by kernel_rfl) ?_
                refine op_call (i := 5) (#[.string fp]) rfl (by rfl) (enters_of Tryd.func93 (by kernel_rfl) rfl) (by first | (simp [Act.eval]; done) | rfl | (simp only [List.map_toArray, List.map_cons, List.map_nil, Act.eval]; rfl) | (simp [Act.eval]; trace_state; done)) ?_
                refine (HPC.out _).mono ?_
                rintro e W3 ⟨rfl, rfl⟩
                refine ⟨_, rfl, hSc, ?_⟩
                simp only [Act.put, List.setIfInBounds_toArray, List.set_cons_zero, List.set_cons_succ]
                refine reg_take (i := 6) (v := ?g18v) rfl (by kernel_rfl) (by kernel_rfl) (by kernel_rfl) (by kernel_rfl) (fun _ _ _ h => h) (by rfl) ?g18y (by assumption) ?g18r
                case g18y => (intro W hS; first | (go_simp; done) | (go_simp; with_reducible rfl))
                simp only [Act.put, List.setIfInBounds_toArray, List.set_cons_zero, List.set_cons_succ]
                refine reg_take (i := 7) (v := ?g19v) rfl (by kernel_rfl) (by kernel_rfl) (by kernel_rfl) (by kernel_rfl) (fun _ _ _ h => h) (by rfl) ?g19y (by assumption) ?g19r
                case g19y => (intro W hS; first | (go_simp; done) | (go_simp; with_reducible rfl))
                simp only [Act.put, List.setIfInBounds_toArray, List.set_cons_zero, List.set_cons_succ]
                refine reg_take (i := 8) (v := ?g20v) rfl (by kernel_rfl) (by kernel_rfl) (by kernel_rfl) (by kernel_rfl) (fun _ _ _ h => h) (by rfl) ?g20y (by assumption) ?g20r
                case g20y => (intro W hS; first | (go_simp; done) | (go_simp; with_reducible rfl))
                simp only [Act.put, List.setIfInBounds_toArray, List.set_cons_zero, List.set_cons_succ]
                refine reg_take (i := 9) (v := ?g21v) rfl (by kernel_rfl) (by kernel_rfl) (by kernel_rfl) (by kernel_rfl) (fun _ _ _ h => h) (by rfl) ?g21y (by assumption) ?g21r
                case g21y => (intro W hS; first | (go_simp; done) | (go_simp; with_reducible rfl))
                simp only [Act.put, List.setIfInBounds_toArray, List.set_cons_zero, List.set_cons_succ]
                refine reg_take (i := 10) (v := ?g22v) rfl (by kernel_rfl) (by kernel_rfl) (by kernel_rfl) (by kernel_rfl) (fun _ _ _ h => h) (by rfl) ?g22y (by assumption) ?g22r
                case g22y => (intro W hS; first | (go_simp; done) | (go_simp; with_reducible rfl))
                simp only [Act.put, List.setIfInBounds_toArray, List.set_cons_zero, List.set_cons_succ]
                refine reg_take (i := 11) (v := ?g23v) rfl (by kernel_rfl) (by kernel_rfl) (by kernel_rfl) (by kernel_rfl) (fun _ _ _ h => h) (by rfl) ?g23y (by assumption) ?g23r
                case g23y => (intro W hS; first | (go_simp; done) | (go_simp; with_reducible rfl))
                simp only [Act.put, List.setIfInBounds_toArray, List.set_cons_zero, List.set_cons_succ]
                refine reg_take (i := 12) (v := ?g24v) rfl (by kernel_rfl) (by kernel_rfl) (by kernel_rfl) (by kernel_rfl) (fun _ _ _ h => h) (by rfl) ?g24y (by assumption) ?g24r
                case g24y => (intro W hS; have f0 := hS.cell hf0 (fun h => h); have f1 := hS.cell hf1 (fun h => h); have f2 := hS.cell hpx (fun h => h); first | (go_simp; done) | (go_simp; with_reducible rfl))
                simp only [Act.put, List.setIfInBounds_toArray, List.set_cons_zero, List.set_cons_succ]
                refine reg_take (i := 13) (v := ?g25v) rfl (by kernel_rfl) (by kernel_rfl) (by kernel_rfl) (by kernel_rfl) (fun _ _ _ h => h) (by rfl) ?g25y (by assumption) ?g25r
                case g25y => (intro W hS; first | (go_simp; done) | (go_simp; with_reducible rfl))
                simp only [Act.put, List.setIfInBounds_toArray, List.set_cons_zero, List.set_cons_succ]
                refine reg_take (i := 14) (v := ?g26v) rfl (by kernel_rfl) (by kernel_rfl) (by kernel_rfl) (by kernel_rfl) (fun _ _ _ h => h) (by rfl) ?g26y (by assumption) ?g26r
                case g26y => (intro W hS; first | (go_simp; done) | (go_simp; with_reducible rfl))
                simp only [Act.put, List.setIfInBounds_toArray, List.set_cons_zero, List.set_cons_succ]
                refine reg_take (i := 15) (v := ?g27v) rfl (by kernel_rfl) (by kernel_rfl) (by kernel_rfl) (by kernel_rfl) (fun _ _ _ h => h) (by rfl) ?g27y (by assumption) ?g27r
                case g27y => (intro W hS; first | (go_simp; done) | (go_simp; with_reducible rfl))
                simp only [Act.put, List.setIfInBounds_toArray, List.set_cons_zero, List.set_cons_succ]
                refine reg_take (i := 16) (v := ?g28v) rfl (by kernel_rfl) (by kernel_rfl) (by kernel_rfl) (by kernel_rfl) (fun _ _ _ h => h) (by rfl) ?g28y (by assumption) ?g28r
                case g28y => (intro W hS; first | (go_simp; done) | (go_simp; with_reducible rfl))
                simp only [Act.put, List.setIfInBounds_toArray, List.set_cons_zero, List.set_cons_succ]
                refine reg_take (i := 17) (v := ?g29v) rfl (by kernel_rfl) (by kernel_rfl) (by kernel_rfl) (by kernel_rfl) (fun _ _ _ h => h) (by rfl) ?g29y (by assumption) ?g29r
                case g29y => (intro W hS; first | (go_simp; done) | (go_simp; with_reducible rfl))
                simp only [Act.put, List.setIfInBounds_toArray, List.set_cons_zero, List.set_cons_succ]
                refine reg_take (i := 18) (v := ?g30v) rfl (by kernel_rfl) (by kernel_rfl) (by kernel_rfl) (by kernel_rfl) (fun _ _ _ h => h) (by rfl) ?g30y (by assumption) ?g30r
                case g30y => (intro W hS; first | (go_simp; done) | (go_simp; with_reducible rfl))
                simp only [Act.put, List.setIfInBounds_toArray, List.set_cons_zero, List.set_cons_succ]
                refine reg_take (i := 19) (v := ?g31v) rfl (by kernel_rfl) (by kernel_rfl) (by kernel_rfl) (by kernel_rfl) (fun _ _ _ h => h) (by rfl) ?g31y (by assumption) ?g31r
                case g31y => (intro W hS; first | (go_simp; done) | (go_simp; with_reducible rfl))
                simp only [Act.put, List.setIfInBounds_toArray, List.set_cons_zero, List.set_cons_succ]
                refine reg_take (i := 20) (v := ?g32v) rfl (by kernel_rfl) (by kernel_rfl) (by kernel_rfl) (by kernel_rfl) (fun _ _ _ h => h) (by rfl) ?g32y (by assumption) ?g32r
                case g32y => (intro W hS; first | (go_simp; done) | (go_simp; with_reducible rfl))
                simp only [Act.put, List.setIfInBounds_toArray, List.set_cons_zero, List.set_cons_succ]
                refine reg_take (i := 21) (v := ?g33v) rfl (by kernel_rfl) (by kernel_rfl) (by kernel_rfl) (by kernel_rfl) (fun _ _ _ h => h) (by rfl) ?g33y (by assumption) ?g33r
                case g33y => (intro W hS; first | (go_simp; done) | (go_simp; with_reducible rfl))
                simp only [Act.put, List.setIfInBounds_toArray, List.set_cons_zero, List.set_cons_succ]
                refine reg_take (i := 22) (v := ?g34v) rfl (by kernel_rfl) (by kernel_rfl) (by kernel_rfl) (by kernel_rfl) (fun _ _ _ h => h) (by rfl) ?g34y (by assumption) ?g34r
                case g34y => (intro W hS; first | (go_simp; done) | (go_simp; with_reducible rfl))
                simp only [Act.put, List.setIfInBounds_toArray, List.set_cons_zero, List.set_cons_succ]
                refine reg_take (i := 23) (v := ?g35v) rfl (by kernel_rfl) (by kernel_rfl) (by kernel_rfl) (by kernel_rfl) (fun _ _ _ h => h) (by rfl) ?g35y (by assumption) ?g35r
                case g35y => (intro W hS; first | (go_simp; done) | (go_simp; with_reducible rfl))
                simp only [Act.put, List.setIfInBounds_toArray, List.set_cons_zero, List.set_cons_succ]
                refine reg_take (i := 24) (v := ?g36v) rfl (by kernel_rfl) (by kernel_rfl) (by kernel_rfl) (by kernel_rfl) (fun _ _ _ h => h) (by rfl) ?g36y (by assumption) ?g36r
                case g36y => (intro W hS; first | (go_simp; done) | (go_simp; with_reducible rfl))
                simp only [Act.put, List.setIfInBounds_toArray, List.set_cons_zero, List.set_cons_succ]
                refine reg_take (i := 25) (v := ?g37v) rfl (by kernel_rfl) (by kernel_rfl) (by kernel_rfl) (by kernel_rfl) (fun _ _ _ h => h) (by rfl) ?g37y (by assumption) ?g37r
                case g37y => (intro W hS; have f0 := hS.cell hf0 (fun h => h); have f1 := hS.cell hf1 (fun h => h); have f2 := hS.cell hpx (fun h => h); first | (go_simp; done) | (go_simp; with_reducible rfl))
                simp only [Act.put, List.setIfInBounds_toArray, List.set_cons_zero, List.set_cons_succ]
                refine reg_take (i := 26) (v := ?g38v) rfl (by kernel_rfl) (by kernel_rfl) (by kernel_rfl) (by kernel_rfl) (fun _ _ _ h => h) (by rfl) ?g38y (by assumption) ?g38r
                case g38y => (intro W hS; first | (go_simp; done) | (go_simp; with_reducible rfl))
                simp only [Act.put, List.setIfInBounds_toArray, List.set_cons_zero, List.set_cons_succ]
                refine reg_take (i := 27) (v := ?g39v) rfl (by kernel_rfl) (by kernel_rfl) (by kernel_rfl) (by kernel_rfl) (fun _ _ _ h => h) (by rfl) ?g39y (by assumption) ?g39r
                case g39y => (intro W hS; first | (go_simp; done) | (go_simp; with_reducible rfl))
                simp only [Act.put, List.setIfInBounds_toArray, List.set_cons_zero, List.set_cons_succ]
                refine reg_take (i := 28) (v := ?g40v) rfl (by kernel_rfl) (by kernel_rfl) (by kernel_rfl) (by kernel_rfl) (fun _ _ _ h => h) (by rfl) ?g40y (by assumption) ?g40r
                case g40y => (intro W hS; first | (go_simp; done) | (go_simp; with_reducible rfl))
                simp only [Act.put, List.setIfInBounds_toArray, List.set_cons_zero, List.set_cons_succ]
                refine reg_take (i := 29) (v := ?g41v) rfl (by kernel_rfl) (by kernel_rfl) (by kernel_rfl) (by kernel_rfl) (fun _ _ _ h => h) (by rfl) ?g41y (by assumption) ?g41r
                case g41y => (intro W hS; first | (go_simp; done) | (go_simp; with_reducible rfl))
                simp only [Act.put, List.setIfInBounds_toArray, List.set_cons_zero, List.set_cons_succ]
                refine reg_take (i := 30) (v := ?g42v) rfl (by kernel_rfl) (by kernel_rfl) (by kernel_rfl) (by kernel_rfl) (fun _ _ _ h => h) (by rfl) ?g42y (by assumption) ?g42r
                case g42y => (intro W hS; have f0 := hS.cell hf0 (fun h => h); have f1 := hS.cell hf1 (fun h => h); have f2 := hS.cell hpx (fun h => h); first | (go_simp; done) | (go_simp; with_reducible rfl))
                simp only [Act.put, List.setIfInBounds_toArray, List.set_cons_zero, List.set_cons_succ]
                refine reg_take (i := 31) (v := ?g43v) rfl (by kernel_rfl) (by kernel_rfl) (by kernel_rfl) (by kernel_rfl) (fun _ _ _ h => h) (by rfl) ?g43y (by assumption) ?g43r
                case g43y => (intro W hS; first | (go_simp; done) | (go_simp; with_reducible rfl))
                simp only [Act.put, List.setIfInBounds_toArray, List.set_cons_zero, List.set_cons_succ]
                refine reg_take (i := 32) (v := ?g44v) rfl (by kernel_rfl) (by kernel_rfl) (by kernel_rfl) (by kernel_rfl) (fun _ _ _ h => h) (by rfl) ?g44y (by assumption) ?g44r
                case g44y => (intro W hS; first | (go_simp; done) | (go_simp; with_reducible rfl))
                simp only [Act.put, List.setIfInBounds_toArray, List.set_cons_zero, List.set_cons_succ]
                refine reg_take (i := 33) (v := ?g45v) rfl (by kernel_rfl) (by kernel_rfl) (by kernel_rfl) (by kernel_rfl) (fun _ _ _ h => h) (by rfl) ?g45y (by assumption) ?g45r
                case g45y => (intro W hS; first | (go_simp; done) | (go_simp; with_reducible rfl))
                simp only [Act.put, List.setIfInBounds_toArray, List.set_cons_zero, List.set_cons_succ]
                refine wpAnyG_done (by kernel_rfl) ?_ _
                have HC3 := hide (HC.out.trans hSc (S'' := fun _ => False) (fun _ _ h => h) (fun _ _ h => h))
                clear hS0 hSc
                go_wp2_with fail
                go_ret
                exact ⟨ret_bool (HR.out.trans HNO.out).symm, HC3.out.below (Nat.le_refl _) (fun _ _ h => h)⟩
              | false =>
                have HOKE := hide (h4 hpb hz (by rw [hge]; simp))
                have hge' : (!(Op.bytesLess pp.toList fp.toList)) = false := hge
                clear h1 h2 h3 h4 hpb hge
                go_wp2_with fail
                refine reg_start (Chg (fun _ => False) wo) 34 34 (by rfl) (by kernel_rfl) (Chg.drew _ _) ?_
                intro hS0
                have hSc := hS0
                refine reg_take (i := 0) (v := ?g47v) rfl (by kernel_rfl) (by kernel_rfl) (by kernel_rfl) (by kernel_rfl) (fun _ _ _ h => h) (by rfl) ?g47y (by assumption) ?g47r
                case g47y => (intro W hS; first | (go_simp; done) | (go_simp; with_reducible rfl))
                simp only [Act.put, List.setIfInBounds_toArray, List.set_cons_zero, List.set_cons_succ]
                refine reg_take (i := 1) (v := ?g48v) rfl (by kernel_rfl) (by kernel_rfl) (by kernel_rfl) (by kernel_rfl) (fun _ _ _ h => h) (by rfl) ?g48y (by assumption) ?g48r
                case g48y => (intro W hS; first | (go_simp; done) | (go_simp; with_reducible rfl))
                simp only [Act.put, List.setIfInBounds_toArray, List.set_cons_zero, List.set_cons_succ]
                refine reg_take (i := 2) (v := ?g49v) rfl (by kernel_rfl) (by kernel_rfl) (by kernel_rfl) (by kernel_rfl) (fun _ _ _ h => h) (by rfl) ?g49y (by assumption) ?g49r
                case g49y => (intro W hS; first | (go_simp; done) | (go_simp; with_reducible rfl))
                simp only [Act.put, List.setIfInBounds_toArray, List.set_cons_zero, List.set_cons_succ]
                refine reg_take (i := 3) (v := ?g50v) rfl (by kernel_rfl) (by kernel_rfl) (by kernel_rfl) (by kernel_rfl) (fun _ _ _ h => h) (by rfl) ?g50y (by assumption) ?g50r
                case g50y => (intro W hS; first | (go_simp; done) | (go_simp; with_reducible rfl))
                simp only [Act.put, List.setIfInBounds_toArray, List.set_cons_zero, List.set_cons_succ]
                refine reg_take (i := 4) (v := ?g51v) rfl (by kernel_rfl) (by kernel_rfl) (by kernel_rfl) (by kernel_rfl) (fun _ _ _ h => h) (by rfl) ?g51y (by assumption) ?g51r
                case g51y => (intro W hS; have f0 := hS.cell hf0 (fun h => h); have f1 := hS.cell hf1 (fun h => h); have f2 := hS.cell hpx (fun h => h); first | (go_simp; done) | (go_simp; with_reducible rfl))
                simp only [Act.put, List.setIfInBounds_toArray, List.set_cons_zero, List.set_cons_succ]
                refine reg_one (i := 5) (by kernel_rfl) ?_
                refine op_call (i := 5) (#[.string fp]) rfl (by rfl) (enters_of Tryd.func93 (by kernel_rfl) rfl) (by first | (simp [Act.eval]; done) | rfl | (simp only [List.map_toArray, List.map_cons, List.map_nil, Act.eval]; rfl) | (simp [Act.eval]; trace_state; done)) ?_
                refine (HPC.out _).mono ?_
                rintro e W3 ⟨rfl, rfl⟩
                refine ⟨_, rfl, hSc, ?_⟩
                simp only [Act.put, List.setIfInBounds_toArray, List.set_cons_zero, List.set_cons_succ]
                refine reg_take (i := 6) (v := ?g52v) rfl (by kernel_rfl) (by kernel_rfl) (by kernel_rfl) (by kernel_rfl) (fun _ _ _ h => h) (by rfl) ?g52y (by assumption) ?g52r
                case g52y => (intro W hS; first | (go_simp; done) | (go_simp; with_reducible rfl))
                simp only [Act.put, List.setIfInBounds_toArray, List.set_cons_zero, List.set_cons_succ]
                refine reg_take (i := 7) (v := ?g53v) rfl (by kernel_rfl) (by kernel_rfl) (by kernel_rfl) (by kernel_rfl) (fun _ _ _ h => h) (by rfl) ?g53y (by assumption) ?g53r
                case g53y => (intro W hS; first | (go_simp; done) | (go_simp; with_reducible rfl))
                simp only [Act.put, List.setIfInBounds_toArray, List.set_cons_zero, List.set_cons_succ]
                refine reg_take (i := 8) (v := ?g54v) rfl (by kernel_rfl) (by kernel_rfl) (by kernel_rfl) (by kernel_rfl) (fun _ _ _ h => h) (by rfl) ?g54y (by assumption) ?g54r
                case g54y => (intro W hS; first | (go_simp; done) | (go_simp; with_reducible rfl))
                simp only [Act.put, List.setIfInBounds_toArray, List.set_cons_zero, List.set_cons_succ]
                refine reg_take (i := 9) (v := ?g55v) rfl (by kernel_rfl) (by kernel_rfl) (by kernel_rfl) (by kernel_rfl) (fun _ _ _ h => h) (by rfl) ?g55y (by assumption) ?g55r
                case g55y => (intro W hS; first | (go_simp; done) | (go_simp; with_reducible rfl))
                simp only [Act.put, List.setIfInBounds_toArray, List.set_cons_zero, List.set_cons_succ]
                refine reg_take (i := 10) (v := ?g56v) rfl (by kernel_rfl) (by kernel_rfl) (by kernel_rfl) (by kernel_rfl) (fun _ _ _ h => h) (by rfl) ?g56y (by assumption) ?g56r
                case g56y => (intro W hS; first | (go_simp; done) | (go_simp; with_reducible rfl))
                simp only [Act.put, List.setIfInBounds_toArray, List.set_cons_zero, List.set_cons_succ]
                refine reg_take (i := 11) (v := ?g57v) rfl (by kernel_rfl) (by kernel_rfl) (by kernel_rfl) (by kernel_rfl) (fun _ _ _ h => h) (by rfl) ?g57y (by assumption) ?g57r
                case g57y => (intro W hS; first | (go_simp; done) | (go_simp; with_reducible rfl))
                simp only [Act.put, List.setIfInBounds_toArray, List.set_cons_zero, List.set_cons_succ]
                refine reg_take (i := 12) (v := ?g58v) rfl (by kernel_rfl) (by kernel_rfl) (by kernel_rfl) (by kernel_rfl) (fun _ _ _ h => h) (by rfl) ?g58y (by assumption) ?g58r
                case g58y => (intro W hS; have f0 := hS.cell hf0 (fun h => h); have f1 := hS.cell hf1 (fun h => h); have f2 := hS.cell hpx (fun h => h); first | (go_simp; done) | (go_simp; with_reducible rfl))
                simp only [Act.put, List.setIfInBounds_toArray, List.set_cons_zero, List.set_cons_succ]
                refine reg_take (i := 13) (v := ?g59v) rfl (by kernel_rfl) (by kernel_rfl) (by kernel_rfl) (by kernel_rfl) (fun _ _ _ h => h) (by rfl) ?g59y (by assumption) ?g59r
                case g59y => (intro W hS; first | (go_simp; done) | (go_simp; with_reducible rfl))
                simp only [Act.put, List.setIfInBounds_toArray, List.set_cons_zero, List.set_cons_succ]
                refine reg_take (i := 14) (v := ?g60v) rfl (by kernel_rfl) (by kernel_rfl) (by kernel_rfl) (by kernel_rfl) (fun _ _ _ h => h) (by rfl) ?g60y (by assumption) ?g60r
                case g60y => (intro W hS; first | (go_simp; done) | (go_simp; with_reducible rfl))
                simp only [Act.put, List.setIfInBounds_toArray, List.set_cons_zero, List.set_cons_succ]
                refine reg_take (i := 15) (v := ?g61v) rfl (by kernel_rfl) (by kernel_rfl) (by kernel_rfl) (by kernel_rfl) (fun _ _ _ h => h) (by rfl) ?g61y (by assumption) ?g61r
                case g61y => (intro W hS; first | (go_simp; done) | (go_simp; with_reducible rfl))
                simp only [Act.put, List.setIfInBounds_toArray, List.set_cons_zero, List.set_cons_succ]
                refine reg_take (i := 16) (v := ?g62v) rfl (by kernel_rfl) (by kernel_rfl) (by kernel_rfl) (by kernel_rfl) (fun _ _ _ h => h) (by rfl) ?g62y (by assumption) ?g62r
                case g62y => (intro W hS; first | (go_simp; done) | (go_simp; with_reducible rfl))
                simp only [Act.put, List.setIfInBounds_toArray, List.set_cons_zero, List.set_cons_succ]
                refine reg_take (i := 17) (v := ?g63v) rfl (by kernel_rfl) (by kernel_rfl) (by kernel_rfl) (by kernel_rfl) (fun _ _ _ h => h) (by rfl) ?g63y (by assumption) ?g63r
                case g63y => (intro W hS; first | (go_simp; done) | (go_simp; with_reducible rfl))
                simp only [Act.put, List.setIfInBounds_toArray, List.set_cons_zero, List.set_cons_succ]
                refine reg_take (i := 18) (v := ?g64v) rfl (by kernel_rfl) (by kernel_rfl) (by kernel_rfl) (by kernel_rfl) (fun _ _ _ h => h) (by rfl) ?g64y (by assumption) ?g64r
                case g64y => (intro W hS; first | (go_simp; done) | (go_simp; with_reducible rfl))
                simp only [Act.put, List.setIfInBounds_toArray, List.set_cons_zero, List.set_cons_succ]
                refine reg_take (i := 19) (v := ?g65v) rfl (by kernel_rfl) (by kernel_rfl) (by kernel_rfl) (by kernel_rfl) (fun _ _ _ h => h) (by rfl) ?g65y (by assumption) ?g65r
                case g65y => (intro W hS; first | (go_simp; done) | (go_simp; with_reducible rfl))
                simp only [Act.put, List.setIfInBounds_toArray, List.set_cons_zero, List.set_cons_succ]
                refine reg_take (i := 20) (v := ?g66v) rfl (by kernel_rfl) (by kernel_rfl) (by kernel_rfl) (by kernel_rfl) (fun _ _ _ h => h) (by rfl) ?g66y (by assumption) ?g66r
                case g66y => (intro W hS; first | (go_simp; done) | (go_simp; with_reducible rfl))
                simp only [Act.put, List.setIfInBounds_toArray, List.set_cons_zero, List.set_cons_succ]
                refine reg_take (i := 21) (v := ?g67v) rfl (by kernel_rfl) (by kernel_rfl) (by kernel_rfl) (by kernel_rfl) (fun _ _ _ h => h) (by rfl) ?g67y (by assumption) ?g67r
                case g67y => (intro W hS; first | (go_simp; done) | (go_simp; with_reducible rfl))
                simp only [Act.put, List.setIfInBounds_toArray, List.set_cons_zero, List.set_cons_succ]
                refine reg_take (i := 22) (v := ?g68v) rfl (by kernel_rfl) (by kernel_rfl) (by kernel_rfl) (by kernel_rfl) (fun _ _ _ h => h) (by rfl) ?g68y (by assumption) ?g68r
                case g68y => (intro W hS; first | (go_simp; done) | (go_simp; with_reducible rfl))
                simp only [Act.put, List.setIfInBounds_toArray, List.set_cons_zero, List.set_cons_succ]
                refine reg_take (i := 23) (v := ?g69v) rfl (by kernel_rfl) (by kernel_rfl) (by kernel_rfl) (by kernel_rfl) (fun _ _ _ h => h) (by rfl) ?g69y (by assumption) ?g69r
                case g69y => (intro W hS; first | (go_simp; done) | (go_simp; with_reducible rfl))
                simp only [Act.put, List.setIfInBounds_toArray, List.set_cons_zero, List.set_cons_succ]
                refine reg_take (i := 24) (v := ?g70v) rfl (by kernel_rfl) (by kernel_rfl) (by kernel_rfl) (by kernel_rfl) (fun _ _ _ h => h) (by rfl) ?g70y (by assumption) ?g70r
                case g70y => (intro W hS; first | (go_simp; done) | (go_simp; with_reducible rfl))
                simp only [Act.put, List.setIfInBounds_toArray, List.set_cons_zero, List.set_cons_succ]
                refine reg_take (i := 25) (v := ?g71v) rfl (by kernel_rfl) (by kernel_rfl) (by kernel_rfl) (by kernel_rfl) (fun _ _ _ h => h) (by rfl) ?g71y (by assumption) ?g71r
                case g71y => (intro W hS; have f0 := hS.cell hf0 (fun h => h); have f1 := hS.cell hf1 (fun h => h); have f2 := hS.cell hpx (fun h => h); first | (go_simp; done) | (go_simp; with_reducible rfl))
                simp only [Act.put, List.setIfInBounds_toArray, List.set_cons_zero, List.set_cons_succ]
                refine reg_take (i := 26) (v := ?g72v) rfl (by kernel_rfl) (by kernel_rfl) (by kernel_rfl) (by kernel_rfl) (fun _ _ _ h => h) (by rfl) ?g72y (by assumption) ?g72r
                case g72y => (intro W hS; first | (go_simp; done) | (go_simp; with_reducible rfl))
                simp only [Act.put, List.setIfInBounds_toArray, List.set_cons_zero, List.set_cons_succ]
                refine reg_take (i := 27) (v := ?g73v) rfl (by kernel_rfl) (by kernel_rfl) (by kernel_rfl) (by kernel_rfl) (fun _ _ _ h => h) (by rfl) ?g73y (by assumption) ?g73r
                case g73y => (intro W hS; first | (go_simp; done) | (go_simp; with_reducible rfl))
                simp only [Act.put, List.setIfInBounds_toArray, List.set_cons_zero, List.set_cons_succ]
                refine reg_take (i := 28) (v := ?g74v) rfl (by kernel_rfl) (by kernel_rfl) (by kernel_rfl) (by kernel_rfl) (fun _ _ _ h => h) (by rfl) ?g74y (by assumption) ?g74r
                case g74y => (intro W hS; first | (go_simp; done) | (go_simp; with_reducible rfl))
                simp only [Act.put, List.setIfInBounds_toArray, List.set_cons_zero, List.set_cons_succ]
                refine reg_take (i := 29) (v := ?g75v) rfl (by kernel_rfl) (by kernel_rfl) (by kernel_rfl) (by kernel_rfl) (fun _ _ _ h => h) (by rfl) ?g75y (by assumption) ?g75r
                case g75y => (intro W hS; first | (go_simp; done) | (go_simp; with_reducible rfl))
                simp only [Act.put, List.setIfInBounds_toArray, List.set_cons_zero, List.set_cons_succ]
                refine reg_take (i := 30) (v := ?g76v) rfl (by kernel_rfl) (by kernel_rfl) (by kernel_rfl) (by kernel_rfl) (fun _ _ _ h => h) (by rfl) ?g76y (by assumption) ?g76r
                case g76y => (intro W hS; have f0 := hS.cell hf0 (fun h => h); have f1 := hS.cell hf1 (fun h => h); have f2 := hS.cell hpx (fun h => h); first | (go_simp; done) | (go_simp; with_reducible rfl))
                simp only [Act.put, List.setIfInBounds_toArray, List.set_cons_zero, List.set_cons_succ]
                refine reg_take (i := 31) (v := ?g77v) rfl (by kernel_rfl) (by kernel_rfl) (by kernel_rfl) (by kernel_rfl) (fun _ _ _ h => h) (by rfl) ?g77y (by assumption) ?g77r
                case g77y => (intro W hS; first | (go_simp; done) | (go_simp; with_reducible rfl))
                simp only [Act.put, List.setIfInBounds_toArray, List.set_cons_zero, List.set_cons_succ]
                refine reg_take (i := 32) (v := ?g78v) rfl (by kernel_rfl) (by kernel_rfl) (by kernel_rfl) (by kernel_rfl) (fun _ _ _ h => h) (by rfl) ?g78y (by assumption) ?g78r
                case g78y => (intro W hS; first | (go_simp; done) | (go_simp; with_reducible rfl))
                simp only [Act.put, List.setIfInBounds_toArray, List.set_cons_zero, List.set_cons_succ]
                refine reg_take (i := 33) (v := ?g79v) rfl (by kernel_rfl) (by kernel_rfl) (by kernel_rfl) (by kernel_rfl) (fun _ _ _ h => h) (by rfl) ?g79y (by assumption) ?g79r
                case g79y => (intro W hS; first | (go_simp; done) | (go_simp; with_reducible rfl))
                simp only [Act.put, List.setIfInBounds_toArray, List.set_cons_zero, List.set_cons_succ]
                refine wpAnyG_done (by kernel_rfl) ?_ _
                have HC3 := hide (HC.out.trans hSc (S'' := fun _ => False) (fun _ _ h => h) (fun _ _ h => h))
                clear hS0 hSc hf0 hf1
                generalize wo.drew = w3 at HC3 ⊢
                go_wp2_with fail
                go_loopw [4] (fun i wr => ∃ j : Nat, j ≤ k ∧ i = .int .i64 j ∧ Hid (∀ m (hm : m < t.length), m < j → underB fp t[m].path = false) ∧ Hid (Chg (fun _ => False) w wr)) (fun i _ => k - (intOf i).toNat)
                case atStart => exact ⟨0, Nat.zero_le _, rfl, (fun m _ h => by omega), HC3.out⟩
                case round =>
                  obtain ⟨j, hj, rfl, HJ, HCJ⟩ := hrel
                  obtain ⟨wi, rfl⟩ : ∃ wi : World, wi = wr := ⟨_, rfl⟩
                  by_cases hjk : j < k
                  · have hjl : j < t.length := by omega
                    have hcw : CellsAt wi b off (flat fl_enc t) := by
                      obtain ⟨a2, c2, e2, -, h2⟩ := (HT.out.chg HCJ.out (fun _ _ _ h => h)).shape
                      cases e2
                      obtain ⟨b3, off3, e3, h3⟩ := h2 (by omega)
                      cases e3
                      exact h3
                    obtain ⟨hj0, hj1⟩ := fl_cells wi b off t hcw j hjl
                    have hk0' : wi.cell? ⟨b, off + k * 2, none⟩ = some (.string fp) := by
                      have := (fl_cells wi b off t hcw k HKL.out).1
                      exact this.trans (congrArg (fun x => some (Value.string x)) HFP.out)
                    have HU := hide (fun W => (HUN.out W j hjl))
                    clear hcw hj1
                    cases hu : underB fp t[j].path with
                    | true =>
                      have hany : (t.take k).any (fun g => underB fp g.path) = true := List.any_eq_true.2 ⟨t[j], by rw [List.mem_take_iff_getElem]; exact ⟨j, by omega, rfl⟩, hu⟩
                      have HNO := hide (mayT_no HKL.out (HOKE.out.trans (by rw [hany]; rfl)))
                      rw [hu] at HU
                      clear hany hu
                      generalize t[j].path = qp at *
                      go_wp2_with fail
                      refine reg_start (Chg (fun _ => False) wi) 11 11 (by rfl) (by kernel_rfl) (Chg.drew _ _) ?_
                      intro hS0
                      have hSc := hS0
                      refine reg_take (i := 0) (v := ?g81v) rfl (by kernel_rfl) (by kernel_rfl) (by kernel_rfl) (by kernel_rfl) (fun _ _ _ h => h) (by rfl) ?g81y (by assumption) ?g81r
                      case g81y => (intro W hS; first | (go_simp; done) | (go_simp; with_reducible rfl))
                      simp only [Act.put, List.setIfInBounds_toArray, List.set_cons_zero, List.set_cons_succ]
                      refine reg_take (i := 1) (v := ?g82v) rfl (by kernel_rfl) (by kernel_rfl) (by kernel_rfl) (by kernel_rfl) (fun _ _ _ h => h) (by rfl) ?g82y (by assumption) ?g82r
                      case g82y => (intro W hS; first | (go_simp; done) | (go_simp; with_reducible rfl))
                      simp only [Act.put, List.setIfInBounds_toArray, List.set_cons_zero, List.set_cons_succ]
                      refine reg_take (i := 2) (v := ?g83v) rfl (by kernel_rfl) (by kernel_rfl) (by kernel_rfl) (by kernel_rfl) (fun _ _ _ h => h) (by rfl) ?g83y (by assumption) ?g83r
                      case g83y => (intro W hS; first | (go_simp; done) | (go_simp; with_reducible rfl))
                      simp only [Act.put, List.setIfInBounds_toArray, List.set_cons_zero, List.set_cons_succ]
                      refine reg_take (i := 3) (v := ?g84v) rfl (by kernel_rfl) (by kernel_rfl) (by kernel_rfl) (by kernel_rfl) (fun _ _ _ h => h) (by rfl) ?g84y (by assumption) ?g84r
                      case g84y => (intro W hS; first | (go_simp; done) | (go_simp; with_reducible rfl))
                      simp only [Act.put, List.setIfInBounds_toArray, List.set_cons_zero, List.set_cons_succ]
                      refine reg_take (i := 4) (v := ?g85v) rfl (by kernel_rfl) (by kernel_rfl) (by kernel_rfl) (by kernel_rfl) (fun _ _ _ h => h) (by rfl) ?g85y (by assumption) ?g85r
                      case g85y => (intro W hS; have f0 := hS.cell hj0 (fun h => h); have f1 := hS.cell hk0' (fun h => h); first | (go_simp; done) | (go_simp; with_reducible rfl))
                      simp only [Act.put, List.setIfInBounds_toArray, List.set_cons_zero, List.set_cons_succ]
                      refine reg_take (i := 5) (v := ?g86v) rfl (by kernel_rfl) (by kernel_rfl) (by kernel_rfl) (by kernel_rfl) (fun _ _ _ h => h) (by rfl) ?g86y (by assumption) ?g86r
                      case g86y => (intro W hS; first | (go_simp; done) | (go_simp; with_reducible rfl))
                      simp only [Act.put, List.setIfInBounds_toArray, List.set_cons_zero, List.set_cons_succ]
                      refine reg_take (i := 6) (v := ?g87v) rfl (by kernel_rfl) (by kernel_rfl) (by kernel_rfl) (by kernel_rfl) (fun _ _ _ h => h) (by rfl) ?g87y (by assumption) ?g87r
                      case g87y => (intro W hS; first | (go_simp; done) | (go_simp; with_reducible rfl))
                      simp only [Act.put, List.setIfInBounds_toArray, List.set_cons_zero, List.set_cons_succ]
                      refine reg_take (i := 7) (v := ?g88v) rfl (by kernel_rfl) (by kernel_rfl) (by kernel_rfl) (by kernel_rfl) (fun _ _ _ h => h) (by rfl) ?g88y (by assumption) ?g88r
                      case g88y => (intro W hS; first | (go_simp; done) | (go_simp; with_reducible rfl))
                      simp only [Act.put, List.setIfInBounds_toArray, List.set_cons_zero, List.set_cons_succ]
                      refine reg_take (i := 8) (v := ?g89v) rfl (by kernel_rfl) (by kernel_rfl) (by kernel_rfl) (by kernel_rfl) (fun _ _ _ h => h) (by rfl) ?g89y (by assumption) ?g89r
                      case g89y => (intro W hS; first | (go_simp; done) | (go_simp; with_reducible rfl))
                      simp only [Act.put, List.setIfInBounds_toArray, List.set_cons_zero, List.set_cons_succ]
                      refine reg_take (i := 9) (v := ?g90v) rfl (by kernel_rfl) (by kernel_rfl) (by kernel_rfl) (by kernel_rfl) (fun _ _ _ h => h) (by rfl) ?g90y (by assumption) ?g90r
                      case g90y => (intro W hS; have f0 := hS.cell hj0 (fun h => h); have f1 := hS.cell hk0' (fun h => h); first | (go_simp; done) | (go_simp; with_reducible rfl))
                      simp only [Act.put, List.setIfInBounds_toArray, List.set_cons_zero, List.set_cons_succ]
                      refine reg_one (i := 10) (by kernel_rfl) ?_
                      refine op_call (i := 10) (#[.string fp, .string qp]) rfl (by rfl) (enters_of Tryd.func94 (by kernel_rfl) rfl) (by first | (simp [Act.eval]; done) | rfl | (simp only [List.map_toArray, List.map_cons, List.map_nil, Act.eval]; rfl) | (simp [Act.eval]; trace_state; done)) ?_
                      refine (HU.out _).mono ?_
                      rintro e W3 ⟨rfl, rfl⟩
                      refine ⟨_, rfl, hSc, ?_⟩
                      simp only [Act.put, List.setIfInBounds_toArray, List.set_cons_zero, List.set_cons_succ]
                      refine wpAnyG_done (by kernel_rfl) ?_ _
                      have HC5 := hide (HCJ.out.trans hSc (S'' := fun _ => False) (fun _ _ h => h) (fun _ _ h => h))
                      clear hS0 hSc hj0 hk0'
                      go_wp2_with fail
                      go_ret
                      exact ⟨ret_bool (HR.out.trans HNO.out).symm, HC5.out.below (Nat.le_refl _) (fun _ _ h => h)⟩
                    | false =>
                      have HNX := hide (fun m (hm : m < t.length) (h : m < j + 1) => show underB fp t[m].path = false from by
                        by_cases e : m = j
                        · subst e; exact hu
                        · exact HJ.out m hm (by omega))
                      rw [hu] at HU
                      clear hu
                      generalize t[j].path = qp at *
                      go_wp2_with fail
                      refine reg_start (Chg (fun _ => False) wi) 11 11 (by rfl) (by kernel_rfl) (Chg.drew _ _) ?_
                      intro hS0
                      have hSc := hS0
                      refine reg_take (i := 0) (v := ?g92v) rfl (by kernel_rfl) (by kernel_rfl) (by kernel_rfl) (by kernel_rfl) (fun _ _ _ h => h) (by rfl) ?g92y (by assumption) ?g92r
                      case g92y => (intro W hS; first | (go_simp; done) | (go_simp; with_reducible rfl))
                      simp only [Act.put, List.setIfInBounds_toArray, List.set_cons_zero, List.set_cons_succ]
                      refine reg_take (i := 1) (v := ?g93v) rfl (by kernel_rfl) (by kernel_rfl) (by kernel_rfl) (by kernel_rfl) (fun _ _ _ h => h) (by rfl) ?g93y (by assumption) ?g93r
                      case g93y => (intro W hS; first | (go_simp; done) | (go_simp; with_reducible rfl))
                      simp only [Act.put, List.setIfInBounds_toArray, List.set_cons_zero, List.set_cons_succ]
                      refine reg_take (i := 2) (v := ?g94v) rfl (by kernel_rfl) (by kernel_rfl) (by kernel_rfl) (by kernel_rfl) (fun _ _ _ h => h) (by rfl) ?g94y (by assumption) ?g94r
                      case g94y => (intro W hS; first | (go_simp; done) | (go_simp; with_reducible rfl))
                      simp only [Act.put, List.setIfInBounds_toArray, List.set_cons_zero, List.set_cons_succ]
                      refine reg_take (i := 3) (v := ?g95v) rfl (by kernel_rfl) (by kernel_rfl) (by kernel_rfl) (by kernel_rfl) (fun _ _ _ h => h) (by rfl) ?g95y (by assumption) ?g95r
                      case g95y => (intro W hS; first | (go_simp; done) | (go_simp; with_reducible rfl))
                      simp only [Act.put, List.setIfInBounds_toArray, List.set_cons_zero, List.set_cons_succ]
                      refine reg_take (i := 4) (v := ?g96v) rfl (by kernel_rfl) (by kernel_rfl) (by kernel_rfl) (by kernel_rfl) (fun _ _ _ h => h) (by rfl) ?g96y (by assumption) ?g96r
                      case g96y => (intro W hS; have f0 := hS.cell hj0 (fun h => h); have f1 := hS.cell hk0' (fun h => h); first | (go_simp; done) | (go_simp; with_reducible rfl))
                      simp only [Act.put, List.setIfInBounds_toArray, List.set_cons_zero, List.set_cons_succ]
                      refine reg_take (i := 5) (v := ?g97v) rfl (by kernel_rfl) (by kernel_rfl) (by kernel_rfl) (by kernel_rfl) (fun _ _ _ h => h) (by rfl) ?g97y (by assumption) ?g97r
                      case g97y => (intro W hS; first | (go_simp; done) | (go_simp; with_reducible rfl))
                      simp only [Act.put, List.setIfInBounds_toArray, List.set_cons_zero, List.set_cons_succ]
                      refine reg_take (i := 6) (v := ?g98v) rfl (by kernel_rfl) (by kernel_rfl) (by kernel_rfl) (by kernel_rfl) (fun _ _ _ h => h) (by rfl) ?g98y (by assumption) ?g98r
                      case g98y => (intro W hS; first | (go_simp; done) | (go_simp; with_reducible rfl))
                      simp only [Act.put, List.setIfInBounds_toArray, List.set_cons_zero, List.set_cons_succ]
                      refine reg_take (i := 7) (v := ?g99v) rfl (by kernel_rfl) (by kernel_rfl) (by kernel_rfl) (by kernel_rfl) (fun _ _ _ h => h) (by rfl) ?g99y (by assumption) ?g99r
                      case g99y => (intro W hS; first | (go_simp; done) | (go_simp; with_reducible rfl))
                      simp only [Act.put, List.setIfInBounds_toArray, List.set_cons_zero, List.set_cons_succ]
                      refine reg_take (i := 8) (v := ?g100v) rfl (by kernel_rfl) (by kernel_rfl) (by kernel_rfl) (by kernel_rfl) (fun _ _ _ h => h) (by rfl) ?g100y (by assumption) ?g100r
                      case g100y => (intro W hS; first | (go_simp; done) | (go_simp; with_reducible rfl))
                      simp only [Act.put, List.setIfInBounds_toArray, List.set_cons_zero, List.set_cons_succ]
                      refine reg_take (i := 9) (v := ?g101v) rfl (by kernel_rfl) (by kernel_rfl) (by kernel_rfl) (by kernel_rfl) (fun _ _ _ h => h) (by rfl) ?g101y (by assumption) ?g101r
                      case g101y => (intro W hS; have f0 := hS.cell hj0 (fun h => h); have f1 := hS.cell hk0' (fun h => h); first | (go_simp; done) | (go_simp; with_reducible rfl))
                      simp only [Act.put, List.setIfInBounds_toArray, List.set_cons_zero, List.set_cons_succ]
                      refine reg_one (i := 10) (by kernel_rfl) ?_
                      refine op_call (i := 10) (#[.string fp, .string qp]) rfl (by rfl) (enters_of Tryd.func94 (by kernel_rfl) rfl) (by first | (simp [Act.eval]; done) | rfl | (simp only [List.map_toArray, List.map_cons, List.map_nil, Act.eval]; rfl) | (simp [Act.eval]; trace_state; done)) ?_
                      refine (HU.out _).mono ?_
                      rintro e W3 ⟨rfl, rfl⟩
                      refine ⟨_, rfl, hSc, ?_⟩
                      simp only [Act.put, List.setIfInBounds_toArray, List.set_cons_zero, List.set_cons_succ]
                      refine wpAnyG_done (by kernel_rfl) ?_ _
                      have HC5 := hide (HCJ.out.trans hSc (S'' := fun _ => False) (fun _ _ h => h) (fun _ _ h => h))
                      clear hS0 hSc hj0 hk0'
                      go_wp2_with fail
                      go_roundw
                      case rel => exact ⟨j + 1, by omega, by go_num, HNX, HC5⟩
                      case measure => simp [intOf]; omega
                  · obtain rfl : j = k := by omega
                    have hany : (t.take j).any (fun g => underB fp g.path) = false := by
                      rw [List.any_eq_false]
                      intro x hx
                      obtain ⟨i, hi, rfl⟩ := List.mem_take_iff_getElem.1 hx
                      rw [HJ.out i (by omega) (by omega)]
                      decide
                    have HOKV := hide (HOKE.out.trans (by rw [hany]; rfl) : okAt t j = true)
                    clear hany
                    have hkl := HKL.out
                    go_wp2_with fail
                    go_roundw
                    case rel =>
                      refine ⟨j + 1, by omega, by go_num, fun m hm => ?_, HCJ⟩
                      by_cases e : m = j
                      · rw [e]; exact HOKV.out
                      · exact HN.out m (by omega)
                    case measure => simp [intOf]; omega
            · have dk : decide ((k : Int) > 0) = false := decide_eq_false (by omega)
              have HOKE := hide (h4 hpb hz (by rw [decide_eq_false hk0]; rfl))
              clear h1 h2 h3 h4 hpb hpx
              go_wp2_with fail
              refine reg_start (Chg (fun _ => False) wo) 34 34 (by rfl) (by kernel_rfl) (Chg.drew _ _) ?_
              intro hS0
              have hSc := hS0
              refine reg_take (i := 0) (v := ?g103v) rfl (by kernel_rfl) (by kernel_rfl) (by kernel_rfl) (by kernel_rfl) (fun _ _ _ h => h) (by rfl) ?g103y (by assumption) ?g103r
              case g103y => (intro W hS; first | (go_simp; done) | (go_simp; with_reducible rfl))
              simp only [Act.put, List.setIfInBounds_toArray, List.set_cons_zero, List.set_cons_succ]
              refine reg_take (i := 1) (v := ?g104v) rfl (by kernel_rfl) (by kernel_rfl) (by kernel_rfl) (by kernel_rfl) (fun _ _ _ h => h) (by rfl) ?g104y (by assumption) ?g104r
              case g104y => (intro W hS; first | (go_simp; done) | (go_simp; with_reducible rfl))
              simp only [Act.put, List.setIfInBounds_toArray, List.set_cons_zero, List.set_cons_succ]
              refine reg_take (i := 2) (v := ?g105v) rfl (by kernel_rfl) (by kernel_rfl) (by kernel_rfl) (by kernel_rfl) (fun _ _ _ h => h) (by rfl) ?g105y (by assumption) ?g105r
              case g105y => (intro W hS; first | (go_simp; done) | (go_simp; with_reducible rfl))
              simp only [Act.put, List.setIfInBounds_toArray, List.set_cons_zero, List.set_cons_succ]
              refine reg_take (i := 3) (v := ?g106v) rfl (by kernel_rfl) (by kernel_rfl) (by kernel_rfl) (by kernel_rfl) (fun _ _ _ h => h) (by rfl) ?g106y (by assumption) ?g106r
              case g106y => (intro W hS; first | (go_simp; done) | (go_simp; with_reducible rfl))
              simp only [Act.put, List.setIfInBounds_toArray, List.set_cons_zero, List.set_cons_succ]
              refine reg_take (i := 4) (v := ?g107v) rfl (by kernel_rfl) (by kernel_rfl) (by kernel_rfl) (by kernel_rfl) (fun _ _ _ h => h) (by rfl) ?g107y (by assumption) ?g107r
              case g107y => (intro W hS; have f0 := hS.cell hf0 (fun h => h); have f1 := hS.cell hf1 (fun h => h); first | (go_simp; done) | (go_simp; with_reducible rfl))
              simp only [Act.put, List.setIfInBounds_toArray, List.set_cons_zero, List.set_cons_succ]
              refine reg_one (i := 5) (by kernel_rfl) ?_
              refine op_call (i := 5) (#[.string fp]) rfl (by rfl) (enters_of Tryd.func93 (by kernel_rfl) rfl) (by first | (simp [Act.eval]; done) | rfl | (simp only [List.map_toArray, List.map_cons, List.map_nil, Act.eval]; rfl) | (simp [Act.eval]; trace_state; done)) ?_
              refine (HPC.out _).mono ?_
              rintro e W3 ⟨rfl, rfl⟩
              refine ⟨_, rfl, hSc, ?_⟩
              simp only [Act.put, List.setIfInBounds_toArray, List.set_cons_zero, List.set_cons_succ]
              refine reg_take (i := 6) (v := ?g108v) rfl (by kernel_rfl) (by kernel_rfl) (by kernel_rfl) (by kernel_rfl) (fun _ _ _ h => h) (by rfl) ?g108y (by assumption) ?g108r
              case g108y => (intro W hS; first | (go_simp; done) | (go_simp; with_reducible rfl))
              simp only [Act.put, List.setIfInBounds_toArray, List.set_cons_zero, List.set_cons_succ]
              refine reg_take (i := 7) (v := ?g109v) rfl (by kernel_rfl) (by kernel_rfl) (by kernel_rfl) (by kernel_rfl) (fun _ _ _ h => h) (by rfl) ?g109y (by assumption) ?g109r
              case g109y => (intro W hS; first | (go_simp; done) | (go_simp; with_reducible rfl))
              simp only [Act.put, List.setIfInBounds_toArray, List.set_cons_zero, List.set_cons_succ]
              refine reg_take (i := 8) (v := ?g110v) rfl (by kernel_rfl) (by kernel_rfl) (by kernel_rfl) (by kernel_rfl) (fun _ _ _ h => h) (by rfl) ?g110y (by assumption) ?g110r
              case g110y => (intro W hS; first | (go_simp; done) | (go_simp; with_reducible rfl))
              simp only [Act.put, List.setIfInBounds_toArray, List.set_cons_zero, List.set_cons_succ]
              refine reg_take (i := 9) (v := ?g111v) rfl (by kernel_rfl) (by kernel_rfl) (by kernel_rfl) (by kernel_rfl) (fun _ _ _ h => h) (by rfl) ?g111y (by assumption) ?g111r
              case g111y => (intro W hS; first | (go_simp; done) | (go_simp; with_reducible rfl))
              simp only [Act.put, List.setIfInBounds_toArray, List.set_cons_zero, List.set_cons_succ]
              refine reg_take (i := 10) (v := ?g112v) rfl (by kernel_rfl) (by kernel_rfl) (by kernel_rfl) (by kernel_rfl) (fun _ _ _ h => h) (by rfl) ?g112y (by assumption) ?g112r
              case g112y => (intro W hS; first | (go_simp; done) | (go_simp; with_reducible rfl))
              simp only [Act.put, List.setIfInBounds_toArray, List.set_cons_zero, List.set_cons_succ]
              refine reg_take (i := 11) (v := ?g113v) rfl (by kernel_rfl) (by kernel_rfl) (by kernel_rfl) (by kernel_rfl) (fun _ _ _ h => h) (by rfl) ?g113y (by assumption) ?g113r
              case g113y => (intro W hS; first | (go_simp; done) | (go_simp; with_reducible rfl))
              simp only [Act.put, List.setIfInBounds_toArray, List.set_cons_zero, List.set_cons_succ]
              refine reg_take (i := 12) (v := ?g114v) rfl (by kernel_rfl) (by kernel_rfl) (by kernel_rfl) (by kernel_rfl) (fun _ _ _ h => h) (by rfl) ?g114y (by assumption) ?g114r
              case g114y => (intro W hS; have f0 := hS.cell hf0 (fun h => h); have f1 := hS.cell hf1 (fun h => h); first | (go_simp; done) | (go_simp; with_reducible rfl))
              simp only [Act.put, List.setIfInBounds_toArray, List.set_cons_zero, List.set_cons_succ]
              refine reg_take (i := 13) (v := ?g115v) rfl (by kernel_rfl) (by kernel_rfl) (by kernel_rfl) (by kernel_rfl) (fun _ _ _ h => h) (by rfl) ?g115y (by assumption) ?g115r
              case g115y => (intro W hS; first | (go_simp; done) | (go_simp; with_reducible rfl))
              simp only [Act.put, List.setIfInBounds_toArray, List.set_cons_zero, List.set_cons_succ]
              refine reg_take (i := 14) (v := ?g116v) rfl (by kernel_rfl) (by kernel_rfl) (by kernel_rfl) (by kernel_rfl) (fun _ _ _ h => h) (by rfl) ?g116y (by assumption) ?g116r
              case g116y => (intro W hS; first | (go_simp; done) | (go_simp; with_reducible rfl))
              simp only [Act.put, List.setIfInBounds_toArray, List.set_cons_zero, List.set_cons_succ]
              refine reg_take (i := 15) (v := ?g117v) rfl (by kernel_rfl) (by kernel_rfl) (by kernel_rfl) (by kernel_rfl) (fun _ _ _ h => h) (by rfl) ?g117y (by assumption) ?g117r
              case g117y => (intro W hS; first | (go_simp; done) | (go_simp; with_reducible rfl))
              simp only [Act.put, List.setIfInBounds_toArray, List.set_cons_zero, List.set_cons_succ]
              refine reg_take (i := 16) (v := ?g118v) rfl (by kernel_rfl) (by kernel_rfl) (by kernel_rfl) (by kernel_rfl) (fun _ _ _ h => h) (by rfl) ?g118y (by assumption) ?g118r
              case g118y => (intro W hS; first | (go_simp; done) | (go_simp; with_reducible rfl))
              simp only [Act.put, List.setIfInBounds_toArray, List.set_cons_zero, List.set_cons_succ]
              refine reg_take (i := 17) (v := ?g119v) rfl (by kernel_rfl) (by kernel_rfl) (by kernel_rfl) (by kernel_rfl) (fun _ _ _ h => h) (by rfl) ?g119y (by assumption) ?g119r
              case g119y => (intro W hS; first | (go_simp; done) | (go_simp; with_reducible rfl))
              simp only [Act.put, List.setIfInBounds_toArray, List.set_cons_zero, List.set_cons_succ]
              refine reg_take (i := 18) (v := ?g120v) rfl (by kernel_rfl) (by kernel_rfl) (by kernel_rfl) (by kernel_rfl) (fun _ _ _ h => h) (by rfl) ?g120y (by assumption) ?g120r
              case g120y => (intro W hS; first | (go_simp; done) | (go_simp; with_reducible rfl))
              simp only [Act.put, List.setIfInBounds_toArray, List.set_cons_zero, List.set_cons_succ]
              refine reg_take (i := 19) (v := ?g121v) rfl (by kernel_rfl) (by kernel_rfl) (by kernel_rfl) (by kernel_rfl) (fun _ _ _ h => h) (by rfl) ?g121y (by assumption) ?g121r
              case g121y => (intro W hS; first | (go_simp; done) | (go_simp; with_reducible rfl))
              simp only [Act.put, List.setIfInBounds_toArray, List.set_cons_zero, List.set_cons_succ]
              refine reg_skip (i := 20) rfl (by kernel_rfl) (by kernel_rfl) (by kernel_rfl) (by kernel_rfl) (fun _ _ _ h => h) (by rfl) (by assumption) ?_
              simp only [Act.put, List.setIfInBounds_toArray, List.set_cons_zero, List.set_cons_succ]
              refine reg_skip (i := 21) rfl (by kernel_rfl) (by kernel_rfl) (by kernel_rfl) (by kernel_rfl) (fun _ _ _ h => h) (by rfl) (by assumption) ?_
              simp only [Act.put, List.setIfInBounds_toArray, List.set_cons_zero, List.set_cons_succ]
              refine reg_skip (i := 22) rfl (by kernel_rfl) (by kernel_rfl) (by kernel_rfl) (by kernel_rfl) (fun _ _ _ h => h) (by rfl) (by assumption) ?_
              simp only [Act.put, List.setIfInBounds_toArray, List.set_cons_zero, List.set_cons_succ]
              refine reg_skip (i := 23) rfl (by kernel_rfl) (by kernel_rfl) (by kernel_rfl) (by kernel_rfl) (fun _ _ _ h => h) (by rfl) (by assumption) ?_
              simp only [Act.put, List.setIfInBounds_toArray, List.set_cons_zero, List.set_cons_succ]
              refine reg_skip (i := 24) rfl (by kernel_rfl) (by kernel_rfl) (by kernel_rfl) (by kernel_rfl) (fun _ _ _ h => h) (by rfl) (by assumption) ?_
              simp only [Act.put, List.setIfInBounds_toArray, List.set_cons_zero, List.set_cons_succ]
              refine reg_skip (i := 25) rfl (by kernel_rfl) (by kernel_rfl) (by kernel_rfl) (by kernel_rfl) (fun _ _ _ h => h) (by rfl) (by assumption) ?_
              simp only [Act.put, List.setIfInBounds_toArray, List.set_cons_zero, List.set_cons_succ]
              refine reg_skip (i := 26) rfl (by kernel_rfl) (by kernel_rfl) (by kernel_rfl) (by kernel_rfl) (fun _ _ _ h => h) (by rfl) (by assumption) ?_
              simp only [Act.put, List.setIfInBounds_toArray, List.set_cons_zero, List.set_cons_succ]
              refine reg_skip (i := 27) rfl (by kernel_rfl) (by kernel_rfl) (by kernel_rfl) (by kernel_rfl) (fun _ _ _ h => h) (by rfl) (by assumption) ?_
              simp only [Act.put, List.setIfInBounds_toArray, List.set_cons_zero, List.set_cons_succ]
              refine reg_skip (i := 28) rfl (by kernel_rfl) (by kernel_rfl) (by kernel_rfl) (by kernel_rfl) (fun _ _ _ h => h) (by rfl) (by assumption) ?_
              simp only [Act.put, List.setIfInBounds_toArray, List.set_cons_zero, List.set_cons_succ]
              refine reg_skip (i := 29) rfl (by kernel_rfl) (by kernel_rfl) (by kernel_rfl) (by kernel_rfl) (fun _ _ _ h => h) (by rfl) (by assumption) ?_
              simp only [Act.put, List.setIfInBounds_toArray, List.set_cons_zero, List.set_cons_succ]
              refine reg_skip (i := 30) rfl (by kernel_rfl) (by kernel_rfl) (by kernel_rfl) (by kernel_rfl) (fun _ _ _ h => h) (by rfl) (by assumption) ?_
              simp only [Act.put, List.setIfInBounds_toArray, List.set_cons_zero, List.set_cons_succ]
              refine reg_skip (i := 31) rfl (by kernel_rfl) (by kernel_rfl) (by kernel_rfl) (by kernel_rfl) (fun _ _ _ h => h) (by rfl) (by assumption) ?_
              simp only [Act.put, List.setIfInBounds_toArray, List.set_cons_zero, List.set_cons_succ]
              refine reg_take (i := 32) (v := ?g122v) rfl (by kernel_rfl) (by kernel_rfl) (by kernel_rfl) (by kernel_rfl) (fun _ _ _ h => h) (by rfl) ?g122y (by assumption) ?g122r
              case g122y => (intro W hS; first | (go_simp; done) | (go_simp; with_reducible rfl))
              simp only [Act.put, List.setIfInBounds_toArray, List.set_cons_zero, List.set_cons_succ]
              refine reg_take (i := 33) (v := ?g123v) rfl (by kernel_rfl) (by kernel_rfl) (by kernel_rfl) (by kernel_rfl) (fun _ _ _ h => h) (by rfl) ?g123y (by assumption) ?g123r
              case g123y => (intro W hS; first | (go_simp; done) | (go_simp; with_reducible rfl))
              simp only [Act.put, List.setIfInBounds_toArray, List.set_cons_zero, List.set_cons_succ]
              refine wpAnyG_done (by kernel_rfl) ?_ _
              have HC3 := hide (HC.out.trans hSc (S'' := fun _ => False) (fun _ _ h => h) (fun _ _ h => h))
              clear hS0 hSc hf0 hf1
              generalize wo.drew = w3 at HC3 ⊢
              go_wp2_with fail
              go_loopw [4] (fun i wr => ∃ j : Nat, j ≤ k ∧ i = .int .i64 j ∧ Hid (∀ m (hm : m < t.length), m < j → underB fp t[m].path = false) ∧ Hid (Chg (fun _ => False) w wr)) (fun i _ => k - (intOf i).toNat)
              case atStart => exact ⟨0, Nat.zero_le _, rfl, (fun m _ h => by omega), HC3.out⟩
              case round =>
                obtain ⟨j, hj, rfl, HJ, HCJ⟩ := hrel
                obtain ⟨wi, rfl⟩ : ∃ wi : World, wi = wr := ⟨_, rfl⟩
                by_cases hjk : j < k
                · have hjl : j < t.length := by omega
                  have hcw : CellsAt wi b off (flat fl_enc t) := by
                    obtain ⟨a2, c2, e2, -, h2⟩ := (HT.out.chg HCJ.out (fun _ _ _ h => h)).shape
                    cases e2
                    obtain ⟨b3, off3, e3, h3⟩ := h2 (by omega)
                    cases e3
                    exact h3
                  obtain ⟨hj0, hj1⟩ := fl_cells wi b off t hcw j hjl
                  have hk0' : wi.cell? ⟨b, off + k * 2, none⟩ = some (.string fp) := by
                    have := (fl_cells wi b off t hcw k HKL.out).1
                    exact this.trans (congrArg (fun x => some (Value.string x)) HFP.out)
                  have HU := hide (fun W => (HUN.out W j hjl))
                  clear hcw hj1
                  cases hu : underB fp t[j].path with
                  | true =>
                    have hany : (t.take k).any (fun g => underB fp g.path) = true := List.any_eq_true.2 ⟨t[j], by rw [List.mem_take_iff_getElem]; exact ⟨j, by omega, rfl⟩, hu⟩
                    have HNO := hide (mayT_no HKL.out (HOKE.out.trans (by rw [hany]; rfl)))
                    rw [hu] at HU
                    clear hany hu
                    generalize t[j].path = qp at *
                    go_wp2_with fail
                    refine reg_start (Chg (fun _ => False) wi) 11 11 (by rfl) (by kernel_rfl) (Chg.drew _ _) ?_
                    intro hS0
                    have hSc := hS0
                    refine reg_take (i := 0) (v := ?g125v) rfl (by kernel_rfl) (by kernel_rfl) (by kernel_rfl) (by kernel_rfl) (fun _ _ _ h => h) (by rfl) ?g125y (by assumption) ?g125r
                    case g125y => (intro W hS; first | (go_simp; done) | (go_simp; with_reducible rfl))
                    simp only [Act.put, List.setIfInBounds_toArray, List.set_cons_zero, List.set_cons_succ]
                    refine reg_take (i := 1) (v := ?g126v) rfl (by kernel_rfl) (by kernel_rfl) (by kernel_rfl) (by kernel_rfl) (fun _ _ _ h => h) (by rfl) ?g126y (by assumption) ?g126r
                    case g126y => (intro W hS; first | (go_simp; done) | (go_simp; with_reducible rfl))
                    simp only [Act.put, List.setIfInBounds_toArray, List.set_cons_zero, List.set_cons_succ]
                    refine reg_take (i := 2) (v := ?g127v) rfl (by kernel_rfl) (by kernel_rfl) (by kernel_rfl) (by kernel_rfl) (fun _ _ _ h => h) (by rfl) ?g127y (by assumption) ?g127r
                    case g127y => (intro W hS; first | (go_simp; done) | (go_simp; with_reducible rfl))
                    simp only [Act.put, List.setIfInBounds_toArray, List.set_cons_zero, List.set_cons_succ]
                    refine reg_take (i := 3) (v := ?g128v) rfl (by kernel_rfl) (by kernel_rfl) (by kernel_rfl) (by kernel_rfl) (fun _ _ _ h => h) (by rfl) ?g128y (by assumption) ?g128r
                    case g128y => (intro W hS; first | (go_simp; done) | (go_simp; with_reducible rfl))
                    simp only [Act.put, List.setIfInBounds_toArray, List.set_cons_zero, List.set_cons_succ]
                    refine reg_take (i := 4) (v := ?g129v) rfl (by kernel_rfl) (by kernel_rfl) (by kernel_rfl) (by kernel_rfl) (fun _ _ _ h => h) (by rfl) ?g129y (by assumption) ?g129r
                    case g129y => (intro W hS; have f0 := hS.cell hj0 (fun h => h); have f1 := hS.cell hk0' (fun h => h); first | (go_simp; done) | (go_simp; with_reducible rfl))
                    simp only [Act.put, List.setIfInBounds_toArray, List.set_cons_zero, List.set_cons_succ]
                    refine reg_take (i := 5) (v := ?g130v) rfl (by kernel_rfl) (by kernel_rfl) (by kernel_rfl) (by kernel_rfl) (fun _ _ _ h => h) (by rfl) ?g130y (by assumption) ?g130r
                    case g130y => (intro W hS; first | (go_simp; done) | (go_simp; with_reducible rfl))
                    simp only [Act.put, List.setIfInBounds_toArray, List.set_cons_zero, List.set_cons_succ]
                    refine reg_take (i := 6) (v := ?g131v) rfl (by kernel_rfl) (by kernel_rfl) (by kernel_rfl) (by kernel_rfl) (fun _ _ _ h => h) (by rfl) ?g131y (by assumption) ?g131r
                    case g131y => (intro W hS; first | (go_simp; done) | (go_simp; with_reducible rfl))
                    simp only [Act.put, List.setIfInBounds_toArray, List.set_cons_zero, List.set_cons_succ]
                    refine reg_take (i := 7) (v := ?g132v) rfl (by kernel_rfl) (by kernel_rfl) (by kernel_rfl) (by kernel_rfl) (fun _ _ _ h => h) (by rfl) ?g132y (by assumption) ?g132r
                    case g132y => (intro W hS; first | (go_simp; done) | (go_simp; with_reducible rfl))
                    simp only [Act.put, List.setIfInBounds_toArray, List.set_cons_zero, List.set_cons_succ]
                    refine reg_take (i := 8) (v := ?g133v) rfl (by kernel_rfl) (by kernel_rfl) (by kernel_rfl) (by kernel_rfl) (fun _ _ _ h => h) (by rfl) ?g133y (by assumption) ?g133r
                    case g133y => (intro W hS; first | (go_simp; done) | (go_simp; with_reducible rfl))
                    simp only [Act.put, List.setIfInBounds_toArray, List.set_cons_zero, List.set_cons_succ]
                    refine reg_take (i := 9) (v := ?g134v) rfl (by kernel_rfl) (by kernel_rfl) (by kernel_rfl) (by kernel_rfl) (fun _ _ _ h => h) (by rfl) ?g134y (by assumption) ?g134r
                    case g134y => (intro W hS; have f0 := hS.cell hj0 (fun h => h); have f1 := hS.cell hk0' (fun h => h); first | (go_simp; done) | (go_simp; with_reducible rfl))
                    simp only [Act.put, List.setIfInBounds_toArray, List.set_cons_zero, List.set_cons_succ]
                    refine reg_one (i := 10) (by kernel_rfl) ?_
                    refine op_call (i := 10) (#[.string fp, .string qp]) rfl (by rfl) (enters_of Tryd.func94 (by kernel_rfl) rfl) (by first | (simp [Act.eval]; done) | rfl | (simp only [List.map_toArray, List.map_cons, List.map_nil, Act.eval]; rfl) | (simp [Act.eval]; trace_state; done)) ?_
                    refine (HU.out _).mono ?_
                    rintro e W3 ⟨rfl, rfl⟩
                    refine ⟨_, rfl, hSc, ?_⟩
                    simp only [Act.put, List.setIfInBounds_toArray, List.set_cons_zero, List.set_cons_succ]
                    refine wpAnyG_done (by kernel_rfl) ?_ _
                    have HC5 := hide (HCJ.out.trans hSc (S'' := fun _ => False) (fun _ _ h => h) (fun _ _ h => h))
                    clear hS0 hSc hj0 hk0'
                    go_wp2_with fail
                    go_ret
                    exact ⟨ret_bool (HR.out.trans HNO.out).symm, HC5.out.below (Nat.le_refl _) (fun _ _ h => h)⟩
                  | false =>
                    have HNX := hide (fun m (hm : m < t.length) (h : m < j + 1) => show underB fp t[m].path = false from by
                      by_cases e : m = j
                      · subst e; exact hu
                      · exact HJ.out m hm (by omega))
                    rw [hu] at HU
                    clear hu
                    generalize t[j].path = qp at *
                    go_wp2_with fail
                    refine reg_start (Chg (fun _ => False) wi) 11 11 (by rfl) (by kernel_rfl) (Chg.drew _ _) ?_
                    intro hS0
                    have hSc := hS0
                    refine reg_take (i := 0) (v := ?g136v) rfl (by kernel_rfl) (by kernel_rfl) (by kernel_rfl) (by kernel_rfl) (fun _ _ _ h => h) (by rfl) ?g136y (by assumption) ?g136r
                    case g136y => (intro W hS; first | (go_simp; done) | (go_simp; with_reducible rfl))
                    simp only [Act.put, List.setIfInBounds_toArray, List.set_cons_zero, List.set_cons_succ]
                    refine reg_take (i := 1) (v := ?g137v) rfl (by kernel_rfl) (by kernel_rfl) (by kernel_rfl) (by kernel_rfl) (fun _ _ _ h => h) (by rfl) ?g137y (by assumption) ?g137r
                    case g137y => (intro W hS; first | (go_simp; done) | (go_simp; with_reducible rfl))
                    simp only [Act.put, List.setIfInBounds_toArray, List.set_cons_zero, List.set_cons_succ]
                    refine reg_take (i := 2) (v := ?g138v) rfl (by kernel_rfl) (by kernel_rfl) (by kernel_rfl) (by kernel_rfl) (fun _ _ _ h => h) (by rfl) ?g138y (by assumption) ?g138r
                    case g138y => (intro W hS; first | (go_simp; done) | (go_simp; with_reducible rfl))
                    simp only [Act.put, List.setIfInBounds_toArray, List.set_cons_zero, List.set_cons_succ]
                    refine reg_take (i := 3) (v := ?g139v) rfl (by kernel_rfl) (by kernel_rfl) (by kernel_rfl) (by kernel_rfl) (fun _ _ _ h => h) (by rfl) ?g139y (by assumption) ?g139r
                    case g139y => (intro W hS; first | (go_simp; done) | (go_simp; with_reducible rfl))
                    simp only [Act.put, List.setIfInBounds_toArray, List.set_cons_zero, List.set_cons_succ]
                    refine reg_take (i := 4) (v := ?g140v) rfl (by kernel_rfl) (by kernel_rfl) (by kernel_rfl) (by kernel_rfl) (fun _ _ _ h => h) (by rfl) ?g140y (by assumption) ?g140r
                    case g140y => (intro W hS; have f0 := hS.cell hj0 (fun h => h); have f1 := hS.cell hk0' (fun h => h); first | (go_simp; done) | (go_simp; with_reducible rfl))
                    simp only [Act.put, List.setIfInBounds_toArray, List.set_cons_zero, List.set_cons_succ]
                    refine reg_take (i := 5) (v := ?g141v) rfl (by kernel_rfl) (by kernel_rfl) (by kernel_rfl) (by kernel_rfl) (fun _ _ _ h => h) (by rfl) ?g141y (by assumption) ?g141r
                    case g141y => (intro W hS; first | (go_simp; done) | (go_simp; with_reducible rfl))
                    simp only [Act.put, List.setIfInBounds_toArray, List.set_cons_zero, List.set_cons_succ]
                    refine reg_take (i := 6) (v := ?g142v) rfl (by kernel_rfl) (by kernel_rfl) (by kernel_rfl) (by kernel_rfl) (fun _ _ _ h => h) (by rfl) ?g142y (by assumption) ?g142r
                    case g142y => (intro W hS; first | (go_simp; done) | (go_simp; with_reducible rfl))
                    simp only [Act.put, List.setIfInBounds_toArray, List.set_cons_zero, List.set_cons_succ]
                    refine reg_take (i := 7) (v := ?g143v) rfl (by kernel_rfl) (by kernel_rfl) (by kernel_rfl) (by kernel_rfl) (fun _ _ _ h => h) (by rfl) ?g143y (by assumption) ?g143r
                    case g143y => (intro W hS; first | (go_simp; done) | (go_simp; with_reducible rfl))
                    simp only [Act.put, List.setIfInBounds_toArray, List.set_cons_zero, List.set_cons_succ]
                    refine reg_take (i := 8) (v := ?g144v) rfl (by kernel_rfl) (by kernel_rfl) (by kernel_rfl) (by kernel_rfl) (fun _ _ _ h => h) (by rfl) ?g144y (by assumption) ?g144r
                    case g144y => (intro W hS; first | (go_simp; done) | (go_simp; with_reducible rfl))
                    simp only [Act.put, List.setIfInBounds_toArray, List.set_cons_zero, List.set_cons_succ]
                    refine reg_take (i := 9) (v := ?g145v) rfl (by kernel_rfl) (by kernel_rfl) (by kernel_rfl) (by kernel_rfl) (fun _ _ _ h => h) (by rfl) ?g145y (by assumption) ?g145r
                    case g145y => (intro W hS; have f0 := hS.cell hj0 (fun h => h); have f1 := hS.cell hk0' (fun h => h); first | (go_simp; done) | (go_simp; with_reducible rfl))
                    simp only [Act.put, List.setIfInBounds_toArray, List.set_cons_zero, List.set_cons_succ]
                    refine reg_one (i := 10) (by kernel_rfl) ?_
                    refine op_call (i := 10) (#[.string fp, .string qp]) rfl (by rfl) (enters_of Tryd.func94 (by kernel_rfl) rfl) (by first | (simp [Act.eval]; done) | rfl | (simp only [List.map_toArray, List.map_cons, List.map_nil, Act.eval]; rfl) | (simp [Act.eval]; trace_state; done)) ?_
                    refine (HU.out _).mono ?_
                    rintro e W3 ⟨rfl, rfl⟩
                    refine ⟨_, rfl, hSc, ?_⟩
                    simp only [Act.put, List.setIfInBounds_toArray, List.set_cons_zero, List.set_cons_succ]
                    refine wpAnyG_done (by kernel_rfl) ?_ _
                    have HC5 := hide (HCJ.out.trans hSc (S'' := fun _ => False) (fun _ _ h => h) (fun _ _ h => h))
                    clear hS0 hSc hj0 hk0'
                    go_wp2_with fail
                    go_roundw
                    case rel => exact ⟨j + 1, by omega, by go_num, HNX, HC5⟩
                    case measure => simp [intOf]; omega
                · obtain rfl : j = k := by omega
                  have hany : (t.take j).any (fun g => underB fp g.path) = false := by
                    rw [List.any_eq_false]
                    intro x hx
                    obtain ⟨i, hi, rfl⟩ := List.mem_take_iff_getElem.1 hx
                    rw [HJ.out i (by omega) (by omega)]
                    decide
                  have HOKV := hide (HOKE.out.trans (by rw [hany]; rfl) : okAt t j = true)
                  clear hany
                  have hkl := HKL.out
                  go_wp2_with fail
                  go_roundw
                  case rel =>
                    refine ⟨j + 1, by omega, by go_num, fun m hm => ?_, HCJ⟩
                    by_cases e : m = j
                    · rw [e]; exact HOKV.out
                    · exact HN.out m (by omega)
                  case measure => simp [intOf]; omega
          · have dz : decide ((fd.size : Int) > 400) = true := decide_eq_true (by omega)
            have HNO := hide (mayT_no hkl (h2 hz))
            clear h1 h2 h3 h4 hpb hpx HUN
            go_wp2_with fail
            refine reg_start (Chg (fun _ => False) wo) 34 34 (by rfl) (by kernel_rfl) (Chg.drew _ _) ?_
            intro hS0
            have hSc := hS0
            refine reg_take (i := 0) (v := ?g147v) rfl (by kernel_rfl) (by kernel_rfl) (by kernel_rfl) (by kernel_rfl) (fun _ _ _ h => h) (by rfl) ?g147y (by assumption) ?g147r
            case g147y => (intro W hS; first | (go_simp; done) | (go_simp; with_reducible rfl))
            simp only [Act.put, List.setIfInBounds_toArray, List.set_cons_zero, List.set_cons_succ]
            refine reg_take (i := 1) (v := ?g148v) rfl (by kernel_rfl) (by kernel_rfl) (by kernel_rfl) (by kernel_rfl) (fun _ _ _ h => h) (by rfl) ?g148y (by assumption) ?g148r
            case g148y => (intro W hS; first | (go_simp; done) | (go_simp; with_reducible rfl))
            simp only [Act.put, List.setIfInBounds_toArray, List.set_cons_zero, List.set_cons_succ]
            refine reg_take (i := 2) (v := ?g149v) rfl (by kernel_rfl) (by kernel_rfl) (by kernel_rfl) (by kernel_rfl) (fun _ _ _ h => h) (by rfl) ?g149y (by assumption) ?g149r
            case g149y => (intro W hS; first | (go_simp; done) | (go_simp; with_reducible rfl))
            simp only [Act.put, List.setIfInBounds_toArray, List.set_cons_zero, List.set_cons_succ]
            refine reg_take (i := 3) (v := ?g150v) rfl (by kernel_rfl) (by kernel_rfl) (by kernel_rfl) (by kernel_rfl) (fun _ _ _ h => h) (by rfl) ?g150y (by assumption) ?g150r
            case g150y => (intro W hS; first | (go_simp; done) | (go_simp; with_reducible rfl))
            simp only [Act.put, List.setIfInBounds_toArray, List.set_cons_zero, List.set_cons_succ]
            refine reg_take (i := 4) (v := ?g151v) rfl (by kernel_rfl) (by kernel_rfl) (by kernel_rfl) (by kernel_rfl) (fun _ _ _ h => h) (by rfl) ?g151y (by assumption) ?g151r
            case g151y => (intro W hS; have f0 := hS.cell hf0 (fun h => h); have f1 := hS.cell hf1 (fun h => h); first | (go_simp; done) | (go_simp; with_reducible rfl))
            simp only [Act.put, List.setIfInBounds_toArray, List.set_cons_zero, List.set_cons_succ]
            refine reg_one (i := 5) (by kernel_rfl) ?_
            refine op_call (i := 5) (#[.string fp]) rfl (by rfl) (enters_of Tryd.func93 (by kernel_rfl) rfl) (by first | (simp [Act.eval]; done) | rfl | (simp only [List.map_toArray, List.map_cons, List.map_nil, Act.eval]; rfl) | (simp [Act.eval]; trace_state; done)) ?_
            refine (HPC.out _).mono ?_
            rintro e W3 ⟨rfl, rfl⟩
            refine ⟨_, rfl, hSc, ?_⟩
            simp only [Act.put, List.setIfInBounds_toArray, List.set_cons_zero, List.set_cons_succ]
            refine reg_take (i := 6) (v := ?g152v) rfl (by kernel_rfl) (by kernel_rfl) (by kernel_rfl) (by kernel_rfl) (fun _ _ _ h => h) (by rfl) ?g152y (by assumption) ?g152r
            case g152y => (intro W hS; first | (go_simp; done) | (go_simp; with_reducible rfl))
            simp only [Act.put, List.setIfInBounds_toArray, List.set_cons_zero, List.set_cons_succ]
            refine reg_take (i := 7) (v := ?g153v) rfl (by kernel_rfl) (by kernel_rfl) (by kernel_rfl) (by kernel_rfl) (fun _ _ _ h => h) (by rfl) ?g153y (by assumption) ?g153r
            case g153y => (intro W hS; first | (go_simp; done) | (go_simp; with_reducible rfl))
            simp only [Act.put, List.setIfInBounds_toArray, List.set_cons_zero, List.set_cons_succ]
            refine reg_take (i := 8) (v := ?g154v) rfl (by kernel_rfl) (by kernel_rfl) (by kernel_rfl) (by kernel_rfl) (fun _ _ _ h => h) (by rfl) ?g154y (by assumption) ?g154r
            case g154y => (intro W hS; first | (go_simp; done) | (go_simp; with_reducible rfl))
            simp only [Act.put, List.setIfInBounds_toArray, List.set_cons_zero, List.set_cons_succ]
            refine reg_take (i := 9) (v := ?g155v) rfl (by kernel_rfl) (by kernel_rfl) (by kernel_rfl) (by kernel_rfl) (fun _ _ _ h => h) (by rfl) ?g155y (by assumption) ?g155r
            case g155y => (intro W hS; first | (go_simp; done) | (go_simp; with_reducible rfl))
            simp only [Act.put, List.setIfInBounds_toArray, List.set_cons_zero, List.set_cons_succ]
            refine reg_take (i := 10) (v := ?g156v) rfl (by kernel_rfl) (by kernel_rfl) (by kernel_rfl) (by kernel_rfl) (fun _ _ _ h => h) (by rfl) ?g156y (by assumption) ?g156r
            case g156y => (intro W hS; first | (go_simp; done) | (go_simp; with_reducible rfl))
            simp only [Act.put, List.setIfInBounds_toArray, List.set_cons_zero, List.set_cons_succ]
            refine reg_take (i := 11) (v := ?g157v) rfl (by kernel_rfl) (by kernel_rfl) (by kernel_rfl) (by kernel_rfl) (fun _ _ _ h => h) (by rfl) ?g157y (by assumption) ?g157r
            case g157y => (intro W hS; first | (go_simp; done) | (go_simp; with_reducible rfl))
            simp only [Act.put, List.setIfInBounds_toArray, List.set_cons_zero, List.set_cons_succ]
            refine reg_take (i := 12) (v := ?g158v) rfl (by kernel_rfl) (by kernel_rfl) (by kernel_rfl) (by kernel_rfl) (fun _ _ _ h => h) (by rfl) ?g158y (by assumption) ?g158r
            case g158y => (intro W hS; have f0 := hS.cell hf0 (fun h => h); have f1 := hS.cell hf1 (fun h => h); first | (go_simp; done) | (go_simp; with_reducible rfl))
            simp only [Act.put, List.setIfInBounds_toArray, List.set_cons_zero, List.set_cons_succ]
            refine reg_take (i := 13) (v := ?g159v) rfl (by kernel_rfl) (by kernel_rfl) (by kernel_rfl) (by kernel_rfl) (fun _ _ _ h => h) (by rfl) ?g159y (by assumption) ?g159r
            case g159y => (intro W hS; first | (go_simp; done) | (go_simp; with_reducible rfl))
            simp only [Act.put, List.setIfInBounds_toArray, List.set_cons_zero, List.set_cons_succ]
            refine reg_take (i := 14) (v := ?g160v) rfl (by kernel_rfl) (by kernel_rfl) (by kernel_rfl) (by kernel_rfl) (fun _ _ _ h => h) (by rfl) ?g160y (by assumption) ?g160r
            case g160y => (intro W hS; first | (go_simp; done) | (go_simp; with_reducible rfl))
            simp only [Act.put, List.setIfInBounds_toArray, List.set_cons_zero, List.set_cons_succ]
            refine reg_take (i := 15) (v := ?g161v) rfl (by kernel_rfl) (by kernel_rfl) (by kernel_rfl) (by kernel_rfl) (fun _ _ _ h => h) (by rfl) ?g161y (by assumption) ?g161r
            case g161y => (intro W hS; first | (go_simp; done) | (go_simp; with_reducible rfl))
            simp only [Act.put, List.setIfInBounds_toArray, List.set_cons_zero, List.set_cons_succ]
            refine reg_take (i := 16) (v := ?g162v) rfl (by kernel_rfl) (by kernel_rfl) (by kernel_rfl) (by kernel_rfl) (fun _ _ _ h => h) (by rfl) ?g162y (by assumption) ?g162r
            case g162y => (intro W hS; first | (go_simp; done) | (go_simp; with_reducible rfl))
            simp only [Act.put, List.setIfInBounds_toArray, List.set_cons_zero, List.set_cons_succ]
            refine reg_skip (i := 17) rfl (by kernel_rfl) (by kernel_rfl) (by kernel_rfl) (by kernel_rfl) (fun _ _ _ h => h) (by rfl) (by assumption) ?_
            simp only [Act.put, List.setIfInBounds_toArray, List.set_cons_zero, List.set_cons_succ]
            refine reg_skip (i := 18) rfl (by kernel_rfl) (by kernel_rfl) (by kernel_rfl) (by kernel_rfl) (fun _ _ _ h => h) (by rfl) (by assumption) ?_
            simp only [Act.put, List.setIfInBounds_toArray, List.set_cons_zero, List.set_cons_succ]
            refine reg_skip (i := 19) rfl (by kernel_rfl) (by kernel_rfl) (by kernel_rfl) (by kernel_rfl) (fun _ _ _ h => h) (by rfl) (by assumption) ?_
            simp only [Act.put, List.setIfInBounds_toArray, List.set_cons_zero, List.set_cons_succ]
            refine reg_skip (i := 20) rfl (by kernel_rfl) (by kernel_rfl) (by kernel_rfl) (by kernel_rfl) (fun _ _ _ h => h) (by rfl) (by assumption) ?_
            simp only [Act.put, List.setIfInBounds_toArray, List.set_cons_zero, List.set_cons_succ]
            refine reg_skip (i := 21) rfl (by kernel_rfl) (by kernel_rfl) (by kernel_rfl) (by kernel_rfl) (fun _ _ _ h => h) (by rfl) (by assumption) ?_
            simp only [Act.put, List.setIfInBounds_toArray, List.set_cons_zero, List.set_cons_succ]
            refine reg_skip (i := 22) rfl (by kernel_rfl) (by kernel_rfl) (by kernel_rfl) (by kernel_rfl) (fun _ _ _ h => h) (by rfl) (by assumption) ?_
            simp only [Act.put, List.setIfInBounds_toArray, List.set_cons_zero, List.set_cons_succ]
            refine reg_skip (i := 23) rfl (by kernel_rfl) (by kernel_rfl) (by kernel_rfl) (by kernel_rfl) (fun _ _ _ h => h) (by rfl) (by assumption) ?_
            simp only [Act.put, List.setIfInBounds_toArray, List.set_cons_zero, List.set_cons_succ]
            refine reg_skip (i := 24) rfl (by kernel_rfl) (by kernel_rfl) (by kernel_rfl) (by kernel_rfl) (fun _ _ _ h => h) (by rfl) (by assumption) ?_
            simp only [Act.put, List.setIfInBounds_toArray, List.set_cons_zero, List.set_cons_succ]
            refine reg_skip (i := 25) rfl (by kernel_rfl) (by kernel_rfl) (by kernel_rfl) (by kernel_rfl) (fun _ _ _ h => h) (by rfl) (by assumption) ?_
            simp only [Act.put, List.setIfInBounds_toArray, List.set_cons_zero, List.set_cons_succ]
            refine reg_skip (i := 26) rfl (by kernel_rfl) (by kernel_rfl) (by kernel_rfl) (by kernel_rfl) (fun _ _ _ h => h) (by rfl) (by assumption) ?_
            simp only [Act.put, List.setIfInBounds_toArray, List.set_cons_zero, List.set_cons_succ]
            refine reg_skip (i := 27) rfl (by kernel_rfl) (by kernel_rfl) (by kernel_rfl) (by kernel_rfl) (fun _ _ _ h => h) (by rfl) (by assumption) ?_
            simp only [Act.put, List.setIfInBounds_toArray, List.set_cons_zero, List.set_cons_succ]
            refine reg_skip (i := 28) rfl (by kernel_rfl) (by kernel_rfl) (by kernel_rfl) (by kernel_rfl) (fun _ _ _ h => h) (by rfl) (by assumption) ?_
            simp only [Act.put, List.setIfInBounds_toArray, List.set_cons_zero, List.set_cons_succ]
            refine reg_skip (i := 29) rfl (by kernel_rfl) (by kernel_rfl) (by kernel_rfl) (by kernel_rfl) (fun _ _ _ h => h) (by rfl) (by assumption) ?_
            simp only [Act.put, List.setIfInBounds_toArray, List.set_cons_zero, List.set_cons_succ]
            refine reg_skip (i := 30) rfl (by kernel_rfl) (by kernel_rfl) (by kernel_rfl) (by kernel_rfl) (fun _ _ _ h => h) (by rfl) (by assumption) ?_
            simp only [Act.put, List.setIfInBounds_toArray, List.set_cons_zero, List.set_cons_succ]
            refine reg_skip (i := 31) rfl (by kernel_rfl) (by kernel_rfl) (by kernel_rfl) (by kernel_rfl) (fun _ _ _ h => h) (by rfl) (by assumption) ?_
            simp only [Act.put, List.setIfInBounds_toArray, List.set_cons_zero, List.set_cons_succ]
            refine reg_skip (i := 32) rfl (by kernel_rfl) (by kernel_rfl) (by kernel_rfl) (by kernel_rfl) (fun _ _ _ h => h) (by rfl) (by assumption) ?_
            simp only [Act.put, List.setIfInBounds_toArray, List.set_cons_zero, List.set_cons_succ]
            refine reg_take (i := 33) (v := ?g163v) rfl (by kernel_rfl) (by kernel_rfl) (by kernel_rfl) (by kernel_rfl) (fun _ _ _ h => h) (by rfl) ?g163y (by assumption) ?g163r
            case g163y => (intro W hS; first | (go_simp; done) | (go_simp; with_reducible rfl))
            simp only [Act.put, List.setIfInBounds_toArray, List.set_cons_zero, List.set_cons_succ]
            refine wpAnyG_done (by kernel_rfl) ?_ _
            have HC3 := hide (HC.out.trans hSc (S'' := fun _ => False) (fun _ _ h => h) (fun _ _ h => h))
            clear hS0 hSc
            go_wp2_with fail
            go_ret
            exact ⟨ret_bool (HR.out.trans HNO.out).symm, HC3.out.below (Nat.le_refl _) (fun _ _ h => h)⟩
      · obtain rfl : k = t.length := by omega
        have hrr : r = true := by rw [HR.out]; exact mayT_yes HL.out HN.out
        have HRR := hide hrr
        clear hrr HN
        go_wp2_with fail
        go_ret
        exact ⟨ret_bool HRR.out.symm, HC.out.below (Nat.le_refl _) (fun _ _ h => h)⟩
  · have d1 : decide ((t.length : Int) > 12) = true := decide_eq_true (by omega)
    have hrr : r = false := by rw [hr, mayT, decide_eq_false hl]; rfl
    have HR := hide hrr
    clear ht hr hl hrr
    go_enter Tryd.func71, Tryd.ntmps71
    go_wp2_with fail
    go_ret
    exact ⟨ret_bool HR.out.symm, Below.refl _ _⟩
end Go.Proofs.YtjmmmpnpkialjaaDoor
