/- The document's graph: Ahead, Is. Conditions: parents are lesser numbers. -/
import Derived.Test.YtnnkbicaokckbaaDoorMk
import Derived.Test.YtnnkbicaokckbaaDoorRfD
import Derived.Test.YtnnkbicaokckbaaDoorDgA
namespace Go.Proofs.YtnnkbicaokckbaaDoor
open Go.RowKit Go.Shelf

theorem hasN_in {m : Nat} {n : Int} (h : 1 ≤ n ∧ n ≤ (m : Int)) : hasN m n = true := by rw [hasN, decide_eq_true h.1, decide_eq_true h.2]; rfl
theorem hasN_out {m : Nat} {n : Int} (h : ¬ (1 ≤ n ∧ n ≤ (m : Int))) : hasN m n = false := by
  rw [← Bool.not_eq_true, hasN, Bool.and_eq_true, decide_eq_true_eq, decide_eq_true_eq]; exact h
theorem cms_get {l : List CmV} {k : Nat} (h : k < l.length) (h' : k < (cms l).length) : (cms l)[k] = l[k].c := by simp [cms]
theorem parN_cms {l : List CmV} {k : Nat} (h : k < l.length) : parN (cms l) ((k : Int) + 1) = l[k].c.parents := by
  have h' : k < (cms l).length := by rw [cms_length]; exact h
  rw [parN_in h' rfl, cms_get h h']
theorem row_cell {w : World} {base : Nat} {e : TypeId} {g n cap : Nat} {xs : List Value} (h : w.ownsRow base e 1 (.slice (some ⟨g, 0, none⟩) n cap) n xs) {i : Nat} (hi : i < n) : (∃ u, w.cell? ⟨g, i, none⟩ = some u) ∧ w.frozen? ⟨g, i, none⟩ = false := by
  rcases h.2 with ⟨e, _⟩ | ⟨g', cap', cur, e, hbg, hgg, hnc, hcm, hcs, ht⟩
  · cases e
  · cases e
    exact ⟨cell_some hgg i (by omega), free_of_heap hgg i⟩
/-- Where the scan stands: the marks, and what was told. -/
structure AhSt (w w5 : World) (g L : Nat) (out : List Int) (v : Value) (ms : List Bool) (W : World) : Prop where
  mks : MkR w.heap.size g L w5 ms W
  row : W.ownsRow w5.heap.size 3 1 v out.length (out.map (Value.int .i64))
variable {base : Nat} {w : World} {p : Nat} {ao : Option Addr} {cap : Nat} {l : List CmV} {room : Int}

set_option maxRecDepth 100000 in
set_option maxHeartbeats 4000000 in
theorem ref11_Ahead (h : RefAt base w p ao cap l room) (hd : DagOk (cms l)) (n : Int) :
    Calls Tryd.prog 41 #[.pointer (some ⟨p, 0, none⟩), .int .i64 n] w fun e w' => ∃ a c, e = .returned (.slice a (aheadN (cms l) n).length c) ∧ w'.ownsRow w.heap.size 3 1 (.slice a (aheadN (cms l) n).length c) (aheadN (cms l) n).length ((aheadN (cms l) n).map (Value.int .i64)) ∧ Below w.heap.size w w' := by
  obtain ⟨i0, hi, hz0, hz1, hz2⟩ := info_parts bool_slT.info
  have HAS := hide (ref10_Has h n)
  have hcl : (cms l).length = l.length := cms_length l
  have hL60 := hd.len
  rw [hcl] at hL60
  have HH := hide h
  have HD := hide hd
  by_cases hr : 1 ≤ n ∧ n ≤ (l.length : Int)
  case neg =>
    have hb := hasN_out hr
    have HZ := hide (show aheadN (cms l) n = [] by rw [aheadN, if_neg (by rw [hcl]; exact hr)])
    clear h hd hcl hr hi hz0 hz1 hz2
    go_enter Tryd.func41, Tryd.ntmps41
    go_wp2_with fail
    refine HAS.out.mono ?_
    rintro e w' ⟨rfl, rfl⟩
    go_wp2_with fail
    go_ret
    refine ⟨none, 0, by rw [HZ.out]; rfl, ?_, Below.refl _ _⟩
    rw [HZ.out]
    exact World.ownsRow_nil _ _ _ _
  case pos =>
    have hb := hasN_in hr
    obtain ⟨N, rfl⟩ : ∃ N : Nat, n = (N : Int) := ⟨n.toNat, by omega⟩
    have hN : 1 ≤ N ∧ N ≤ l.length := by omega
    obtain ⟨L, hLL⟩ : ∃ L, L = l.length := ⟨_, rfl⟩
    obtain ⟨A, hA⟩ : ∃ A, A = aheadN (cms l) N := ⟨_, rfl⟩
    have hAl : A.length ≤ 60 := by rw [hA]; have := aheadN_length (cms l) N; omega
    have HSS : Hid (scan (cms l) N (mkF ((List.replicate (L + 1) false).set N true)) = A) := hide (by rw [hA, ← scan_start (by omega), hcl, hLL])
    rw [← hA]
    have h0 := h.c0
    obtain ⟨a', c', e, -, hcs0⟩ := h.rd.shape
    obtain ⟨b, off, rfl, hcs⟩ := hcs0 (by omega)
    cases e
    have HCV := hide hcs
    clear hcs hcs0
    rw [← hLL] at h0 hN hL60
    have HLL := hide hLL
    obtain ⟨g, hgg⟩ : ∃ g, g = w.heap.size := ⟨_, rfl⟩
    clear h hd hcl hr hA hLL
    go_enter Tryd.func41, Tryd.ntmps41
    go_wp2_with fail
    refine HAS.out.mono ?_
    rintro e w' ⟨rfl, hw'⟩
    rw [hw']
    clear hw'
    go_wp2_with (at_make; go_loud ((refine wpList_make_full _ rfl _ _ 68 rfl w.heap.size 4 i0 (.bool false) 1 bool_slT.under hi hz0 hz1 _ _ _ _ (L + 1) rfl rfl (by omega) (by omega) (by rw [hz2]; omega) (by unfold maxLen; omega) (Nat.le_refl _) ?_); intro w5 hown hgr; rw [← hgg] at hown ⊢; have HGG := hide hgg; clear hgg; have hrc := row_cell hown (i := N) (by omega); obtain ⟨⟨uu, fu⟩, eu⟩ := hrc; have hNi : (N : Int) < (L : Int) + 1 := (by omega); have HO5 := hide hown; have HG5 := hide hgr; clear hown hgr))
    have hc5 : Chg (fun _ => False) w w5 := (Chg.grown HG5.out).mono (fun _ _ h => by cases h)
    have HC5 := hide hc5
    have hst := HO5.out.stored N (.bool true)
    have HST := hide hst.1
    have h05 := hc5.cell h0 (fun h => h)
    have hw6 : Chg (fun k => k = g) w5 (w5.setCell ⟨g, N, none⟩ (.bool true)) := Chg.setCell w5 ⟨g, N, none⟩ (.bool true)
    clear hst hc5 h0
    generalize hwz : w5.setCell ⟨g, N, none⟩ (.bool true) = w6 at HST hw6
    have HWZ := hide hwz
    have HW6 := hide hw6
    have HCW : Hid (∀ Wx, Chg (fun k => k = g) w5 Wx → Chg (fun _ => False) w Wx) := hide (fun Wx h => HC5.out.trans h (fun _ _ h => h) (fun i hi h => by have e : i = g := h; have := HGG.out; omega))
    have HMK : Hid (MkR w.heap.size g L w5 ((List.replicate (L + 1) false).set N true) w6) := hide ⟨by
      have e : ((List.replicate (L + 1) false).set N true).map Value.bool = (madeCells (Value.bool false).cells ((L + 1) * 1)).toList.set N (.bool true) := by
        have e1 : (Value.bool false).cells = #[.bool false] := rfl
        have e2 : (madeCells #[Value.bool false] ((L + 1) * 1)).toList = List.replicate (L + 1) (.bool false) := by
          rw [Nat.mul_one]
          apply List.ext_getElem
          · simp [madeCells]
          · intro i h1 h2
            simp [madeCells, Nat.mod_one]
        rw [e1, e2, List.map_set, List.map_replicate]
      rw [e, ← HGG.out]
      exact HST.out, HW6.out⟩
    clear hwz hw6 HST hi hz0 hz1 hz2
    clear fu eu h05
    go_loopw [6, 7] (fun v i wr => ∃ (k : Nat) (out : List Int) (ms : List Bool), k ≤ N ∧ i = .int .i64 k ∧ out.length ≤ 60 ∧ (∃ a1 c1, v = .slice a1 out.length c1) ∧ Hid (AhSt w w5 g L out v ms wr) ∧ Hid (out ++ scan (cms l) k (mkF ms) = A)) (fun _ i _ => (intOf i).toNat)
    case atStart => exact ⟨N, [], _, Nat.le_refl _, rfl, by simp, ⟨none, 0, rfl⟩, ⟨HMK.out, World.ownsRow_nil _ _ _ _⟩, HSS.out⟩
    case round =>
      obtain ⟨k, out, ms, hk, rfl, hol, ⟨a1, c1, rfl⟩, HS, HE⟩ := hrel
      obtain ⟨wo, rfl⟩ : ∃ wo : World, wo = wr := ⟨_, rfl⟩
      have hcw := HCW.out wo HS.out.mks.chg
      have HCO := hide hcw
      have h0 := (HH.out.same hcw).c0
      rw [← HLL.out] at h0
      cases k with
      | zero =>
        have he := HE.out
        rw [scan, List.append_nil] at he
        subst he
        have HR := hide (ownsRow_base HS.out.row (base' := w.heap.size) (fun k hk => by have := (ownsRow_lt HS.out.row k hk).1; have := HC5.out.size; omega))
        have HB := hide (hcw.below (Nat.le_refl _) (fun _ _ h => h))
        clear hcw h0
        go_wp2_with fail
        go_ret
        exact ⟨a1, c1, rfl, HR.out, HB.out⟩
      | succ k =>
        have hms := HS.out.mks.len
        have htl : k + 1 < ms.length := by omega
        have hcell : wo.cell? ⟨g, k + 1, none⟩ = some (.bool ms[k + 1]) := by
          have := (Rd.of_owns HS.out.mks.row).add (k + 1) (.bool ms[k + 1]) (by rw [List.getElem?_map, List.getElem?_eq_getElem htl]; rfl)
          rw [Addr.add_lit, Nat.zero_add] at this
          exact this
        have hmk : mkF ms ((k : Int) + 1) = ms[k + 1] := by
          unfold mkF
          rw [show ((k : Int) + 1).toNat = k + 1 by omega, List.getD_eq_getElem?_getD, List.getElem?_eq_getElem htl]; rfl
        have hki : ((k + 1 : Nat) : Int) < (L : Int) + 1 := by omega
        have hge : decide (((k + 1 : Nat) : Int) ≥ 1) = true := decide_eq_true (by omega)
        have hwk : IntKind.i64.wrap ((k : Int) + 1) = (k : Int) + 1 := IntWalk.i64_in _ (by omega)
        cases hbt : ms[k + 1] with
        | false =>
          rw [hbt] at hcell hmk
          have HE2 := hide (show out ++ scan (cms l) k (mkF ms) = A by rw [← scan_nomark _ _ _ hmk]; exact HE.out)
          clear hmk hbt hcw h0
          go_wp2_with fail
          go_roundw
          case rel => exact ⟨k, out, ms, by omega, by go_num, hol, ⟨a1, c1, rfl⟩, HS.out, HE2.out⟩
          case measure => simp [intOf]
        | true =>
          rw [hbt] at hcell hmk
          have hpp : parN (cms l) ((k : Int) + 1) = (l[k]'(by have := HLL.out; omega)).c.parents := parN_cms _
          have HSC := hide (show out ++ ((k : Int) + 1) :: scan (cms l) k (mkF (markAll ms (parN (cms l) ((k : Int) + 1)))) = A by rw [← scan_marks (cms l) k ms (by omega) hmk (fun x hx => by have := HD.out.par _ _ hx; omega)]; exact HE.out)
          have hkl : k < l.length := by have := HLL.out; omega
          have hcm := HH.out.cms l[k] (List.getElem_mem hkl)
          have HCA := hide (fun Wx (hc : Chg (fun _ => False) w Wx) => And.intro (show Wx.cell? ⟨p, 0, none⟩ = some (.slice (some ⟨b, off, none⟩) L cap) by have := (HH.out.same hc).c0; rwa [← HLL.out] at this) (And.intro (hc.cell (cv_cells w b off l HCV.out k hkl).1 (fun h => h)) (hcm.1.same hc).ps))
          obtain ⟨ps, hps⟩ : ∃ ps, ps = parN (cms l) ((k : Int) + 1) := ⟨_, rfl⟩
          rw [← hps] at HSC hpp
          have HPS := hide hps
          have hfew : ps.length ≤ 2 := by rw [hps]; exact HD.out.few _
          have HPAR : Hid (∀ x ∈ ps, 1 ≤ x ∧ x < (k : Int) + 1) := hide (by rw [hps]; exact HD.out.par _)
          rw [← hpp] at HCA
          obtain ⟨vp, hvp⟩ : ∃ vp, vp = l[k].vp := ⟨_, rfl⟩
          rw [← hvp] at HCA
          obtain ⟨av, cv, e, -, -⟩ := (HCA.out w (Chg.refl _ _)).2.2.shape
          subst e
          clear hmk hbt hcw hpp hcm hps hvp
          go_wp2_with (at_builtin; go_loud ((refine wpl_append rfl _ _ _ rfl int_slT w5.heap.size (HS.out.row.alloc _) (Rd_lit wo #[.int .i64 ((k : Int) + 1)] 3 1) rfl rfl rfl (by simp [Value.oneCell']) (by unfold maxLen; omega) (by omega) (by have := HS.out.mks.chg.size; simp; omega) ?_); intro ao1 cap1 w9 hown hg hat hnil; have hg9 := (Chg.alloc (fun _ => False) wo _).trans hg (S'' := fun j => (Value.slice a1 out.length c1).ownBlock = some j) (fun _ _ h => h.elim) (fun _ _ h => h); have hc9 := HCO.out.trans hg9 (S'' := fun _ => False) (fun _ _ h => h) (fun j hj h => (by have h1 := (ownsRow_lt HS.out.row j h).1; have h2 := HC5.out.size; omega)); obtain ⟨q0, q1, q2⟩ := HCA.out w9 hc9; have HO9 := hide hown; have HG9 := hide hg9; have HC9 := hide hc9; have HQ2 := hide q2; clear hown hg hat hnil hg9 hc9 q2 h0))
          have HROW9 : Hid (w9.ownsRow w5.heap.size 3 1 (.slice ao1 (out ++ [(k : Int) + 1]).length cap1) (out ++ [(k : Int) + 1]).length ((out ++ [(k : Int) + 1]).map (Value.int .i64))) := hide (by
            have := HO9.out
            rw [List.length_append, List.length_singleton, List.map_append]
            exact this)
          have hgn : ∀ j, (Value.slice a1 out.length c1).ownBlock = some j → j ≠ g := fun j h e => by
            have h1 := (ownsRow_lt HS.out.row j h).1
            have h2 := (ownsRow_lt HMK.out.row g rfl).2
            have h3 := HW6.out.size
            have h4 := (ownsRow_lt HO5.out g rfl).2
            omega
          have HMK9 : Hid (MkR w.heap.size g L w5 ms w9) := hide ⟨HG9.out.owns HS.out.mks.row (fun j hj h => hgn j h (by cases hj; rfl)), HS.out.mks.chg.trans HG9.out (fun _ _ h => h) (fun j hj h => by have h1 := (ownsRow_lt HS.out.row j h).1; omega)⟩
          have HG59 := hide (ownsRow_lt HO5.out g rfl).2
          have HOL : Hid ((out ++ [(k : Int) + 1]).length ≤ 60) := hide (by have := HSC.out; have := congrArg List.length this; simp at this ⊢; omega)
          clear q0 q1 hcell hgn
          go_loopw [9] (fun i wr => ∃ j : Nat, j ≤ ps.length ∧ i = .int .i64 j ∧ Hid (MkR w.heap.size g L w5 (markAll ms (ps.take j)) wr) ∧ Hid (Chg (fun k => k = g) w9 wr)) (fun i _ => ps.length - (intOf i).toNat)
          case atStart => exact ⟨0, Nat.zero_le _, rfl, HMK9.out, Chg.refl _ _⟩
          case round =>
            obtain ⟨j, hj, rfl, HMI, HCI⟩ := hrel
            obtain ⟨wi, rfl⟩ : ∃ wi : World, wi = wr := ⟨_, rfl⟩
            by_cases hjl : j < ps.length
            · have hrd := (HCA.out wi (HCW.out wi HMI.out.chg)).2.2
              obtain ⟨a', c', e, -, hcs0⟩ := hrd.shape
              obtain ⟨b1, off1, rfl, hcs⟩ := hcs0 (by omega)
              cases e
              have hz0 : wi.cell? ⟨b1, off1 + j, none⟩ = some (.int .i64 ps[j]) := hcs j (.int .i64 ps[j]) (by rw [flat_int, List.getElem?_map, List.getElem?_eq_getElem hjl]; rfl)
              have hzr := HPAR.out ps[j] (List.getElem_mem hjl)
              have htj := take_succ_get ps j hjl
              have hwj : IntKind.i64.wrap (j : Int) = j := IntWalk.i64_in _ (by omega)
              have hji : (j : Int) < (ps.length : Int) := by omega
              obtain ⟨z, hz⟩ : ∃ z, z = ps[j] := ⟨_, rfl⟩
              rw [← hz] at hz0 hzr htj
              obtain ⟨zn, rfl⟩ : ∃ zn : Nat, z = (zn : Int) := ⟨z.toNat, by omega⟩
              have HTJ := hide htj
              have hst := HMI.out.row.stored zn (.bool true)
              obtain ⟨⟨uu, fu⟩, eu⟩ := row_cell HMI.out.row (i := zn) (by omega)
              have hzl : (zn : Int) < (L : Int) + 1 := by omega
              have HST := hide hst.1
              clear hrd hcs hcs0 hz htj hst hzr
              go_wp2_with fail
              go_roundw
              case rel =>
                refine ⟨j + 1, by omega, by go_num, ⟨?_, HMI.out.chg.trans (Chg.setCell _ _ _) (fun _ _ h => h) (fun _ _ h => h)⟩, HCI.out.trans (Chg.setCell _ _ _) (fun _ _ h => h) (fun _ _ h => h)⟩
                rw [HTJ.out, markAll_snoc, List.map_set]
                exact HST.out
              case measure => simp [intOf]; omega
            · obtain rfl : j = ps.length := by omega
              have hmi := HMI.out
              rw [List.take_length] at hmi
              have hrw := HCI.out.owns HROW9.out (fun b hb e => (by have h1 := (ownsRow_lt HROW9.out b hb).1; have h2 := HG59.out; have e' : b = g := e; omega))
              have HS2 : Hid (AhSt w w5 g L (out ++ [(k : Int) + 1]) (.slice ao1 (out ++ [(k : Int) + 1]).length cap1) (markAll ms ps) wi) := hide ⟨hmi, hrw⟩
              clear hmi hrw
              go_wp2_with fail
              go_roundw
              case rel => exact ⟨k, out ++ [(k : Int) + 1], markAll ms ps, by omega, by go_num, HOL.out, ⟨ao1, cap1, by simp⟩, by have := HS2.out; rw [List.length_append, List.length_singleton] at this; exact hide this, hide (by rw [List.append_assoc]; exact HSC.out)⟩
              case measure => simp [intOf]

theorem ref11_Is (h : RefAt base w p ao cap l room) (hd : DagOk (cms l)) (a n : Int) :
    Calls Tryd.prog 43 #[.pointer (some ⟨p, 0, none⟩), .int .i64 a, .int .i64 n] w fun e w' => e = .returned (.bool (isN (cms l) a n)) ∧ Below w.heap.size w w' := by
  have HA := hide (ref11_Ahead h hd n)
  have hlen := aheadN_length (cms l) n
  have hl60 := hd.len
  obtain ⟨zs, hzs⟩ : ∃ zs, zs = aheadN (cms l) n := ⟨_, rfl⟩
  have HR : Hid (isN (cms l) a n = zs.contains a) := hide (by rw [hzs]; rfl)
  rw [← hzs] at HA hlen
  clear h hd hzs
  go_enter Tryd.func43, Tryd.ntmps43
  go_wp2_with fail
  refine HA.out.mono ?_
  rintro e w2 ⟨a2, c2, rfl, ho2, hb2⟩
  have HO2 := hide ho2
  have HB2 := hide hb2
  clear ho2 hb2
  go_wp2_with fail
  go_loopw [8] (fun i wr => ∃ k : Nat, k ≤ zs.length ∧ i = .int .i64 k ∧ Hid ((zs.take k).contains a = false) ∧ wr = w2) (fun i _ => zs.length - (intOf i).toNat)
  case atStart => exact ⟨0, Nat.zero_le _, rfl, rfl, rfl⟩
  case round =>
    obtain ⟨k, hk, rfl, HN, hwr⟩ := hrel
    rw [hwr]
    clear hwr
    by_cases hkl : k < zs.length
    · obtain ⟨a', c', e, -, hcs0⟩ := (Rd.of_owns HO2.out).shape
      obtain ⟨b1, off1, rfl, hcs⟩ := hcs0 (by omega)
      cases e
      have hz0 : w2.cell? ⟨b1, off1 + k, none⟩ = some (.int .i64 zs[k]) := hcs k (.int .i64 zs[k]) (by rw [List.getElem?_map, List.getElem?_eq_getElem hkl]; rfl)
      have htk := take_succ_get zs k hkl
      have hwk : IntKind.i64.wrap (k : Int) = k := IntWalk.i64_in _ (by omega)
      have hki : (k : Int) < (zs.length : Int) := by omega
      by_cases hz : zs[k] = a
      · have hb : (zs[k] == a) = true := by simp [hz]
        have HR2 := hide (show isN (cms l) a n = true by rw [HR.out, List.contains_iff_mem]; rw [← hz]; exact List.getElem_mem hkl)
        generalize zs[k] = z at *
        clear hcs hcs0 htk hz
        go_wp2_with fail
        go_ret
        exact ⟨by rw [HR2.out]; rfl, HB2.out⟩
      · have hb : (zs[k] == a) = false := by simp [hz]
        have HN2 := hide (show (zs.take (k + 1)).contains a = false by
          rw [htk, List.contains_append, HN.out]
          simp only [List.contains_cons, List.contains_nil, Bool.or_false, Bool.false_or]
          rw [Bool.beq_comm]; exact hb)
        generalize zs[k] = z at *
        clear hcs hcs0 htk hz
        go_wp2_with fail
        go_roundw
        case rel => exact ⟨k + 1, by omega, by go_num, HN2.out, trivial⟩
        case measure => simp [intOf]; omega
    · obtain rfl : k = zs.length := by omega
      have HR2 := hide (show isN (cms l) a n = false by have := HN.out; rw [List.take_length] at this; rw [HR.out, this])
      go_wp2_with fail
      go_ret
      exact ⟨by rw [HR2.out]; rfl, HB2.out⟩
end Go.Proofs.YtnnkbicaokckbaaDoor
