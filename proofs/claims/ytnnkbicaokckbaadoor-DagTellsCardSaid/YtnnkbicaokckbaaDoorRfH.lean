/- The document's graph: Depth, First. Conditions: parents are lesser numbers. -/
import Derived.Test.YtnnkbicaokckbaaDoorRfG
import Derived.Test.YtnnkbicaokckbaaDoorDgF
namespace Go.Proofs.YtnnkbicaokckbaaDoor
open Go.RowKit Go.Shelf

variable {base : Nat} {w : World} {p : Nat} {ao : Option Addr} {cap : Nat} {l : List CmV} {room : Int}
/-- What the cells of a commit's parents are, wherever nothing else turned. -/
theorem ref_par (h : RefAt base w p ao cap l room) {k : Nat} (hk : k < l.length) {ps : List Int} (hps : ps = parN (cms l) ((k : Int) + 1)) : ∃ b off av cv, ao = some ⟨b, off, none⟩ ∧ ∀ Wx, Chg (fun _ => False) w Wx →
    Wx.cell? ⟨p, 0, none⟩ = some (.slice (some ⟨b, off, none⟩) l.length cap) ∧ Wx.cell? ⟨b, off + k * 3, none⟩ = some (.slice av ps.length cv) ∧ Rd Wx (.slice av ps.length cv) ps.length (flat int_enc ps) := by
  obtain ⟨a', c', e, -, hcs0⟩ := h.rd.shape
  obtain ⟨b, off, rfl, hcs⟩ := hcs0 (by omega)
  cases e
  have hp : ps = l[k].c.parents := by rw [hps]; exact parN_cms hk
  have hcm := h.cms l[k] (List.getElem_mem hk)
  obtain ⟨av, cv, e, -, -⟩ := hcm.1.ps.shape
  refine ⟨b, off, av, cv, rfl, fun Wx hc => ⟨(h.same hc).c0, ?_, ?_⟩⟩
  · have h1 := (cv_cells w b off l hcs k hk).1
    rw [e, ← hp] at h1
    exact hc.cell h1 (fun h => h)
  · have h1 := (hcm.1.same hc).ps
    rw [e, ← hp] at h1
    exact h1

set_option maxRecDepth 100000 in
set_option maxHeartbeats 4000000 in
theorem ref11_First (h : RefAt base w p ao cap l room) (hd : DagOk (cms l)) (n : Int) (hn : I64 n) :
    Calls Tryd.prog 47 #[.pointer (some ⟨p, 0, none⟩), .int .i64 n] w fun e w' => ∃ a c, e = .returned (.slice a (firstN (cms l) n).length c) ∧ w'.ownsRow w.heap.size 3 1 (.slice a (firstN (cms l) n).length c) (firstN (cms l) n).length ((firstN (cms l) n).map (Value.int .i64)) ∧ Below w.heap.size w w' := by
  have hcl : (cms l).length = l.length := cms_length l
  have hL60 := hd.len
  have hfl := firstN_length (cms l) n
  rw [hcl] at hL60 hfl
  have HH := hide h
  have HD := hide hd
  obtain ⟨A, hA⟩ : ∃ A, A = firstN (cms l) n := ⟨_, rfl⟩
  rw [← hA] at hfl ⊢
  have HAA := hide hA
  have HCL := hide hcl
  have HNN := hide hn
  clear h hd hA hcl hn
  go_enter Tryd.func47, Tryd.ntmps47
  go_wp2_with fail
  go_loopw [1, 5] (fun i v wr => ∃ (x : Int) (out : List Int), i = .int .i64 x ∧ I64 x ∧ (∃ a1 c1, v = .slice a1 out.length c1 ∧ Hid (wr.ownsRow w.heap.size 3 1 (.slice a1 out.length c1) out.length (out.map (Value.int .i64)))) ∧ Hid (out ++ firstN (cms l) x = A) ∧ Hid (Chg (fun _ => False) w wr)) (fun i _ _ => (intOf i).toNat)
  case atStart => exact ⟨n, [], rfl, HNN.out, ⟨none, 0, rfl, World.ownsRow_nil _ _ _ _⟩, HAA.out.symm, Chg.refl _ _⟩
  case round =>
    obtain ⟨x, out, rfl, hx, ⟨a1, c1, rfl, HR⟩, HE, HC⟩ := hrel
    obtain ⟨wo, rfl⟩ : ∃ wo : World, wo = wr := ⟨_, rfl⟩
    have HAS := hide (ref10_Has (HH.out.same HC.out) x)
    by_cases hr : 1 ≤ x ∧ x ≤ (l.length : Int)
    case neg =>
      have hb := hasN_out hr
      have he := HE.out
      rw [firstN_out (by rw [HCL.out]; exact hr), List.append_nil] at he
      subst he
      clear hr hx
      go_wp2_with fail
      refine HAS.out.mono ?_
      rintro e w' ⟨rfl, rfl⟩
      go_wp2_with fail
      go_ret
      exact ⟨a1, c1, rfl, HR.out, HC.out.below (Nat.le_refl _) (fun _ _ h => h)⟩
    case pos =>
      have hb := hasN_in hr
      obtain ⟨k, rfl⟩ : ∃ k : Nat, x = (k : Int) + 1 := ⟨(x - 1).toNat, by omega⟩
      have hkl : k < l.length := by omega
      obtain ⟨ps, hps⟩ : ∃ ps, ps = parN (cms l) ((k : Int) + 1) := ⟨_, rfl⟩
      obtain ⟨b, off, av, cv, rfl, hcells⟩ := ref_par HH.out hkl hps
      have HCE := hide hcells
      have hfi := firstN_in HD.out (n := (k : Int) + 1) (by rw [HCL.out]; omega)
      have he := HE.out
      rw [hfi, ← hps] at he
      have HE2 := hide he
      have HPAR : Hid (∀ q ∈ ps, 1 ≤ q ∧ q < (k : Int) + 1) := hide (by rw [hps]; exact HD.out.par _)
      have hol : out.length ≤ 60 := by have := congrArg List.length he; simp at this; omega
      have hwk : IntKind.i64.wrap (k : Int) = k := IntWalk.i64_in _ (by omega)
      have hki : (k : Int) < (l.length : Int) := by omega
      have hk1 : (k : Int) + 1 - 1 = (k : Int) := by omega
      have hpslen : ps.length ≤ 2 := by rw [hps]; exact HD.out.few _
      clear hcells hfi he hx hr
      cases ps with
      | nil =>
        have he2 : out ++ [(k : Int) + 1] = A := HE2.out
        have HA2 := hide he2
        clear hps he2
        go_wp2_with fail
        refine HAS.out.mono ?_
        rintro e w' ⟨rfl, hw'⟩
        rw [hw']
        clear hw'
        go_wp2_with (at_builtin; go_loud ((refine wpl_append rfl _ _ _ rfl int_slT w.heap.size (HR.out.alloc _) (Rd_lit wo #[.int .i64 ((k : Int) + 1)] 3 1) rfl rfl rfl (by simp [Value.oneCell']) (by unfold maxLen; omega) (by omega) (by have := HC.out.size; simp; omega) ?_); intro ao1 cap1 w9 hown hg hat hnil; have hg9 := (Chg.alloc (fun _ => False) wo _).trans hg (S'' := fun j => (Value.slice a1 out.length c1).ownBlock = some j) (fun _ _ h => h.elim) (fun _ _ h => h); have hc9 := HC.out.trans hg9 (S'' := fun _ => False) (fun _ _ h => h) (fun j hj h => (by have h1 := (ownsRow_lt HR.out j h).1; omega)); obtain ⟨q0, q1, q2⟩ := HCE.out w9 hc9; simp only [List.length_nil] at q1; have HO9 := hide hown; have HC9 := hide hc9; have HQ2 := hide q2; clear hown hg hat hnil hg9 hc9 q2))
        go_ret
        refine ⟨ao1, cap1, by rw [← HA2.out, List.length_append]; rfl, ?_, HC9.out.below (Nat.le_refl _) (fun _ _ h => h)⟩
        rw [← HA2.out, List.length_append, List.map_append]
        exact HO9.out
      | cons q qs =>
        have he2 : (out ++ [(k : Int) + 1]) ++ firstN (cms l) q = A := by rw [List.append_assoc]; exact HE2.out
        have HA2 := hide he2
        have hq := HPAR.out q (by simp)
        obtain ⟨b1, off1, rfl, -⟩ : ∃ b1 off1, av = some ⟨b1, off1, none⟩ ∧ True := by
          obtain ⟨a', c', e, -, h0⟩ := (HCE.out w (Chg.refl _ _)).2.2.shape
          obtain ⟨b1, off1, rfl, -⟩ := h0 (by simp)
          cases e
          exact ⟨b1, off1, rfl, trivial⟩
        have hl0 : (((q :: qs).length : Int) == 0) = false := by simp; omega
        have hq2 : I64 q := by unfold I64; omega
        have HQI := hide hq2
        clear hps he2 hq2
        simp only [List.length_cons] at HCE hl0
        go_wp2_with fail
        refine HAS.out.mono ?_
        rintro e w' ⟨rfl, hw'⟩
        rw [hw']
        clear hw'
        go_wp2_with (at_builtin; go_loud ((refine wpl_append rfl _ _ _ rfl int_slT w.heap.size (HR.out.alloc _) (Rd_lit wo #[.int .i64 ((k : Int) + 1)] 3 1) rfl rfl rfl (by simp [Value.oneCell']) (by unfold maxLen; omega) (by omega) (by have := HC.out.size; simp; omega) ?_); intro ao1 cap1 w9 hown hg hat hnil; have hg9 := (Chg.alloc (fun _ => False) wo _).trans hg (S'' := fun j => (Value.slice a1 out.length c1).ownBlock = some j) (fun _ _ h => h.elim) (fun _ _ h => h); have hc9 := HC.out.trans hg9 (S'' := fun _ => False) (fun _ _ h => h) (fun j hj h => (by have h1 := (ownsRow_lt HR.out j h).1; omega)); obtain ⟨q0, q1, q2⟩ := HCE.out w9 hc9; have q3 : w9.cell? ⟨b1, off1, none⟩ = some (.int .i64 q) := q2.add 0 (.int .i64 q) rfl; have HO9 := hide hown; have HC9 := hide hc9; have HQ2 := hide q2; clear hown hg hat hnil hg9 hc9 q2))
        go_roundw
        case rel =>
          refine ⟨q, out ++ [(k : Int) + 1], rfl, HQI.out, ⟨ao1, cap1, by simp, ?_⟩, HA2.out, HC9.out⟩
          have := HO9.out
          refine hide ?_
          rw [List.length_append, List.length_singleton, List.map_append]
          exact this
        case measure => simp only [intOf]; omega
/-- The row of depths in memory, since w5. -/
structure DpR (B0 g N : Nat) (w5 : World) (xs : List Int) (W : World) : Prop where
  row : W.ownsRow B0 3 1 (.slice (some ⟨g, 0, none⟩) (N + 1) (N + 1)) (N + 1) (xs.map (Value.int .i64))
  chg : Chg (fun k => k = g) w5 W
theorem DpR.cell {B0 g N : Nat} {w5 W : World} {xs : List Int} (h : DpR B0 g N w5 xs W) {i : Nat} (hi : i < N + 1) {v : Int} (hv : xs.getD i 0 = v) : W.cell? ⟨g, i, none⟩ = some (.int .i64 v) := by
  have hl : xs.length = N + 1 := by have := h.row.1; simpa using this
  have := (Rd.of_owns h.row).add i (.int .i64 v) (by rw [List.getElem?_map, List.getElem?_eq_getElem (by omega)]; rw [List.getD_eq_getElem?_getD, List.getElem?_eq_getElem (by omega)] at hv; rw [← hv]; rfl)
  rw [Addr.add_lit, Nat.zero_add] at this
  exact this
theorem DpR.put {B0 g N : Nat} {w5 W : World} {xs : List Int} (h : DpR B0 g N w5 xs W) (i : Nat) (v : Int) : DpR B0 g N w5 (xs.set i v) (W.setCell ⟨g, i, none⟩ (.int .i64 v)) := by
  have := (h.row.stored i (.int .i64 v)).1
  exact ⟨by rw [List.map_set]; exact this, h.chg.trans (Chg.setCell _ _ _) (fun _ _ h => h) (fun _ _ h => h)⟩

set_option maxRecDepth 100000 in
set_option maxHeartbeats 4000000 in
theorem ref11_Depth (h : RefAt base w p ao cap l room) (hd : DagOk (cms l)) (n : Int) :
    Calls Tryd.prog 45 #[.pointer (some ⟨p, 0, none⟩), .int .i64 n] w fun e w' => e = .returned (.int .i64 (depthN (cms l) n)) ∧ Below w.heap.size w w' := by
  obtain ⟨i0, hi, hz0, hz1, hz2⟩ := info_parts int_slT.info
  have HAS := hide (ref10_Has h n)
  have hcl : (cms l).length = l.length := cms_length l
  have hL60 := hd.len
  rw [hcl] at hL60
  have HH := hide h
  have HD := hide hd
  by_cases hr : 1 ≤ n ∧ n ≤ (l.length : Int)
  case neg =>
    have hb := hasN_out hr
    have HZ := hide (show depthN (cms l) n = 0 by rw [depthN, if_neg (by rw [hcl]; exact hr)])
    clear h hd hcl hr hi hz0 hz1 hz2
    go_enter Tryd.func45, Tryd.ntmps45
    go_wp2_with fail
    refine HAS.out.mono ?_
    rintro e w' ⟨rfl, rfl⟩
    go_wp2_with fail
    go_ret
    exact ⟨by rw [HZ.out]; rfl, Below.refl _ _⟩
  case pos =>
    have hb := hasN_in hr
    obtain ⟨N, rfl⟩ : ∃ N : Nat, n = (N : Int) := ⟨n.toNat, by omega⟩
    have hN : 1 ≤ N ∧ N ≤ l.length := by omega
    have HDN := hide (show depthN (cms l) (N : Int) = (dsN (cms l) N N).getD N 0 by rw [dsN_get _ (Nat.le_refl _), depthN, if_pos (by rw [hcl]; omega)]; rfl)
    obtain ⟨g, hgg⟩ : ∃ g, g = w.heap.size := ⟨_, rfl⟩
    have HGG := hide hgg
    clear h hd hcl hr
    go_enter Tryd.func45, Tryd.ntmps45
    go_wp2_with fail
    refine HAS.out.mono ?_
    rintro e w' ⟨rfl, hw'⟩
    rw [hw']
    clear hw'
    go_wp2_with (at_make; go_loud ((refine wpList_make_full _ rfl _ _ 27 rfl w.heap.size 3 i0 (.int .i64 0) 1 int_slT.under hi hz0 hz1 _ _ _ _ (N + 1) rfl rfl (by omega) (by omega) (by rw [hz2]; omega) (by unfold maxLen; omega) (Nat.le_refl _) ?_); intro w5 hown hgr; rw [← hgg] at hown ⊢; clear hgg; have HO5 := hide hown; have HG5 := hide hgr; clear hown hgr))
    have hc5 : Chg (fun _ => False) w w5 := (Chg.grown HG5.out).mono (fun _ _ h => by cases h)
    have HC5 := hide hc5
    have HCW : Hid (∀ Wx, Chg (fun k => k = g) w5 Wx → Chg (fun _ => False) w Wx) := hide (fun Wx h => HC5.out.trans h (fun _ _ h => h) (fun i hi h => by have e : i = g := h; have := HGG.out; omega))
    have HDR : Hid (DpR w.heap.size g N w5 (dsN (cms l) N 0) w5) := hide ⟨by
      have e : (dsN (cms l) N 0).map (Value.int .i64) = (madeCells (Value.int .i64 0).cells ((N + 1) * 1)).toList := by
        have e1 : (Value.int .i64 0).cells = #[.int .i64 0] := rfl
        rw [e1, made_one, Nat.mul_one]
        show (([0] : List Int) ++ List.replicate (N - 0) 0).map (Value.int .i64) = _
        rw [List.map_append, List.map_replicate, Nat.sub_zero]
        rfl
      rw [e, ← HGG.out]
      exact HO5.out, Chg.refl _ _⟩
    clear hc5 hi hz0 hz1 hz2
    go_loopw [6] (fun i wr => ∃ m : Nat, m ≤ N ∧ i = .int .i64 ((m : Int) + 1) ∧ Hid (DpR w.heap.size g N w5 (dsN (cms l) N m) wr)) (fun i _ => N + 1 - (intOf i).toNat)
    case atStart => exact ⟨0, by omega, by simp, HDR.out⟩
    case round =>
      obtain ⟨m, hm, rfl, HR⟩ := hrel
      obtain ⟨wo, rfl⟩ : ∃ wo : World, wo = wr := ⟨_, rfl⟩
      by_cases hmn : m < N
      case neg =>
        obtain rfl : m = N := by omega
        have q0 := HR.out.cell (i := m) (by omega) (v := depthN (cms l) (m : Int)) HDN.out.symm
        have HB := hide ((HCW.out wo HR.out.chg).below (Nat.le_refl _) (fun _ _ h => h))
        have hlt : (m : Int) < (m : Int) + 1 := by omega
        go_wp2_with fail
        go_ret
        exact ⟨rfl, HB.out⟩
      case pos =>
        obtain ⟨ps, hps⟩ : ∃ ps, ps = parN (cms l) ((m : Int) + 1) := ⟨_, rfl⟩
        obtain ⟨b, off, av, cv, rfl, hcells⟩ := ref_par HH.out (k := m) (by omega) hps
        have HCE := hide hcells
        have hfew : ps.length ≤ 2 := by rw [hps]; exact HD.out.few _
        have HPAR : Hid (∀ q ∈ ps, 1 ≤ q ∧ q < (m : Int) + 1) := hide (by rw [hps]; exact HD.out.par _)
        have HPS := hide hps
        have hwm : IntKind.i64.wrap (m : Int) = m := IntWalk.i64_in _ (by omega)
        have hwm1 : IntKind.i64.wrap ((m : Int) + 1) = (m : Int) + 1 := IntWalk.i64_in _ (by omega)
        have hm1 : ((m : Int) + 1).toNat = m + 1 := by omega
        have hm0 : (0 : Int) ≤ (m : Int) + 1 := by omega
        have hmi : (m : Int) < (l.length : Int) := by omega
        have hmi1 : (m : Int) + 1 < (N : Int) + 1 := by omega
        have hmm : (m : Int) + 1 - 1 = (m : Int) := by omega
        obtain ⟨⟨uu, fu⟩, eu⟩ := row_cell HR.out.row (i := m + 1) (by omega)
        have hr1 := HR.out.put (m + 1) 1
        obtain ⟨q0, q1, q2⟩ := hcells _ (HCW.out _ hr1.chg)
        have HR1 := hide hr1
        have HQ2 := hide q2
        clear hcells hps hr1 q2
        go_wp2_with fail
        clear q0 q1 fu eu uu
        have e0 : IntKind.i64 = IntKind.i64 := rfl
        clear e0
        generalize hw6 : wo.setCell ⟨g, m + 1, none⟩ (.int .i64 1) = w6 at HR1 HQ2 ⊢
        clear hw6
        go_loopw [8] (fun i wr => ∃ (j : Nat) (f : Int), j ≤ ps.length ∧ i = .int .i64 j ∧ 0 ≤ f ∧ f ≤ m ∧ Hid (f = (ps.take j).foldl (fun d p => max d ((depL (cms l) m).getD p.toNat 0)) 0) ∧ Hid (DpR w.heap.size g N w5 ((dsN (cms l) N m).set (m + 1) (1 + f)) wr)) (fun i _ => ps.length - (intOf i).toNat)
        case atStart => exact ⟨0, 0, Nat.zero_le _, rfl, by omega, by omega, rfl, HR1.out⟩
        case round =>
          obtain ⟨j, f, hj, rfl, hf0, hfm, HF, HRI⟩ := hrel
          obtain ⟨wi, rfl⟩ : ∃ wi : World, wi = wr := ⟨_, rfl⟩
          have hdl : (dsN (cms l) N m).length = N + 1 := dsN_length _ (by omega)
          by_cases hjl : j < ps.length
          · have hrd := (HCE.out wi (HCW.out wi HRI.out.chg)).2.2
            obtain ⟨a', c', e, -, hcs0⟩ := hrd.shape
            obtain ⟨b1, off1, rfl, hcs⟩ := hcs0 (by omega)
            cases e
            have hz0 : wi.cell? ⟨b1, off1 + j, none⟩ = some (.int .i64 ps[j]) := hcs j (.int .i64 ps[j]) (by rw [flat_int, List.getElem?_map, List.getElem?_eq_getElem hjl]; rfl)
            have hzr := HPAR.out ps[j] (List.getElem_mem hjl)
            have htj := take_succ_get ps j hjl
            have hwj : IntKind.i64.wrap (j : Int) = j := IntWalk.i64_in _ (by omega)
            have hji : (j : Int) < (ps.length : Int) := by omega
            obtain ⟨z, hz⟩ : ∃ z, z = ps[j] := ⟨_, rfl⟩
            rw [← hz] at hz0 hzr htj
            obtain ⟨zn, rfl⟩ : ∃ zn : Nat, z = (zn : Int) := ⟨z.toNat, by omega⟩
            have hzn : zn ≤ m := by omega
            obtain ⟨dz, hdz⟩ : ∃ dz, dz = (depL (cms l) m).getD zn 0 := ⟨_, rfl⟩
            have hdb : 0 ≤ dz ∧ dz ≤ m := by rw [hdz]; exact depL_bd _ _ _
            have HTF : Hid (max f dz = (ps.take (j + 1)).foldl (fun d p => max d ((depL (cms l) m).getD p.toNat 0)) 0) := hide (by
              rw [htj, List.foldl_append, ← HF.out, hdz]; rfl)
            have c1 : wi.cell? ⟨g, m + 1, none⟩ = some (.int .i64 (1 + f)) := HRI.out.cell (by omega) (by rw [List.getD_eq_getElem?_getD, List.getElem?_set, if_pos rfl, if_pos (by omega)]; rfl)
            have c2 : wi.cell? ⟨g, zn, none⟩ = some (.int .i64 dz) := HRI.out.cell (by omega) (by rw [List.getD_eq_getElem?_getD, List.getElem?_set, if_neg (by omega), ← List.getD_eq_getElem?_getD, dsN_get _ (by omega), hdz])
            have hwd : IntKind.i64.wrap (dz + 1) = dz + 1 := IntWalk.i64_in _ (by omega)
            obtain ⟨⟨uu, fu⟩, eu⟩ := row_cell HRI.out.row (i := m + 1) (by omega)
            have hmx : max (1 + f) (dz + 1) = 1 + max f dz := by omega
            have hput := HRI.out.put (m + 1) (1 + max f dz)
            rw [List.set_set] at hput
            have HPUT := hide hput
            have hzl : (zn : Int) < (N : Int) + 1 := by omega
            have hz00 : (0 : Int) ≤ (zn : Int) := by omega
            clear hrd hcs hcs0 hz htj hzr hput hdl hdz
            go_wp2_with fail
            refine reg_start (Chg (fun _ => False) wi) 17 16 (by rfl) (by kernel_rfl) (Chg.drew _ _) ?_
            intro hS0
            have hSc := hS0
            refine reg_take (i := 0) (v := ?g2v) rfl (by kernel_rfl) (by kernel_rfl) (by kernel_rfl) (by kernel_rfl) (fun _ _ _ h => h) (by rfl) ?g2y (by assumption) ?g2r
            case g2y => (intro W hS; first | (go_simp; done) | (go_simp; with_reducible rfl))
            simp only [Act.put, List.setIfInBounds_toArray, List.set_cons_zero, List.set_cons_succ]
            refine reg_take (i := 1) (v := ?g3v) rfl (by kernel_rfl) (by kernel_rfl) (by kernel_rfl) (by kernel_rfl) (fun _ _ _ h => h) (by rfl) ?g3y (by assumption) ?g3r
            case g3y => (intro W hS; first | (go_simp; done) | (go_simp; with_reducible rfl))
            simp only [Act.put, List.setIfInBounds_toArray, List.set_cons_zero, List.set_cons_succ]
            refine reg_take (i := 2) (v := ?g4v) rfl (by kernel_rfl) (by kernel_rfl) (by kernel_rfl) (by kernel_rfl) (fun _ _ _ h => h) (by rfl) ?g4y (by assumption) ?g4r
            case g4y => (intro W hS; first | (go_simp; done) | (go_simp; with_reducible rfl))
            simp only [Act.put, List.setIfInBounds_toArray, List.set_cons_zero, List.set_cons_succ]
            refine reg_take (i := 3) (v := ?g5v) rfl (by kernel_rfl) (by kernel_rfl) (by kernel_rfl) (by kernel_rfl) (fun _ _ _ h => h) (by rfl) ?g5y (by assumption) ?g5r
            case g5y => (intro W hS; first | (go_simp; done) | (go_simp; with_reducible rfl))
            simp only [Act.put, List.setIfInBounds_toArray, List.set_cons_zero, List.set_cons_succ]
            refine reg_take (i := 4) (v := ?g6v) rfl (by kernel_rfl) (by kernel_rfl) (by kernel_rfl) (by kernel_rfl) (fun _ _ _ h => h) (by rfl) ?g6y (by assumption) ?g6r
            case g6y => (intro W hS; first | (go_simp; done) | (go_simp; with_reducible rfl))
            simp only [Act.put, List.setIfInBounds_toArray, List.set_cons_zero, List.set_cons_succ]
            refine reg_take (i := 5) (v := ?g7v) rfl (by kernel_rfl) (by kernel_rfl) (by kernel_rfl) (by kernel_rfl) (fun _ _ _ h => h) (by rfl) ?g7y (by assumption) ?g7r
            case g7y => (intro W hS; have f0 := hS.cell hz0 (fun h => h); have f1 := hS.cell c1 (fun h => h); have f2 := hS.cell c2 (fun h => h); first | (go_simp; done) | (go_simp; with_reducible rfl))
            simp only [Act.put, List.setIfInBounds_toArray, List.set_cons_zero, List.set_cons_succ]
            refine reg_take (i := 6) (v := ?g8v) rfl (by kernel_rfl) (by kernel_rfl) (by kernel_rfl) (by kernel_rfl) (fun _ _ _ h => h) (by rfl) ?g8y (by assumption) ?g8r
            case g8y => (intro W hS; first | (go_simp; done) | (go_simp; with_reducible rfl))
            simp only [Act.put, List.setIfInBounds_toArray, List.set_cons_zero, List.set_cons_succ]
            refine reg_take (i := 7) (v := ?g9v) rfl (by kernel_rfl) (by kernel_rfl) (by kernel_rfl) (by kernel_rfl) (fun _ _ _ h => h) (by rfl) ?g9y (by assumption) ?g9r
            case g9y => (intro W hS; first | (go_simp; done) | (go_simp; with_reducible rfl))
            simp only [Act.put, List.setIfInBounds_toArray, List.set_cons_zero, List.set_cons_succ]
            refine reg_take (i := 8) (v := ?g10v) rfl (by kernel_rfl) (by kernel_rfl) (by kernel_rfl) (by kernel_rfl) (fun _ _ _ h => h) (by rfl) ?g10y (by assumption) ?g10r
            case g10y => (intro W hS; first | (go_simp; done) | (go_simp; with_reducible rfl))
            simp only [Act.put, List.setIfInBounds_toArray, List.set_cons_zero, List.set_cons_succ]
            refine reg_take (i := 9) (v := ?g11v) rfl (by kernel_rfl) (by kernel_rfl) (by kernel_rfl) (by kernel_rfl) (fun _ _ _ h => h) (by rfl) ?g11y (by assumption) ?g11r
            case g11y => (intro W hS; first | (go_simp; done) | (go_simp; with_reducible rfl))
            simp only [Act.put, List.setIfInBounds_toArray, List.set_cons_zero, List.set_cons_succ]
            refine reg_take (i := 10) (v := ?g12v) rfl (by kernel_rfl) (by kernel_rfl) (by kernel_rfl) (by kernel_rfl) (fun _ _ _ h => h) (by rfl) ?g12y (by assumption) ?g12r
            case g12y => (intro W hS; have f0 := hS.cell hz0 (fun h => h); have f1 := hS.cell c1 (fun h => h); have f2 := hS.cell c2 (fun h => h); first | (go_simp; done) | (go_simp; with_reducible rfl))
            simp only [Act.put, List.setIfInBounds_toArray, List.set_cons_zero, List.set_cons_succ]
            refine reg_take (i := 11) (v := ?g13v) rfl (by kernel_rfl) (by kernel_rfl) (by kernel_rfl) (by kernel_rfl) (fun _ _ _ h => h) (by rfl) ?g13y (by assumption) ?g13r
            case g13y => (intro W hS; first | (go_simp; done) | (go_simp; with_reducible rfl))
            simp only [Act.put, List.setIfInBounds_toArray, List.set_cons_zero, List.set_cons_succ]
            refine reg_take (i := 12) (v := ?g14v) rfl (by kernel_rfl) (by kernel_rfl) (by kernel_rfl) (by kernel_rfl) (fun _ _ _ h => h) (by rfl) ?g14y (by assumption) ?g14r
            case g14y => (intro W hS; have f0 := hS.cell hz0 (fun h => h); have f1 := hS.cell c1 (fun h => h); have f2 := hS.cell c2 (fun h => h); first | (go_simp; done) | (go_simp; with_reducible rfl))
            simp only [Act.put, List.setIfInBounds_toArray, List.set_cons_zero, List.set_cons_succ]
            refine reg_take (i := 13) (v := ?g15v) rfl (by kernel_rfl) (by kernel_rfl) (by kernel_rfl) (by kernel_rfl) (fun _ _ _ h => h) (by rfl) ?g15y (by assumption) ?g15r
            case g15y => (intro W hS; first | (go_simp; done) | (go_simp; with_reducible rfl))
            simp only [Act.put, List.setIfInBounds_toArray, List.set_cons_zero, List.set_cons_succ]
            refine reg_take (i := 14) (v := ?g16v) rfl (by kernel_rfl) (by kernel_rfl) (by kernel_rfl) (by kernel_rfl) (fun _ _ _ h => h) (by rfl) ?g16y (by assumption) ?g16r
            case g16y => (intro W hS; first | (go_simp; done) | (go_simp; with_reducible rfl))
            simp only [Act.put, List.setIfInBounds_toArray, List.set_cons_zero, List.set_cons_succ]
            refine reg_take (i := 15) (v := ?g17v) rfl (by kernel_rfl) (by kernel_rfl) (by kernel_rfl) (by kernel_rfl) (fun _ _ _ h => h) (by rfl) ?g17y (by assumption) ?g17r
            case g17y => (intro W hS; first | (go_simp; done) | (go_simp; with_reducible rfl))
            simp only [Act.put, List.setIfInBounds_toArray, List.set_cons_zero, List.set_cons_succ]
            refine reg_late (i := 16) (by kernel_rfl) (by decide) ?_
            refine op_store (i := 16) rfl (by rfl) (w' := wi.drew.setCell ⟨g, m + 1, none⟩ (.int .i64 (1 + max f dz))) (by go_simp) ?_
            simp only [Act.put]
            refine wpAnyG_done (by kernel_rfl) ?_ _
            clear hS0 hSc
            go_wp2_with fail
            go_roundw
            case rel => exact ⟨j + 1, max f dz, by omega, by go_num, by omega, by omega, HTF.out, ⟨HPUT.out.row, HPUT.out.chg.trans (Chg.drew (fun _ => False) _) (fun _ _ h => h) (fun _ _ h => h.elim)⟩⟩
            case measure => simp [intOf]; omega
          · obtain rfl : j = ps.length := by omega
            have hf := HF.out
            rw [List.take_length] at hf
            have hr2 := HRI.out
            rw [hf, HPS.out, ← dsN_succ _ hmn] at hr2
            have HR2 := hide hr2
            clear hf hr2 hdl
            go_wp2_with fail
            go_roundw
            case rel => exact ⟨m + 1, by omega, by go_num, HR2.out⟩
            case measure => simp [intOf]; omega
end Go.Proofs.YtnnkbicaokckbaaDoor
