/- DagDepths: a commit is one deeper than its deepest parent; all that is ahead of it is itself, and all that is ahead of its parents. Conditions: none. -/
import Derived.Test.YtnnkbicaokckbaaDoorRows
import Derived.Test.YtnnkbicaokckbaaDoorTie
import Derived.Test.YtnnkbicaokckbaaDoorCards
import Derived.Test.YtnnkbicaokckbaaDoorCardB
import Derived.SevenTiedAt
import Derived.Test.YtnnkbicaokckbaaDoorDgW
import Derived.Test.YtnnkbicaokckbaaDoorDgR
import Derived.Test.YtnnkbicaokckbaaDoorLow
import Derived.Laws.OwnMore
import Derived.Outline
import Derived.Deep.QuietTactic
import Derived.BigQuiet
namespace Go.Proofs.YtnnkbicaokckbaaDoor
open Go.ChangeShapes Go.WideShapes Go.ChangeAt Go.RowKit
open Go.ChangeMaps (open_string shut_string)
set_option linter.unusedVariables false
open Go.Shelf

theorem bool_slT : SlT Tryd.prog 68 4 (.bool false) 1 1 := ⟨Tryd.underlying68, by kernel_rfl, rfl, by decide⟩
theorem low_id {x : Int} {n : Nat} (h : 0 ≤ x ∧ x < n) (hn : n ≤ 1000000) : low x n = x.toNat := by
  unfold low
  rw [IntWalk.u64_in _ (by omega), Int.emod_eq_of_lt h.1 h.2]
/-- The marks of all in a list are set. -/
def markAll (ms : List Bool) (l : List Int) : List Bool := l.foldl (fun m x => m.set x.toNat true) ms
theorem markAll_length : ∀ (l : List Int) (ms : List Bool), (markAll ms l).length = ms.length
  | [], _ => rfl
  | x :: l, ms => by
    show (markAll (ms.set x.toNat true) l).length = _
    rw [markAll_length l]; simp
theorem markAll_snoc (ms : List Bool) (l : List Int) (x : Int) : markAll ms (l ++ [x]) = (markAll ms l).set x.toNat true := by simp [markAll]
theorem markAll_get : ∀ (l : List Int) (ms : List Bool) (j : Nat), j < ms.length → ((markAll ms l).getD j false = true ↔ ms.getD j false = true ∨ ∃ x ∈ l, x.toNat = j)
  | [], ms, j, _ => by simp [markAll]
  | x :: l, ms, j, hj => by
    have h := markAll_get l (ms.set x.toNat true) j (by simpa using hj)
    show (markAll (ms.set x.toNat true) l).getD j false = true ↔ _
    rw [h]
    have e : (ms.set x.toNat true).getD j false = true ↔ ms.getD j false = true ∨ x.toNat = j := by
      rw [List.getD_eq_getElem?_getD, List.getElem?_set]
      by_cases hx : x.toNat = j
      · subst hx
        simp [hj]
      · rw [if_neg hx, ← List.getD_eq_getElem?_getD]
        simp [hx]
    rw [e]
    constructor
    · rintro ((h | h) | ⟨y, hy, h⟩)
      · exact .inl h
      · exact .inr ⟨x, by simp, h⟩
      · exact .inr ⟨y, by simp [hy], h⟩
    · rintro (h2 | ⟨y, hy, h2⟩)
      · exact .inl (.inl h2)
      · rcases List.mem_cons.1 hy with e | e
        · rw [e] at h2; exact .inl (.inr h2)
        · exact .inr ⟨y, e, h2⟩
/-- The marks of what is ahead of some. -/
def marksOf (cs : List Cm) (L : Nat) (ps : List Int) : List Bool := ps.foldl (fun m p => markAll m (aheadN cs p)) (List.replicate (L + 1) false)
theorem marksOf_snoc (cs : List Cm) (L : Nat) (ps : List Int) (p : Int) : marksOf cs L (ps ++ [p]) = markAll (marksOf cs L ps) (aheadN cs p) := by simp [marksOf]
theorem foldMark_length (cs : List Cm) : ∀ (ps : List Int) (m : List Bool), (ps.foldl (fun m p => markAll m (aheadN cs p)) m).length = m.length
  | [], _ => rfl
  | p :: ps, m => by rw [List.foldl_cons, foldMark_length cs ps, markAll_length]
theorem marksOf_length (cs : List Cm) (L : Nat) (ps : List Int) : (marksOf cs L ps).length = L + 1 := by rw [marksOf, foldMark_length]; simp
theorem foldMark_get (cs : List Cm) : ∀ (ps : List Int) (m : List Bool) (j : Nat), j < m.length → ((ps.foldl (fun m p => markAll m (aheadN cs p)) m).getD j false = true ↔ m.getD j false = true ∨ ∃ p ∈ ps, ∃ x ∈ aheadN cs p, x.toNat = j)
  | [], m, j, _ => by simp
  | p :: ps, m, j, hj => by
    rw [List.foldl_cons, foldMark_get cs ps _ j (by rw [markAll_length]; exact hj), markAll_get _ _ _ hj]
    constructor
    · rintro ((h | h) | ⟨q, hq, h⟩)
      · exact .inl h
      · exact .inr ⟨p, by simp, h⟩
      · exact .inr ⟨q, by simp [hq], h⟩
    · rintro (h | ⟨q, hq, h⟩)
      · exact .inl (.inl h)
      · rcases List.mem_cons.1 hq with e | e
        · subst e; exact .inl (.inr h)
        · exact .inr ⟨q, e, h⟩
theorem marksOf_get (cs : List Cm) (L : Nat) (ps : List Int) {j : Nat} (hj : j ≤ L) : (marksOf cs L ps).getD j false = true ↔ ∃ p ∈ ps, ∃ x ∈ aheadN cs p, x.toNat = j := by
  rw [marksOf, foldMark_get cs ps _ j (by simp; omega)]
  have : (List.replicate (L + 1) false).getD j false = false := by rw [List.getD_eq_getElem?_getD, List.getElem?_replicate]; split <;> rfl
  rw [this]
  exact ⟨fun h => h.resolve_left (by decide), .inr⟩
/-- The marked ones above k, falling, behind n. -/
def wantL (ms : List Bool) (L : Nat) : Nat → List Int
  | 0 => []
  | d + 1 => wantL ms L d ++ (if ms.getD (L - d) false = true then [((L - d : Nat) : Int)] else [])
theorem wantL_mem (ms : List Bool) (L : Nat) : ∀ (d : Nat), d ≤ L → ∀ x : Int, x ∈ wantL ms L d ↔ ∃ j : Nat, x = (j : Int) ∧ L - d < j ∧ j ≤ L ∧ ms.getD j false = true
  | 0, _, x => by
    constructor
    · intro h; cases h
    · rintro ⟨j, -, h1, h2, -⟩; omega
  | d + 1, hd, x => by
    rw [wantL, List.mem_append, wantL_mem ms L d (by omega)]
    constructor
    · rintro (⟨j, h1, h2, h3, h4⟩ | h)
      · exact ⟨j, h1, by omega, h3, h4⟩
      · split at h
        · rename_i hm
          rw [List.mem_singleton] at h
          exact ⟨L - d, h, by omega, by omega, hm⟩
        · cases h
    · rintro ⟨j, h1, h2, h3, h4⟩
      by_cases e : j = L - d
      · subst e
        refine .inr ?_
        rw [if_pos h4]
        exact List.mem_singleton.2 h1
      · exact .inl ⟨j, h1, by omega, h3, h4⟩
theorem wantL_len (ms : List Bool) (L : Nat) : ∀ d, (wantL ms L d).length ≤ d
  | 0 => Nat.le_refl _
  | d + 1 => by
    have := wantL_len ms L d
    rw [wantL, List.length_append]
    split <;> simp <;> omega
theorem wantL_falls (ms : List Bool) (L : Nat) : ∀ (d : Nat), d ≤ L → Falls (wantL ms L d)
  | 0, _ => List.Pairwise.nil
  | d + 1, hd => by
    rw [wantL]
    refine List.pairwise_append.2 ⟨wantL_falls ms L d (by omega), ?_, fun a ha b hb => ?_⟩
    · split
      · exact List.pairwise_singleton _ _
      · exact List.Pairwise.nil
    · obtain ⟨j, h1, h2, -, -⟩ := (wantL_mem ms L d (by omega) a).1 ha
      split at hb
      · rw [List.mem_singleton.1 hb]; omega
      · cases hb
theorem want_eq {cs : List Cm} (hd : DagOk cs) {n : Int} (hn : 1 ≤ n ∧ n ≤ (cs.length : Int)) : n :: wantL (marksOf cs cs.length (parN cs n)) cs.length cs.length = aheadN cs n := by
  have hmem : ∀ x : Int, x ∈ wantL (marksOf cs cs.length (parN cs n)) cs.length cs.length ↔ ∃ p ∈ parN cs n, x ∈ aheadN cs p := fun x => by
    rw [wantL_mem _ _ _ (Nat.le_refl _)]
    constructor
    · rintro ⟨j, h1, h2, h3, h4⟩
      obtain ⟨p, hp, y, hy, e⟩ := (marksOf_get cs _ _ h3).1 h4
      have := ahead_range hy
      have : y = x := by omega
      subst this
      exact ⟨p, hp, hy⟩
    · rintro ⟨p, hp, hx⟩
      have := ahead_range hx
      exact ⟨x.toNat, by omega, by omega, by omega, (marksOf_get cs _ _ (by omega)).2 ⟨p, hp, x, hx, rfl⟩⟩
  refine falls_eq ?_ (ahead_falls _ _) (fun x => ?_)
  · refine List.pairwise_cons.2 ⟨fun x hx => ?_, wantL_falls _ _ _ (Nat.le_refl _)⟩
    obtain ⟨p, hp, hx⟩ := (hmem x).1 hx
    have h1 := hd.par _ _ hp
    have h2 := ahead_range hx
    omega
  · rw [List.mem_cons, hmem, ahead_step hd hn]
/-- The row of marks in memory, since w5. -/
structure MkR (B0 g L : Nat) (w5 : World) (ms : List Bool) (W : World) : Prop where
  row : W.ownsRow B0 4 1 (.slice (some ⟨g, 0, none⟩) (L + 1) (L + 1)) (L + 1) (ms.map Value.bool)
  chg : Chg (fun k => k = g) w5 W
theorem MkR.same {B0 g L : Nat} {w5 W W' : World} {ms : List Bool} (h : MkR B0 g L w5 ms W) (c : Chg (fun _ => False) W W') : MkR B0 g L w5 ms W' := ⟨c.owns h.row (fun _ _ h => h), h.chg.trans c (fun _ _ h => h) (fun _ _ h => h.elim)⟩
set_option maxHeartbeats 8000000 in
set_option maxRecDepth 100000 in
theorem DagDepths_walk {H : Type} {enc : TypeId × Value → H} (W : World) (hM : Mx W) (ao : Option Addr) (len cap : Nat) (hv : Readable enc Tryd.prog W 27 (Value.slice ao len cap).cells.toList) (n0 : Int) (_ : (Lit.int .i64 n0).wf = true) :
    Calls Tryd.prog 10 #[.slice ao len cap, .int .i64 n0] W fun e W' => e = .returned (.bool true) ∧ Below W.heap.size W W' := by
  obtain ⟨i0, hi, hz0, hz1, hz2⟩ := info_parts bool_slT.info
  obtain ⟨v0, xs, hveq, hrd, hxm, hxw, hxb⟩ := hv.ints Tryd.underlying27 Tryd.underlying3 (by kernel_rfl)
  obtain rfl : v0 = .slice ao len cap := by have h := hveq; simp [Value.cells] at h; exact h.symm
  obtain ⟨a', c', e, -, -⟩ := hrd.shape
  cases e
  have HM := hide hM
  by_cases hlen : xs.length ≤ 30 ∧ 0 < xs.length
  rotate_left
  · by_cases h30 : xs.length ≤ 30
    · obtain rfl : xs = [] := by cases xs with | nil => rfl | cons x xs => exact absurd ⟨h30, by simp⟩ hlen
      clear hrd hxm hxw hxb hv hM hlen h30 hveq
      simp only [List.length_nil]
      go_enter Tryd.func10, Tryd.ntmps10
      go_wp2_with fail
      refine (awake11 _ HM.out).mono ?_
      rintro e w2 ⟨rfl, hb2⟩
      have HB2 := hide hb2
      clear hb2
      go_wp2_with fail
      go_ret
      exact ⟨rfl, HB2.out⟩
    · have d1 : decide ((xs.length : Int) > 30) = true := decide_eq_true (by omega)
      have hxmm : (xs.length : Int) ≤ 9223372036854775807 := by unfold maxLen at hxm; omega
      clear hrd hxm hxw hxb hv hM hlen h30 hveq
      go_enter Tryd.func10, Tryd.ntmps10
      go_wp2_with fail
      refine (awake11 _ HM.out).mono ?_
      rintro e w2 ⟨rfl, hb2⟩
      have HB2 := hide hb2
      clear hb2
      go_wp2_with fail
      go_ret
      exact ⟨rfl, HB2.out⟩
  obtain ⟨hl30, hl0⟩ := hlen
  have d1 : decide ((xs.length : Int) > 30) = false := decide_eq_false (by omega)
  have d2 : ((xs.length : Int) == 0) = false := by simp; intro e; simp [e] at hl0
  have HMD := hide (made11 W hM (.slice ao xs.length cap) xs hrd hxb hl30 (fun x hx => wf_range (hxw x hx)))
  have HD : Hid (DagOk (gcs xs)) := hide (gcs_ok xs hl30)
  have hgl := gcs_length xs
  clear hrd hxm hxw hxb hv hM hveq
  go_enter Tryd.func10, Tryd.ntmps10
  go_wp2_with fail
  refine HMD.out.mono ?_
  rintro e w2 ⟨p, q, rfl, ht, hb2⟩
  have HG : Hid (∀ Wx, Chg (fun _ => False) w2 Wx → Gets Wx (.pointer (some ⟨p, 0, none⟩)) (gcs xs)) := hide (fun Wx h => (ht.same h).is.gets)
  have HB2 := hide hb2
  have HT2 := hide ht
  clear ht hb2 HMD
  go_wp2_with fail
  refine (Low_ok _ n0 xs.length (by omega) (by omega)).mono ?_
  rintro e w3 ⟨rfl, hw3⟩
  rw [hw3]
  clear hw3
  have hal := low_lt n0 xs.length (by omega)
  generalize low n0 xs.length = la at *
  obtain ⟨n, hA⟩ : ∃ n : Int, n = 1 + (la : Int) := ⟨_, rfl⟩
  have hnr : 1 ≤ n ∧ n ≤ xs.length := by omega
  have HNI : Hid (I64 n) := hide (by unfold I64; omega)
  have HNR : Hid (1 ≤ n ∧ n ≤ ((gcs xs).length : Int)) := hide (by rw [hgl]; omega)
  have HEA := hide hA
  clear hA
  obtain ⟨ps, hps⟩ : ∃ ps, ps = parN (gcs xs) n := ⟨_, rfl⟩
  have HPS := hide hps
  have hfew : ps.length ≤ 2 := by rw [hps]; exact HD.out.few n
  have hpar : ∀ p ∈ ps, 1 ≤ p ∧ p < n := by rw [hps]; exact HD.out.par n
  have HPAR := hide hpar
  clear hps hpar
  go_wp2_with fail
  rw [← HEA.out]
  clear HEA hal
  refine (dag_Parents w2 (HG.out w2 (Chg.refl _ _)) n HNI.out (by rw [← HPS.out]; omega)).mono ?_
  rintro e w3 ⟨gv, rfl, ht3, hb3⟩
  rw [← HPS.out] at ht3
  have HIN := hide (ints_told w3 _ gv ht3 (by omega) 9 (by omega))
  have HC3 := hide (chg_b (Chg.refl _ w2) hb3)
  clear ht3 hb3
  go_wp2_with fail
  refine HIN.out.mono ?_
  rintro e w4 ⟨ao4, cap4, rfl, ho4, hb4⟩
  have HO4 := hide ho4
  have HC4 := hide (chg_b HC3.out hb4)
  have hsz4 : w2.heap.size ≤ w4.heap.size := HC4.out.size
  obtain ⟨g, hgg⟩ : ∃ g, g = w4.heap.size := ⟨_, rfl⟩
  clear ho4 hb4 HIN
  go_wp2_with (at_make; (refine wpList_make_full _ rfl _ _ 68 rfl w2.heap.size 4 i0 (.bool false) 1 bool_slT.under hi hz0 hz1 _ _ _ _ (xs.length + 1) rfl rfl (by omega) (by omega) (by rw [hz2]; omega) (by unfold maxLen; omega) hsz4 ?_); intro w5 hown hgr; have HO5 := hide hown; have HG5 := hide hgr; clear hown hgr)
  rw [← hgg] at HO5 ⊢
  have hc45 : Chg (fun _ => False) w4 w5 := (Chg.grown HG5.out).mono (fun _ _ h => by cases h)
  have hg5 := ownsRow_lt HO5.out g rfl
  have HC5 := hide (chg_c HC4.out hc45)
  have HP5 := hide (hc45.owns HO4.out (fun _ _ h => h))
  have HPG : Hid (∀ b, (Value.slice ao4 ps.length cap4).ownBlock = some b → b ≠ g) := hide (fun b hb e => by have := (ownsRow_lt HO4.out b hb).2; omega)
  have HMK : Hid (MkR w2.heap.size g xs.length w5 (marksOf (gcs xs) xs.length []) w5) := hide ⟨by
    have e : (marksOf (gcs xs) xs.length []).map Value.bool = (madeCells (Value.bool false).cells ((xs.length + 1) * 1)).toList := by
      have e1 : (Value.bool false).cells = #[.bool false] := rfl
      rw [e1, made_one, Nat.mul_one]
      show (List.replicate (xs.length + 1) false).map Value.bool = _
      rw [List.map_replicate]
    rw [e]
    exact HO5.out, Chg.refl _ _⟩
  have hlen5 : g < w5.heap.size := hg5.2
  have hg2 : w2.heap.size ≤ g := by omega
  clear hc45 hg5 HO4 HO5 HG5 hgg hi hz0 hz1 hz2
  go_wp2_with fail
  go_loopw [8, 10] (fun v i wr => ∃ k : Nat, k ≤ ps.length ∧ i = .int .i64 k ∧ (∃ dd : Int, v = .int .i64 dd ∧ 0 ≤ dd ∧ dd ≤ 60 ∧ Hid (dd = (ps.take k).foldl (fun d p => max d (depthN (gcs xs) p)) 0)) ∧ Hid (MkR w2.heap.size g xs.length w5 (marksOf (gcs xs) xs.length (ps.take k)) wr)) (fun _ i _ => ps.length - (intOf i).toNat)
  case atStart => exact ⟨0, Nat.zero_le _, rfl, ⟨0, rfl, by omega, by omega, rfl⟩, HMK.out⟩
  case round =>
    obtain ⟨k, hk, rfl, ⟨dd, rfl, hd0, hd1, HDD⟩, HMR⟩ := hrel
    obtain ⟨wo, rfl⟩ : ∃ wo : World, wo = wr := ⟨_, rfl⟩
    have HCW : Hid (∀ ms Wx, MkR w2.heap.size g xs.length w5 ms Wx → Chg (fun _ => False) w2 Wx) := hide (fun ms Wx h => HC5.out.trans h.chg (fun _ _ h => h) (fun i hi h => by have e : i = g := h; omega))
    by_cases hkl : k < ps.length
    · have hrow := HMR.out.chg.owns HP5.out (fun b hb e => HPG.out b hb e)
      obtain ⟨a', c', e, -, hcs0⟩ := (Rd.of_owns hrow).shape
      obtain ⟨b0, off, rfl, hcs⟩ := hcs0 (by omega)
      cases e
      have hx0 : wo.cell? ⟨b0, off + k, none⟩ = some (.int .i64 ps[k]) := hcs k (.int .i64 ps[k]) (by rw [List.getElem?_map, List.getElem?_eq_getElem hkl]; rfl)
      have hp := HPAR.out ps[k] (List.getElem_mem hkl)
      have htk := take_succ_get ps k hkl
      have hwk : IntKind.i64.wrap (k : Int) = k := IntWalk.i64_in _ (by omega)
      have hki : (k : Int) < (ps.length : Int) := by omega
      obtain ⟨pk, hpk⟩ : ∃ pk, pk = ps[k] := ⟨_, rfl⟩
      rw [← hpk] at hx0 hp htk
      have HTK := hide htk
      have hpi : I64 pk := by unfold I64; omega
      have HPI := hide hpi
      have HX0 := hide hx0
      have hdb : 0 ≤ depthN (gcs xs) pk ∧ depthN (gcs xs) pk ≤ 60 := by
        unfold depthN
        split
        · have := depL_bd (gcs xs) pk.toNat pk.toNat; omega
        · omega
      obtain ⟨dk, hdk⟩ : ∃ dk, dk = depthN (gcs xs) pk := ⟨_, rfl⟩
      rw [← hdk] at hdb
      have HDK := hide hdk
      clear hrow hcs hcs0 hpk htk hdk hpi
      go_wp2_with fail
      refine (dag_Depth wo HD.out (HG.out wo (HCW.out _ _ HMR.out)) pk HPI.out).mono ?_
      rintro e w6 ⟨rfl, hb6⟩
      rw [← HDK.out]
      have HM6 := hide (HMR.out.same (Chg.of_below0 hb6))
      have hx6 := (Chg.of_below0 (S := fun _ => False) hb6).cell HX0.out (fun h => h)
      have HX6 := hide hx6
      clear hb6 hx0
      go_wp2_with fail
      refine (dag_Ahead w6 (HG.out w6 (HCW.out _ _ HM6.out)) pk HPI.out HD.out).mono ?_
      rintro e w7 ⟨gv2, rfl, ht7, hb7⟩
      have hal7 := aheadN_length (gcs xs) pk
      obtain ⟨zs, hzs⟩ : ∃ zs, zs = aheadN (gcs xs) pk := ⟨_, rfl⟩
      rw [← hzs] at ht7 hal7
      have HZS := hide hzs
      have hzr : ∀ z ∈ zs, 0 ≤ z ∧ z < ((xs.length + 1 : Nat) : Int) := fun z hz => by rw [hzs] at hz; have := ahead_range hz; omega
      have HZR := hide hzr
      have HIN := hide (ints_told w7 _ gv2 ht7 (by omega) 99 (by omega))
      have HM7 := hide (HM6.out.same (Chg.of_below0 hb7))
      clear ht7 hb7 hx6 hzs hzr
      go_wp2_with fail
      refine HIN.out.mono ?_
      rintro e w8 ⟨ao8, cap8, rfl, ho8, hb8⟩
      have hm8 := HM7.out.same (Chg.of_below0 hb8)
      have HM8 := hide hm8
      have HO8 := hide ho8
      have HZG : Hid (∀ b, (Value.slice ao8 zs.length cap8).ownBlock = some b → b ≠ g) := hide (fun b hb e => by have h1 := (ownsRow_lt ho8 b hb).1; have h2 := HM7.out.chg.size; omega)
      clear hm8 ho8 hb8 HIN
      go_wp2_with fail
      go_loopw [12] (fun i wr => ∃ j : Nat, j ≤ zs.length ∧ i = .int .i64 j ∧ Hid (MkR w2.heap.size g xs.length w5 (markAll (marksOf (gcs xs) xs.length (ps.take k)) (zs.take j)) wr) ∧ Hid (Chg (fun k => k = g) w8 wr)) (fun i _ => zs.length - (intOf i).toNat)
      case atStart => exact ⟨0, Nat.zero_le _, rfl, HM8.out, Chg.refl _ _⟩
      case round =>
        obtain ⟨j, hj, rfl, HMI, HCI⟩ := hrel
        obtain ⟨wi, rfl⟩ : ∃ wi : World, wi = wr := ⟨_, rfl⟩
        by_cases hjl : j < zs.length
        · have hrow := HCI.out.owns HO8.out (fun b hb e => HZG.out b hb e)
          obtain ⟨a', c', e, -, hcs0⟩ := (Rd.of_owns hrow).shape
          obtain ⟨b1, off1, rfl, hcs⟩ := hcs0 (by omega)
          cases e
          have hz0 : wi.cell? ⟨b1, off1 + j, none⟩ = some (.int .i64 zs[j]) := hcs j (.int .i64 zs[j]) (by rw [List.getElem?_map, List.getElem?_eq_getElem hjl]; rfl)
          have hzr := HZR.out zs[j] (List.getElem_mem hjl)
          have htj := take_succ_get zs j hjl
          have hwj : IntKind.i64.wrap (j : Int) = j := IntWalk.i64_in _ (by omega)
          have hji : (j : Int) < (zs.length : Int) := by omega
          obtain ⟨z, hz⟩ : ∃ z, z = zs[j] := ⟨_, rfl⟩
          rw [← hz] at hz0 hzr htj
          have HTJ := hide htj
          have HLO := hide (Low_ok wi z (xs.length + 1) (by omega) (by omega))
          rw [low_id hzr (by omega)] at HLO
          have hmr := HMI.out.row
          have hst := hmr.stored z.toNat (.bool true)
          rcases hmr.2 with ⟨e, _⟩ | ⟨g', cap', cur, e, hbg, hgg, hnc, hcm, hcs2, ht⟩
          · cases e
          cases e
          have HCA := hide (show ((xs.length + 1 : Nat) : Int) = (xs.length : Int) + 1 by omega)
          obtain ⟨zn, hzn⟩ : ∃ zn : Nat, zn = z.toNat := ⟨_, rfl⟩
          rw [← hzn] at hst HLO
          have hzl : zn < xs.length + 1 := by omega
          have hzi : (zn : Int) < (xs.length : Int) + 1 := by omega
          have hwz : IntKind.i64.wrap (zn : Int) = zn := IntWalk.i64_in _ (by omega)
          obtain ⟨uu, fu⟩ := cell_some hgg zn (by omega)
          have eu := free_of_heap hgg zn
          have HST := hide hst.1
          have HZN := hide hzn
          rw [HCA.out] at HLO
          clear hrow hcs hcs0 hz htj hmr hst hbg hgg hnc hcm hcs2 ht hzn hzr
          go_wp2_with fail
          refine HLO.out.mono ?_
          rintro e w9 ⟨rfl, hw9⟩
          rw [hw9]
          clear hw9
          go_wp2_with fail
          go_roundw
          case rel =>
            refine ⟨j + 1, by omega, by go_num, ⟨?_, HMI.out.chg.trans (Chg.setCell _ _ _) (fun _ _ h => h) (fun _ _ h => h)⟩, HCI.out.trans (Chg.setCell _ _ _) (fun _ _ h => h) (fun _ _ h => h)⟩
            rw [HTJ.out, markAll_snoc, List.map_set, ← HZN.out]
            exact HST.out
          case measure => simp [intOf]; omega
        · obtain rfl : j = zs.length := by omega
          have hms := HMI.out
          rw [List.take_length, HZS.out, ← marksOf_snoc, ← HTK.out] at hms
          have HMS := hide hms
          have hfd : max dd dk = (ps.take (k + 1)).foldl (fun d p => max d (depthN (gcs xs) p)) 0 := by
            rw [HTK.out, List.foldl_append, ← HDD.out, HDK.out]; rfl
          have HFD := hide hfd
          clear hms hfd
          go_wp2_with fail
          go_roundw
          case rel => exact ⟨k + 1, by omega, by go_num, ⟨_, rfl, by omega, by omega, HFD.out⟩, HMS.out⟩
          case measure => simp [intOf]; omega
    · obtain rfl : k = ps.length := by omega
      have hdd := HDD.out
      rw [List.take_length] at hdd HMR
      have hdn : depthN (gcs xs) n = dd + 1 := by rw [depth_eq HD.out HNR.out, ← HPS.out, ← hdd]; omega
      have HDN := hide hdn
      have HCW2 := hide (HCW.out _ _ HMR.out)
      clear hdd hdn HDD
      go_wp2_with fail
      have ha1 := heap_alloc_new wo (.cells #[.int .i64 n] 3)
      have hcal := Chg.alloc (fun _ => False) wo (.cells #[.int .i64 n] 3)
      generalize hwa : wo.alloc (.cells #[.int .i64 n] 3) = wa at ha1 hcal
      have hrow0 : wa.ownsRow wo.heap.size 3 1 (.slice (some ⟨wo.heap.size, 0, none⟩) 1 1) 1 ([n].map (Value.int .i64)) :=
        ⟨rfl, .inr ⟨wo.heap.size, 1, #[.int .i64 n], rfl, Nat.le_refl _, ha1, Nat.le_refl _, by unfold maxLen; omega, by simp, rfl⟩⟩
      have HR0 := hide hrow0
      have HWA := hide hwa
      have HCA := hide hcal
      have hms2 := HMR.out.same hcal
      have HM2 := hide hms2
      obtain ⟨ms, hmsd⟩ : ∃ ms, ms = marksOf (gcs xs) xs.length ps := ⟨_, rfl⟩
      rw [← hmsd] at HM2 HMR
      have HMD := hide hmsd
      have hml : ms.length = xs.length + 1 := by rw [hmsd, marksOf_length]
      clear ha1 hcal hrow0 hwa hms2 hmsd
      go_loopw [13, 14] (fun v i wr => ∃ d : Nat, d ≤ xs.length ∧ i = .int .i64 ((xs.length : Int) - d) ∧ (∃ aw cw, v = .slice aw (1 + (wantL ms xs.length d).length) cw ∧ Hid (wr.ownsRow wo.heap.size 3 1 (.slice aw (1 + (wantL ms xs.length d).length) cw) (1 + (wantL ms xs.length d).length) ((n :: wantL ms xs.length d).map (Value.int .i64)))) ∧ Hid (Chg (fun _ => False) wo wr)) (fun _ i _ => (intOf i).toNat)
      case atStart => exact ⟨0, Nat.zero_le _, by show Value.int .i64 _ = Value.int .i64 _; congr 1, ⟨_, _, rfl, HR0.out⟩, HCA.out⟩
      case round =>
        obtain ⟨d, hdl, rfl, ⟨aw, cw, rfl, HRW⟩, HCI⟩ := hrel
        obtain ⟨wi, rfl⟩ : ∃ wi : World, wi = wr := ⟨_, rfl⟩
        have hmi := HMR.out.same HCI.out
        by_cases hdx : d < xs.length
        · obtain ⟨t, ht⟩ : ∃ t : Nat, t = xs.length - d := ⟨_, rfl⟩
          have HT := hide ht
          have hti : (xs.length : Int) - (d : Int) = (t : Int) := by omega
          have htl : t < ms.length := by omega
          have hcell : wi.cell? ⟨g, t, none⟩ = some (.bool ms[t]) := by
            have := (Rd.of_owns hmi.row).add t (.bool ms[t]) (by rw [List.getElem?_map, List.getElem?_eq_getElem htl]; rfl)
            rw [Addr.add_lit, Nat.zero_add] at this
            exact this
          have hwt : IntKind.i64.wrap (t : Int) = t := IntWalk.i64_in _ (by omega)
          have htb : (t : Int) < (xs.length : Int) + 1 := by omega
          have hmt : ms.getD t false = ms[t] := by simp [List.getD_eq_getElem?_getD, htl]
          have hnext : ∀ b, ms[t] = b → wantL ms xs.length (d + 1) = wantL ms xs.length d ++ (if b = true then [(t : Int)] else []) := fun b hb => by rw [wantL, ← ht, hmt, hb]
          have hwl : (wantL ms xs.length d).length ≤ 100 := by
            have h1 := wantL_len ms xs.length d
            omega
          obtain ⟨bt, hbt⟩ : ∃ bt, bt = ms[t] := ⟨_, rfl⟩
          rw [← hbt] at hcell
          have HNX := hide (hnext bt hbt.symm)
          have ht0 : 0 < t := by omega
          have d3 : decide (0 < t) = true := decide_eq_true ht0
          rw [hti]
          clear hmi hmt hnext hbt ht hti
          obtain ⟨wl, hwld⟩ : ∃ wl, wl = wantL ms xs.length d := ⟨_, rfl⟩
          rw [← hwld] at HRW HNX hwl ⊢
          have hlow : ∀ b, (Value.slice aw (1 + wl.length) cw).ownBlock = some b → wo.heap.size ≤ b := fun b hb => (ownsRow_lt HRW.out b hb).1
          have HLOW := hide hlow
          clear hlow hwld
          cases bt with
          | false =>
            have hnx : wantL ms xs.length (d + 1) = wl := by rw [HNX.out]; simp
            have HN2 := hide hnx
            clear hnx
            go_wp2_with fail
            go_roundw
            case rel => exact ⟨d + 1, by omega, by have := HT.out; show Value.int .i64 _ = Value.int .i64 _; congr 1; omega, ⟨aw, cw, by rw [HN2.out], by rw [HN2.out]; exact HRW.out⟩, HCI.out⟩
            case measure => simp [intOf]; omega
          | true =>
            have hnx : wantL ms xs.length (d + 1) = wl ++ [(t : Int)] := by rw [HNX.out]; simp
            have HN2 := hide hnx
            clear hnx
            go_wp2_with (at_builtin; go_loud (refine wpl_append rfl _ _ _ rfl int_slT wo.heap.size (HRW.out.alloc _) (Rd_lit wi #[.int .i64 (t : Int)] 3 1) rfl rfl rfl (by simp [Value.oneCell']) (by unfold maxLen; omega) (by omega) (by have := HCI.out.size; simp; omega) ?_); intro ao1 cap1 w9 hown hg hat hnil; have HOW := hide hown; have HGG := hide hg; clear hown hg hat hnil)
            go_roundw
            case rel =>
              refine ⟨d + 1, by omega, by have := HT.out; show Value.int .i64 _ = Value.int .i64 _; congr 1; omega, ⟨ao1, cap1, by rw [HN2.out, List.length_append, List.length_singleton, Nat.add_assoc], ?_⟩, HCI.out.trans ((Chg.alloc (fun _ => False) wi _).trans HGG.out (S'' := fun k => (Value.slice aw (1 + wl.length) cw).ownBlock = some k) (fun _ _ h => h.elim) (fun _ _ h => h)) (fun _ _ h => h) (fun k hk h => by have := HLOW.out k h; omega)⟩
              rw [HN2.out, List.length_append, List.length_singleton, ← Nat.add_assoc]
              refine hide ?_
              have := HOW.out
              simpa using this
            case measure => simp [intOf]; omega
        · obtain rfl : d = xs.length := by omega
          have HWE : Hid (n :: wantL ms xs.length xs.length = aheadN (gcs xs) n) := hide (by
            have := want_eq HD.out HNR.out
            rw [← HPS.out, hgl, ← HMD.out] at this
            exact this)
          have hwl : (wantL ms xs.length xs.length).length ≤ 100 := by
            have h1 := wantL_len ms xs.length xs.length
            omega
          have hgc2 := chg_c HCW2.out HCI.out
          have HC9 := hide hgc2
          have hti : (xs.length : Int) - (xs.length : Int) = 0 := by omega
          rw [hti]
          obtain ⟨wl, hwld⟩ : ∃ wl, wl = wantL ms xs.length xs.length := ⟨_, rfl⟩
          rw [← hwld] at HRW HWE hwl ⊢
          have HROW := hide (Rd.of_owns HRW.out)
          clear hmi hgc2 hti hwld
          go_wp2_with fail
          refine (dag_Depth wi HD.out (HG.out wi HC9.out) n HNI.out).mono ?_
          rintro e w10 ⟨rfl, hb10⟩
          rw [HDN.out]
          have HC10 := hide (chg_b HC9.out hb10)
          have hr10 := HROW.out.chg (Chg.of_below0 (S := fun _ => False) hb10) (fun _ _ _ h => h)
          have HR10 := hide hr10
          clear hb10 hr10
          go_wp2_with fail
          refine (dag_Ahead w10 (HG.out w10 HC10.out) n HNI.out HD.out).mono ?_
          rintro e w11 ⟨gv3, rfl, ht11, hb11⟩
          rw [← HWE.out] at ht11
          have HIN := hide (ints_told w11 _ gv3 ht11 (by simp; omega) 99 (by have := aheadN_length (gcs xs) n; rw [← HWE.out] at this; omega))
          have HC11 := hide (chg_b HC10.out hb11)
          have hr11 := HR10.out.chg (Chg.of_below0 (S := fun _ => False) hb11) (fun _ _ _ h => h)
          have HR11 := hide hr11
          clear ht11 hb11 hr11
          go_wp2_with fail
          refine HIN.out.mono ?_
          rintro e w12 ⟨ao12, cap12, rfl, ho12, hb12⟩
          have hr12 := HR11.out.chg (Chg.of_below0 (S := fun _ => False) hb12) (fun _ _ _ h => h)
          have e1 : (n :: wl).length = 1 + wl.length := by simp; omega
          have HSI := hide (same_intsT w12 (.slice ao12 (n :: wl).length cap12) (.slice aw (1 + wl.length) cw) (n :: wl) (Rd.of_owns ho12) (by rw [e1]; exact hr12) (by simp; omega))
          have HC12 := hide (chg_b HC11.out hb12)
          clear ho12 hb12 hr12 HIN e1
          go_wp2_with fail
          refine HSI.out.mono ?_
          rintro e w13 ⟨rfl, hc13⟩
          have HC13 := hide (chg_c HC12.out hc13)
          have HB13 := hide (HB2.out.trans (HC13.out.below HB2.out.size (fun _ _ h => h)))
          clear hc13 HSI
          go_wp2_with fail
          refine (awake11 w13 (HM.out.below HB13.out HM.out.pos)).mono ?_
          rintro e w17 ⟨rfl, hb17⟩
          have HB17 := hide (HB13.out.trans (hb17.mono HB13.out.size))
          clear hb17
          go_wp2_with fail
          go_ret
          exact ⟨rfl, HB17.out⟩
set_option maxRecDepth 100000 in
theorem DagDepths_lifted (os : Os) (started : os.Started) (H : Type) (enc : TypeId × Value → H) :
    ReturnsInHanded {} Tryd.checked os 10 .any (fun w args => (Rows.dagDepthsSpec.pre enc Tryd.prog Tryd.f10 Rows.dagDepthsRow.domain false w args ∧ laidMetH Tryd.prog cardLaid w) ∧ sizedMet enc Tryd.prog Tryd.f10 (OpenSpec.ofChange Rows.dagDepthsSpec) false w args) (Rows.dagDepthsSpec.post enc Tryd.prog Tryd.f10 false true false false) := by
  refine card_wrap (C := Tryd.checked) (X := fun w => laidMetH Tryd.prog cardLaid w) law_own started (by kernel_rfl) Tryd.func10
    (ChangeSpec.witness_at (enc := enc) (C := Tryd.checked) (os := os) (X := fun w _ => laidMetH Tryd.prog cardLaid w) false (laidWorld os) #[.slice none 0 0, .int .i64 0] 8 rfl (by kernel_rfl) (by kernel_rfl) (by kernel_rfl) (by kernel_rfl) (by kernel_rfl) (laidWorld_met os _)) ?_
  intro W base args ds gs before hval0 hW hsh
  have hM := mx_of_shaped hsh
  have hval : ∀ (j : Nat) t v, Tryd.f10.params[j]? = some t → args[j]? = some v → Value.okWide Tryd.prog W .any base t v := hval0
  have hW' := hW
  obtain ⟨p, q, hA0, hV, rfl, hfz, hnd⟩ := hW
  have hA : DataW.TrodAll enc Tryd.prog W 0 (fun _ => true) true Tryd.f10.params.toList args.toList ds p := hA0
  rw [Tryd.params10] at hA hval
  obtain ⟨v0, vs0, d0, ds0, p0, q0, hargs, rfl, rfl, h0, r0⟩ := trodAll_cons hA
  obtain ⟨v1, vs1, d1, ds1, p1, q1, rfl, rfl, rfl, h1, r1⟩ := trodAll_cons r0
  obtain ⟨rfl, rfl, rfl⟩ := trodAll_nil r1
  obtain rfl : args = #[v0, v1] := by cases args; simp_all
  obtain ⟨rfl, rfl⟩ := trodVars_none hV
  have k0 := h0
  have lt0 : ∀ x ∈ p0, x.block < W.heap.size := by obtain ⟨m, hm⟩ := k0; exact DataW.trod_lt m _ _ _ hm
  obtain ⟨a0, len0, cap0, rfl⟩ := okWide_slice Tryd.underlying27 (hval 0 27 v0 rfl rfl)
  have k1 := h1
  have lt1 : ∀ x ∈ p1, x.block < W.heap.size := by obtain ⟨m, hm⟩ := k1; exact DataW.trod_lt m _ _ _ hm
  obtain ⟨a1, rfl, rfl, rfl, w1⟩ := open_int Tryd.underlying3 (hval 1 3 v1 rfl rfl) h1
  clear hA0 hval0
  refine (DagDepths_walk (enc := enc) W hM a0 len0 cap0 (Readable.of_trod h0) a1 w1).mono fun e W' ⟨he, bel⟩ => ?_
  subst he
  exact ⟨_, rfl, _, _, _, [], _, [], hW', trodAll_mk1 (shut_bool Tryd.underlying4 _), (trodAll_cons_mk (Below.trod law_laid (by kernel_rfl) (of_decide_eq_true (by kernel_rfl)) k0 bel lt0) (trodAll_cons_mk (Below.trod law_laid (by kernel_rfl) (of_decide_eq_true (by kernel_rfl)) k1 bel lt1) trodAll_mk0)), rfl, bel.frame _, fun h => by cases h⟩

theorem DagDepths_over : Rows.dagDepthsRow.holds Tryd.pinned (OpenSpec.ofChange Rows.dagDepthsSpec) :=
  OpenClaim.holds_of_wide 10 Tryd.f10 rfl rfl rfl rfl rfl rfl rfl ⟨rfl, rfl, rfl, rfl, rfl⟩ rfl rfl rfl rfl rfl (by kernel_rfl) Tryd.func10 (by kernel_rfl)
    (of_decide_eq_true (by kernel_rfl)) (by unfold Func.isWrapper; first | (rw [if_pos (by decide +kernel)]; kernel_rfl) | (rw [if_neg (by decide +kernel)]; exact ⟨rfl, rfl⟩))
    (fun os started H enc _ => DagDepths_lifted os started H enc)

theorem DagDepths_params : ∀ (j : Nat) t, Tryd.f10.params[j]? = some t → Tryd.prog.wantsStandIn t = false := by
  intro j t ht
  rw [Tryd.params10] at ht
  have hm : t ∈ ([27, 3] : List TypeId) := List.mem_of_getElem? (i := j) (by simpa using ht)
  simp only [List.mem_cons, List.not_mem_nil, or_false] at hm
  rcases hm with h | h
  · subst h; exact (show Tryd.prog.wantsStandIn 27 = false by kernel_rfl)
  · subst h; exact (show Tryd.prog.wantsStandIn 3 = false by kernel_rfl)
theorem DagDepths_holds : Rows.DagDepthsCardSaid :=
  Claim7.holds_tied_plain_at .later [] [.data, .pinned] true (true, "b8549941136c75f2c554eaf403c37bf8f3fce9d6a3edd6b504917a752e07b547") false
    DagDepths_over (fun _ h => by cases h) (by kernel_rfl) (fun _ h => by cases h) dagDepths_row_tie rfl ⟨rfl, rfl⟩ (by kernel_rfl) rfl
    (fun f fn hf hfn => by
      obtain rfl : f = 10 := Option.some.inj ((show Tryd.prog.funcNamed "cortege/cortegelaw11.DagDepths" = some 10 by kernel_rfl).symm.trans hf) |>.symm
      obtain rfl : fn = Tryd.f10 := (Option.some.inj (Tryd.func10.symm.trans hfn)).symm
      exact ⟨by kernel_rfl, DagDepths_params⟩)
    (by kernel_rfl)
#print axioms DagDepths_holds

end Go.Proofs.YtnnkbicaokckbaaDoor
