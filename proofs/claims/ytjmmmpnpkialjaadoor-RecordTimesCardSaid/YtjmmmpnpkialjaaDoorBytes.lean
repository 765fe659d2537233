/- The statements' own helpers on bytes: SameBytes, LendBytes, KeptBytes, OverBytes: what each call gives. Conditions: the slices read as said. -/
import Derived.Test.YtjmmmpnpkialjaaDoorProg
import Derived.Test.YtjmmmpnpkialjaaDoorBase
import Derived.Outline
import Derived.Deep.QuietTactic
import Derived.BigQuiet
import Derived.OwnWalk
namespace Go.Proofs.YtjmmmpnpkialjaaDoor
open Go.RowKit

theorem getD_ext {xs ys : List UInt8} (h : xs.length = ys.length) (he : ∀ j, j < xs.length → xs[j]?.getD 0 = ys[j]?.getD 0) : xs = ys := by
  apply List.ext_getElem h
  intro i h1 h2
  have := he i h1
  simpa [h1, h2] using this

set_option maxHeartbeats 400000 in
theorem SameBytes_ok (w : World) (va vb : Value) (xs ys : List UInt8) (ha : Rd w va xs.length (u8s xs)) (hb : Rd w vb ys.length (u8s ys)) (hm : xs.length ≤ 140737488351232) (hm' : ys.length ≤ 140737488351232) :
    Calls Tryd.prog 14 #[va, vb] w fun e w' => e = .returned (.bool (decide (xs = ys))) ∧ ∃ n, w' = w.drewN n := by
  obtain ⟨ao, ca, rfl, -, ha⟩ := ha.shape
  obtain ⟨bo, cb, rfl, -, hb⟩ := hb.shape
  by_cases hl : xs.length = ys.length
  · have hl1 : ((xs.length : Int) != (ys.length : Int)) = false := by simp [hl]
    have HL := hide hl; clear hl
    have HA := hide ha; clear ha
    have HB := hide hb; clear hb
    go_enter Tryd.func14, Tryd.ntmps14
    go_wp2
    go_loopw [5] (fun i wr => ∃ k : Nat, k ≤ xs.length ∧ i = .int .i64 k ∧ (∀ j, j < k → xs[j]?.getD 0 = ys[j]?.getD 0) ∧ (∃ n, wr = w.drewN n)) (fun i _ => xs.length - (intOf i).toNat)
    case atStart => exact ⟨0, Nat.zero_le _, rfl, by simp, 0, rfl⟩
    case round =>
      obtain ⟨k, hk, rfl, he, n, rfl⟩ := hrel
      have HE := hide he; clear he
      by_cases hlt : k < xs.length
      · have hlt2 : k < ys.length := HL.out ▸ hlt
        obtain ⟨a, oa, rfl, hx⟩ := HA.out (by omega)
        obtain ⟨b, ob, rfl, hy⟩ := HB.out (by omega)
        have hx' := hx k _ (u8s_getElem? xs k hlt)
        have hy' := hy k _ (u8s_getElem? ys k hlt2)
        clear hx hy
        go_wp2_with (fail)
        go_quiet (fail)
        go_wp2
        · go_ret
          have hne : (((xs[k]).toNat : Int) != ((ys[k]).toNat : Int)) = true := by assumption
          refine ⟨?_, n + nq, by simp⟩
          have : xs ≠ ys := by rintro rfl; simp at hne
          simp [this]
        · have heq : (((xs[k]).toNat : Int) != ((ys[k]).toNat : Int)) = false := by assumption
          go_roundw
          case rel =>
            refine ⟨k + 1, by omega, by go_num, ?_, n + nq, by simp⟩
            intro j hj
            by_cases e : j = k
            · subst e
              simp only [bne_eq_false_iff_eq] at heq
              have : (xs[j]).toNat = (ys[j]).toNat := by omega
              simpa [hlt, hlt2] using UInt8.toNat_inj.1 this
            · exact HE.out j (by omega)
          case measure => simp [intOf]; omega
      · go_wp2
        go_ret
        refine ⟨?_, n, rfl⟩
        have : xs = ys := getD_ext HL.out (fun j hj => HE.out j (by omega))
        simp [this]
  · have hl1 : ((xs.length : Int) != (ys.length : Int)) = true := by simp; omega
    have HL := hide hl; clear hl
    clear ha hb
    go_enter Tryd.func14, Tryd.ntmps14
    go_wp2
    go_ret
    refine ⟨?_, 0, rfl⟩
    have : xs ≠ ys := by rintro rfl; exact HL.out rfl
    simp [this]

theorem SameBytes_refl (w : World) (va vb : Value) (xs : List UInt8) (ha : Rd w va xs.length (u8s xs)) (hb : Rd w vb xs.length (u8s xs)) (hm : xs.length ≤ 140737488351232) :
    Calls Tryd.prog 14 #[va, vb] w fun e w' => e = .returned (.bool true) ∧ ∃ n, w' = w.drewN n := by
  simpa using SameBytes_ok w va vb xs xs ha hb hm hm

theorem slU8 : SlT Tryd.prog 30 5 (.int .u8 0) 1 1 := ⟨Tryd.underlying30, by kernel_rfl, rfl, by decide⟩

/-- slices.Clone at this type: nil of nil; else a row of its own. -/
theorem Clone_u8 (w : World) (va : Value) (n : Nat) (cs : List Value) (ha : Rd w va n cs) (hl : cs.length = n * 1) (h1 : ∀ u ∈ cs, u.oneCell' = true) (hm : n * 1 ≤ 140737488351232) :
    Calls Tryd.prog 65 #[va] w fun e w' => ∃ ao cap, e = .returned (.slice ao n cap) ∧ w'.ownsRow w.heap.size 5 1 (.slice ao n cap) n cs ∧ Below w.heap.size w w' ∧ (ao = none ↔ va = .slice none 0 0) := by
  have hR := hide ha
  have hn := fun (w : World) (a : Option Addr) (n c n' c' : Nat) => Lib.run_eql_slice_nil (P := Tryd.prog) w 30 5 a n c n' c' slU8.under
  rcases ha with ⟨rfl, rfl, rfl⟩ | ⟨ad, cap, rfl, hc, hcs⟩
  · go_enter Tryd.func65, Tryd.ntmps65
    go_wp2
    go_ret
    exact ⟨none, 0, rfl, World.ownsRow_nil _ _ _ _, Below.refl _ _, by simp⟩
  · clear hcs
    go_enter Tryd.func65, Tryd.ntmps65
    go_wp2_with (at_builtin; refine wpl_append0 rfl _ _ _ rfl slU8 w.heap.size (ownsRow_empty 1 (heap_alloc_new w _) (Nat.le_refl _)) (hR.out.chg (Chg.alloc (fun _ => False) w _) (fun _ _ _ => id)) rfl rfl hl h1 (by omega) (by unfold maxLen; omega) (by simp) ?_; intro ao cap' w1 hown hg hat hnil)
    go_ret
    refine ⟨ao, cap', rfl, hown, (Below.alloc (Below.refl _ w) (Nat.le_refl _) _).trans (hg.below (by simp) (fun k hk e => by simp [Value.ownBlock] at e; omega)), ?_⟩
    rw [hnil]; simp

/-- What LendBytes lends: a row of its own, the bytes, and room for three more. -/
def Lent (base : Nat) (w : World) (v : Value) (xs : List UInt8) (room : List UInt8) : Prop :=
  ∃ g cur, v = .slice (some ⟨g, 0, none⟩) xs.length (xs.length + 3) ∧ base ≤ g ∧ w.heap[g]? = some (.cells cur 5 (0, 0)) ∧ cur.toList = u8s (xs ++ room) ∧ room.length = 3
theorem Lent.rd {base : Nat} {w : World} {v : Value} {xs room : List UInt8} (h : Lent base w v xs room) : Rd w v xs.length (u8s xs) := by
  obtain ⟨g, cur, rfl, hb, hg, hc, hr⟩ := h
  refine Rd.mk (by omega) ?_
  have := CellsAt.of_heap hg 0 xs.length
  rw [hc] at this
  simpa [u8s] using this
theorem Lent.lt {base : Nat} {w : World} {v : Value} {xs room : List UInt8} (h : Lent base w v xs room) : ∀ b, v.ownBlock = some b → base ≤ b ∧ b < w.heap.size := by
  obtain ⟨g, cur, rfl, hb, hg, _⟩ := h
  intro b e
  cases e
  exact ⟨hb, (Array.getElem?_eq_some_iff.1 hg).1⟩
theorem Lent.chg {S : Nat → Prop} {base : Nat} {w w' : World} {v : Value} {xs room : List UInt8} (h : Lent base w v xs room) (c : Chg S w w') (hs : ∀ b, v.ownBlock = some b → ¬ S b) : Lent base w' v xs room := by
  obtain ⟨g, cur, rfl, hb, hg, hc, hr⟩ := h
  exact ⟨g, cur, rfl, hb, c.heap hg (hs g rfl), hc, hr⟩

set_option maxRecDepth 100000 in
theorem LendBytes_ok (w : World) (va : Value) (xs : List UInt8) (ha : Rd w va xs.length (u8s xs)) (hm : xs.length ≤ 140737488351232) :
    Calls Tryd.prog 21 #[va] w fun e w' => ∃ v, e = .returned v ∧ Lent w.heap.size w' v xs [0x77, 0x77, 0x77] ∧ Below w.heap.size w w' := by
  have hR := hide ha
  obtain ⟨ao, ca, rfl, -, -⟩ := ha.shape
  obtain ⟨i0, hi, hz0, hz1, hz2⟩ := info_parts slU8.info
  go_enter Tryd.func21, Tryd.ntmps21
  go_wp2_with (first | (at_make; refine wpList_make_own _ rfl _ _ 30 rfl w.heap.size 5 i0 (.int .u8 0) 1 slU8.under hi hz0 hz1 _ _ _ (xs.length + 3) rfl rfl (by omega) (by rw [hz2]; omega) (by unfold maxLen; omega) (Nat.le_refl _) ?_; intro w1 hown hgr) | (at_builtin; refine wpl_append_fits rfl _ _ _ rfl slU8 w.heap.size hown (hR.out.chg (Chg.grown hgr) (fun _ _ _ h => by cases h)) rfl rfl (u8s_len1 xs) (u8s_one xs) (by omega) ?_; intro w2 hown2 hg2))
  simp only [Nat.zero_add, List.nil_append] at hown2
  have hb2 : Below w.heap.size w w2 := ((Chg.grown hgr).below (Nat.le_refl _) (fun k _ e => by cases e)).trans (hg2.below hgr.size (fun k hk e => by omega))
  obtain ⟨cur, hcur, hsz, htk⟩ : ∃ cur, w2.heap[w.heap.size]? = some (.cells cur 5 (0, 0)) ∧ cur.size = xs.length + 3 ∧ cur.toList.take (xs.length + 0) = u8s (xs ++ List.replicate 0 0x77) := by
    rcases hown2.2 with ⟨e, _⟩ | ⟨g, cap, cur, e, _, hh, _, _, hs, ht⟩
    · cases e
    · cases e
      exact ⟨cur, hh, by omega, by simpa using ht⟩
  clear hown hgr hown2 hg2 hR
  have H2 : Hid (∃ cur, w2.heap[w.heap.size]? = some (.cells cur 5 (0, 0)) ∧ cur.size = xs.length + 3 ∧ cur.toList.take (xs.length + 0) = u8s (xs ++ List.replicate 0 0x77)) := ⟨cur, hcur, hsz, htk⟩
  clear hcur hsz htk
  go_loopw [5] (fun i wr => ∃ k : Nat, k ≤ 3 ∧ i = .int .i64 k ∧ Hid (∃ cur, wr.heap[w.heap.size]? = some (.cells cur 5 (0, 0)) ∧ cur.size = xs.length + 3 ∧ cur.toList.take (xs.length + k) = u8s (xs ++ List.replicate k 0x77)) ∧ Below w.heap.size w wr) (fun i _ => 3 - (intOf i).toNat)
  case atStart => exact ⟨0, by omega, rfl, H2, hb2⟩
  case round =>
    obtain ⟨k, hk, rfl, HC, hb⟩ := hrel
    by_cases hlt : k < 3
    · obtain ⟨cur, hcur, hsz, htk⟩ := HC.out
      obtain ⟨u0, hc⟩ := cell_some hcur (xs.length + k) (by omega)
      have hf := free_of_heap hcur (xs.length + k)
      have hs := heap_setCell_same (i := xs.length + k) hcur (.int .u8 119)
      have HS := hide hs
      have HT := hide htk
      have HZ := hide hsz
      clear hs htk hsz hcur HC
      go_wp2
      go_roundw
      case rel =>
        refine ⟨k + 1, by omega, by go_num, ⟨_, HS.out, by simp [HZ.out], ?_⟩, hb.setCell (Nat.le_refl _) _⟩
        have hz := HZ.out
        have ht := HT.out
        rw [← Nat.add_assoc, Array.toList_setIfInBounds, take_set_snoc (by simpa using by omega) ht]
        simp [u8s, List.replicate_succ']
      case measure => simp [intOf]; omega
    · obtain rfl : k = 3 := by omega
      go_wp2
      go_ret
      obtain ⟨cur, hcur, hsz, htk⟩ := HC.out
      refine ⟨_, rfl, ⟨w.heap.size, cur, rfl, Nat.le_refl _, hcur, ?_, rfl⟩, hb⟩
      rw [show xs ++ [(0x77 : UInt8), 0x77, 0x77] = xs ++ List.replicate 3 0x77 from rfl, ← htk, List.take_of_length_le (by simpa using by omega)]

theorem Lent.owns {base : Nat} {w : World} {v : Value} {xs room : List UInt8} (h : Lent base w v xs room) (hm : xs.length ≤ 140737488351232) : w.ownsRow base 5 1 v xs.length (u8s xs) := by
  obtain ⟨g, cur, rfl, hb, hg, hc, hr⟩ := h
  have hs : cur.size = xs.length + 3 := by
    have := congrArg List.length hc
    simpa [u8s, hr] using this
  exact ⟨u8s_len1 xs, .inr ⟨g, _, cur, rfl, hb, hg, by omega, by unfold maxLen; omega, by omega, by rw [hc]; simp [u8s]⟩⟩

/-- What was answered is written over, and beyond: no other block is. -/
theorem OverBytes_ok {base : Nat} (w : World) (v : Value) (n : Nat) (xs : List Value) (h : w.ownsRow base 5 1 v n xs) (hbase : base ≤ w.heap.size) (hm : n ≤ 140737488351232) :
    Calls Tryd.prog 20 #[v] w fun e w' => e = .returned (.tuple #[]) ∧ Chg (fun k => v.ownBlock = some k) w w' := by
  obtain ⟨ao, cap, rfl⟩ := ownsRow_shape h
  have HO := hide h
  clear h
  have hbs := hide hbase
  clear hbase
  go_enter Tryd.func20, Tryd.ntmps20
  go_wp2_with fail
  go_loopw [2] (fun i wr => ∃ k : Nat, k ≤ n ∧ i = .int .i64 k ∧ Hid (∃ ys, wr.ownsRow base 5 1 (.slice ao n cap) n ys) ∧ Hid (Chg (fun k => (Value.slice ao n cap).ownBlock = some k) w wr)) (fun i _ => n - (intOf i).toNat)
  case atStart => exact ⟨0, by omega, rfl, ⟨_, HO.out⟩, Chg.refl _ _⟩
  case round =>
    obtain ⟨k, hk, rfl, HY, HG⟩ := hrel
    by_cases hlt : k < n
    · obtain ⟨ys, hy⟩ := HY.out
      have hy' := hide hy
      rcases hy.2 with ⟨e, _⟩ | ⟨g, cap', cur, e, hbg, hg, hnc, hcm, hcs, ht⟩
      · cases e; omega
      · cases e
        obtain ⟨u0, hc⟩ := cell_some hg k (by omega)
        have hf := free_of_heap hg k
        obtain ⟨hst, -⟩ := hy'.out.stored k (.int .u8 238)
        have hst' := hide hst
        clear hst hy HY ht hg hcs hcm hnc
        go_wp2_with fail
        go_roundw
        case rel =>
          exact ⟨k + 1, by omega, by go_num, ⟨_, hst'.out⟩, HG.out.trans (Chg.setCell wr _ _) (fun _ _ h => h) (fun i _ h => by simp [Value.ownBlock, h])⟩
        case measure => simp [intOf]; omega
    · obtain rfl : k = n := by omega
      obtain ⟨ys, hy⟩ := HY.out
      have HY' := hide hy
      clear hy HY
      go_wp2_with (at_builtin; go_loud (refine wpl_append rfl _ _ _ rfl slU8 base (HY'.out.alloc _) (Rd_lit wr #[.int .u8 238] _ 1) rfl rfl rfl (by simp [Value.oneCell']) (by unfold maxLen; omega) (by omega) (by have := HG.out.size; have := hbs.out; simp; omega) ?_); intro ao' cap' w1 hown hg hat hnil)
      go_end0
      refine ⟨rfl, HG.out.trans ((Chg.alloc _ wr _).trans hg (fun _ _ h => h) (fun _ _ h => h)) (fun _ _ h => h) (fun _ _ h => h)⟩
end Go.Proofs.YtjmmmpnpkialjaaDoor
