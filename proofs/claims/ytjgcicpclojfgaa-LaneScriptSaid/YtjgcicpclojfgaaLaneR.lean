/- The document's lanes (chapter 20): what they are in memory, and what each call does. Conditions: none. -/
import Derived.Test.YtjgcicpclojfgaaLaneV
import Derived.Test.YtjgcicpclojfgaaLaneS
import Derived.Deep.RegionHeld3
namespace Go.Proofs.Ytjgcicpclojfgaa
open Go.RowKit Go.Shelf

/-- The document's lanes lie at block rp. -/
structure RefAt (base : Nat) (w : World) (rp : Nat) (pend lanes : Int) (ra : Option Addr) (rcap : Nat) (all : List En) : Prop where
  box : w.heap[rp]? = some (.cells #[.slice ra all.length rcap, .int .i64 pend, .int .i64 lanes] 77 (0, 0))
  low : base ≤ rp
  own : w.ownsRow base 71 4 (.slice ra all.length rcap) all.length (flat pe_enc all)
  few : all.length ≤ 60
def RSet (rp : Nat) (ra : Option Addr) (k : Nat) : Prop := k = rp ∨ (Value.slice ra 0 0).ownBlock = some k
/-- A row of entries of the call's own. -/
def OwnE (base : Nat) (w W : World) (v : Value) (xs : List En) : Prop :=
  ∃ ao cap, v = .slice ao xs.length cap ∧ W.ownsRow base 71 4 (.slice ao xs.length cap) xs.length (flat pe_enc xs) ∧ Below base w W
section
variable {base : Nat} {w w' : World} {rp : Nat} {pend lanes : Int} {ra : Option Addr} {rcap : Nat} {all : List En}
theorem RefAt.chg {S : Nat → Prop} (h : RefAt base w rp pend lanes ra rcap all) (c : Chg S w w') (hs : ∀ k, RSet rp ra k → ¬ S k) : RefAt base w' rp pend lanes ra rcap all :=
  ⟨c.heap h.box (hs rp (.inl rfl)), h.low, c.owns h.own (fun b hb => hs b (.inr (own_slice ra _ _ _ _ ▸ hb))), h.few⟩
theorem RefAt.lt (h : RefAt base w rp pend lanes ra rcap all) : ∀ k, RSet rp ra k → base ≤ k ∧ k < w.heap.size := by
  rintro k (rfl | hk)
  · exact ⟨h.low, (Array.getElem?_eq_some_iff.1 h.box).1⟩
  · exact ownsRow_lt h.own k (own_slice ra _ _ _ _ ▸ hk)
theorem RefAt.notr (h : RefAt base w rp pend lanes ra rcap all) : ¬ (Value.slice ra all.length rcap).ownBlock = some rp := fun e => ownsRow_ne h.own h.box (by decide) e
/-- What a method that writes the document's lanes leaves. -/
def RGrew (base : Nat) (w : World) (rp : Nat) (pend lanes : Int) (ra : Option Addr) (all : List En) (w' : World) : Prop :=
  ∃ ra' rcap', RefAt base w' rp pend lanes ra' rcap' all ∧ Chg (RSet rp ra) w w' ∧ ∀ k, RSet rp ra' k → RSet rp ra k ∨ w.heap.size ≤ k

def may20 (p l : Int) : Bool := decide (1 ≤ p ∧ p ≤ 8 ∧ 1 ≤ l ∧ l ≤ 4)
theorem ref20_May (w : World) (p l : Int) : Calls Try.prog 47 #[.int .i64 p, .int .i64 l] w fun e w' => e = .returned (.bool (may20 p l)) ∧ w' = w := by
  by_cases h1 : 1 ≤ p
  · by_cases h2 : p ≤ 8
    · by_cases h3 : 1 ≤ l
      · by_cases h4 : l ≤ 4
        · go_enter Try.func47, Try.ntmps47
          go_wp2
          go_ret
          exact ⟨ret_bool (decide_eq_true (by omega)).symm, rfl⟩
        · go_enter Try.func47, Try.ntmps47
          go_wp2
          go_ret
          exact ⟨ret_bool (decide_eq_false (by omega)).symm, rfl⟩
      · go_enter Try.func47, Try.ntmps47
        go_wp2
        go_ret
        exact ⟨ret_bool (decide_eq_false (by omega)).symm, rfl⟩
    · go_enter Try.func47, Try.ntmps47
      go_wp2
      go_ret
      exact ⟨ret_bool (decide_eq_false (by omega)).symm, rfl⟩
  · go_enter Try.func47, Try.ntmps47
    go_wp2
    go_ret
    exact ⟨ret_bool (decide_eq_false (by omega)).symm, rfl⟩

theorem ref20_Has_yes (w : World) (m : Nat) (h : RefAt base w rp pend lanes ra rcap all) (hm : m < all.length) : Calls Try.prog 52 #[.pointer (some ⟨rp, 0, none⟩), .int .i64 (m + 1)] w fun e w' => e = .returned (.bool true) ∧ w' = w := by
  have h0 := cell_of_heap h.box 0
  have d1 : decide ((m : Int) + 1 ≥ 1) = true := decide_eq_true (by omega)
  have d2 : decide ((m : Int) + 1 ≤ all.length) = true := decide_eq_true (by omega)
  clear h hm
  go_enter Try.func52, Try.ntmps52
  go_wp2
  go_ret
  exact ⟨rfl, rfl⟩
theorem ref20_Has_no (w : World) (n : Int) (h : RefAt base w rp pend lanes ra rcap all) (hn : n < 1 ∨ (all.length : Int) < n) : Calls Try.prog 52 #[.pointer (some ⟨rp, 0, none⟩), .int .i64 n] w fun e w' => e = .returned (.bool false) ∧ w' = w := by
  have h0 := cell_of_heap h.box 0
  clear h
  by_cases h1 : n < 1
  · have d1 : decide (n ≥ 1) = false := decide_eq_false (by omega)
    clear hn
    go_enter Try.func52, Try.ntmps52
    go_wp2
    go_ret
    exact ⟨rfl, rfl⟩
  · have d1 : decide (n ≥ 1) = true := decide_eq_true (by omega)
    have d2 : decide (n ≤ all.length) = false := decide_eq_false (by omega)
    clear hn
    go_enter Try.func52, Try.ntmps52
    go_wp2
    go_ret
    exact ⟨rfl, rfl⟩

theorem own_at {w : World} {base n : Nat} {ao : Option Addr} {cap : Nat} {xs : List En} (h : w.ownsRow base 71 4 (.slice ao n cap) n (flat pe_enc xs)) (hn : 0 < n) : ∃ b, ao = some ⟨b, 0, none⟩ ∧ CellsAt w b 0 (flat pe_enc xs) ∧ b < w.heap.size ∧ n ≤ cap := by
  rcases h.2 with ⟨e, rfl⟩ | ⟨g, cap', cur, e, hb, hg, hnc, hcm, hcs, ht⟩
  · cases e; omega
  · cases e
    obtain ⟨ao', cap', e, _, hcs⟩ := (Rd.of_owns h).shape
    obtain ⟨b, off, e1, hcs⟩ := hcs hn
    cases e
    cases e1
    exact ⟨g, rfl, hcs, (Array.getElem?_eq_some_iff.1 hg).1, hnc⟩

set_option maxRecDepth 100000 in
set_option maxHeartbeats 4000000 in
theorem ref20_Waiting (w : World) (h : RefAt base w rp pend lanes ra rcap all) : Calls Try.prog 54 #[.pointer (some ⟨rp, 0, none⟩)] w fun e w' => ∃ ao cap, e = .returned (.slice ao (waitR all).length cap) ∧
    w'.ownsRow w.heap.size 71 4 (.slice ao (waitR all).length cap) (waitR all).length (flat pe_enc (waitR all)) ∧ Below w.heap.size w w' := by
  have hfew := h.few
  have H := hide h
  clear h
  go_enter Try.func54, Try.ntmps54
  go_wp2_with fail
  go_loopw [3, 4] (fun v i wr => ∃ k : Nat, k ≤ 4 ∧ i = .int .i64 k ∧ Hid (OwnE w.heap.size w wr v (waitK all k))) (fun _ i _ => 4 - (intOf i).toNat)
  case atStart => exact ⟨0, by omega, rfl, none, 0, rfl, World.ownsRow_nil _ _ _ _, Below.refl _ _⟩
  case round =>
    obtain ⟨k, hk, rfl, HO⟩ := hrel
    by_cases hlt : k < 4
    · obtain ⟨ao, cap, rfl, ho, hb⟩ := HO.out
      have HO1 := hide ho
      have HB1 := hide hb
      have hk4 := waitK_length all k
      have hk240 : (waitK all k).length ≤ 240 := Nat.le_trans hk4 (by have := Nat.mul_le_mul (show k ≤ 4 by omega) hfew; omega)
      have HK240 := hide hk240
      clear ho hb HO hk4 hk240
      have k0 := cell_of_heap ((Chg.of_below0 (S := fun _ => False) HB1.out).heap H.out.box (fun h => h)) 0
      go_wp2_with fail
      clear k0
      go_loopw [3, 5] (fun v i wr => ∃ j : Nat, j ≤ all.length ∧ i = .int .i64 j ∧ Hid (OwnE w.heap.size w wr v (waitK all k ++ (all.take j).filter (wSel k)))) (fun _ i _ => all.length - (intOf i).toNat)
      case atStart => exact ⟨0, by omega, rfl, ao, cap, by simp, by simpa using HO1.out, HB1.out⟩
      case round =>
        obtain ⟨j, hj, rfl, HV⟩ := hrel
        obtain ⟨ao2, cap2, rfl, ho, hb⟩ := HV.out
        have HO2 := hide ho
        have HB2 := hide hb
        clear ho hb HV
        have hr2 := H.out.chg (Chg.of_below0 (S := fun _ => False) HB2.out) (fun _ _ h => h)
        have k0 := cell_of_heap hr2.box 0
        by_cases hlt2 : j < all.length
        · obtain ⟨b, rfl, hcs, hbl, hcp⟩ := own_at hr2.own (by omega)
          obtain ⟨hx0, hx1, hx2, hx3⟩ := pe_cells wr b 0 all hcs j hlt2
          simp only [Nat.zero_add] at hx0 hx1 hx2 hx3
          have htk : (all.take (j + 1)).filter (wSel k) = (all.take j).filter (wSel k) ++ if wSel k all[j] then [all[j]] else [] := by
            rw [take_succ_get all j hlt2, List.filter_append]
            congr 1
            cases hh : wSel k all[j] <;> simp [hh]
          have hfl : ((all.take j).filter (wSel k)).length ≤ 60 := Nat.le_trans (List.length_filter_le _ _) (by rw [List.length_take]; omega)
          obtain ⟨x, hxx⟩ : ∃ x, x = all[j] := ⟨_, rfl⟩
          rw [← hxx] at hx0 hx1 hx2 hx3 htk
          obtain ⟨ys, hys⟩ : ∃ ys, ys = waitK all k ++ (all.take j).filter (wSel k) := ⟨_, rfl⟩
          have hyl : ys.length ≤ 300 := by rw [hys, List.length_append]; have := HK240.out; omega
          have hye : waitK all k ++ (all.take (j + 1)).filter (wSel k) = ys ++ if wSel k x then [x] else [] := by rw [htk, hys, List.append_assoc]
          rw [← hys] at HO2 ⊢
          have HYL := hide hyl
          have HYE := hide hye
          clear hcs hxx hys hyl hye htk hfl hr2
          by_cases c1 : x.lane = k
          · by_cases c2 : x.code = 7
            · have hs : wSel k x = true := by simp [wSel, c1, c2]
              have d1 : (x.lane == (k : Int)) = true := by simp [c1]
              have d2 : (x.code == 7) = true := by simp [c2]
              have HS := hide hs
              clear c1 c2 hs
              go_wp2_with (at_builtin; refine wpl_append rfl (.tmp 40) (.tmp 48) _ rfl pe_slT w.heap.size ((Chg.alloc (fun _ => False) wr _).owns HO2.out (fun _ _ h => h)) (Rd_lit wr #[.int .i64 x.number, .int .i64 x.commit, .int .i64 x.lane, .int .i64 x.code] 71 1) rfl rfl rfl (by exact pe_one x) (by have := HYL.out; unfold maxLen; omega) (by have := HYL.out; omega) (by have := HB2.out.size; simp; omega) ?_; intro ao4 cap4 w4 hown hg _ _; have HO4 := hide hown; have HB4 := hide ((HB2.out.alloc HB2.out.size _).trans (hg.below (by have := HB2.out.size; simp; omega) (fun i hi e => by have := (ownsRow_lt HO2.out i e).1; omega))); clear hown hg)
              go_roundw
              case rel =>
                refine ⟨j + 1, by omega, by go_num, ao4, cap4, ?_, ?_, HB4.out⟩
                · rw [HYE.out, HS.out]; simp
                · rw [HYE.out, HS.out, if_pos rfl, List.length_append, flat_append, flat_cons, flat_nil, List.append_nil]; exact HO4.out
              case measure => simp [intOf]; omega
            · have hs : wSel k x = false := by simp [wSel, c2]
              have d1 : (x.lane == (k : Int)) = true := by simp [c1]
              have d2 : (x.code == 7) = false := by simp [c2]
              have HS := hide hs
              clear c1 c2 hs
              go_wp2_with fail
              go_roundw
              case rel => exact ⟨j + 1, by omega, by go_num, ao2, cap2, by rw [HYE.out, HS.out]; simp, by rw [HYE.out, HS.out]; simpa using HO2.out, HB2.out⟩
              case measure => simp [intOf]; omega
          · have hs : wSel k x = false := by simp [wSel, c1]
            have d1 : (x.lane == (k : Int)) = false := by simp [c1]
            have HS := hide hs
            clear c1 hs
            go_wp2_with fail
            go_roundw
            case rel => exact ⟨j + 1, by omega, by go_num, ao2, cap2, by rw [HYE.out, HS.out]; simp, by rw [HYE.out, HS.out]; simpa using HO2.out, HB2.out⟩
            case measure => simp [intOf]; omega
        · obtain rfl : j = all.length := by omega
          clear hr2
          go_wp2_with fail
          go_roundw
          case rel => exact ⟨k + 1, by omega, by go_num, by rw [waitK_succ]; rw [List.take_length] at HO2; exact ⟨ao2, cap2, by rw [List.take_length], HO2.out, HB2.out⟩⟩
          case measure => simp [intOf]; omega
    · obtain rfl : k = 4 := by omega
      obtain ⟨ao, cap, rfl, ho, hb⟩ := HO.out
      have HO1 := hide ho
      have HB1 := hide hb
      clear ho hb HO
      go_wp2_with fail
      go_ret
      exact ⟨ao, cap, rfl, HO1.out, HB1.out⟩

set_option maxRecDepth 100000 in
theorem ref20_Waits (w : World) (c : Int) (h : RefAt base w rp pend lanes ra rcap all) : Calls Try.prog 53 #[.pointer (some ⟨rp, 0, none⟩), .int .i64 c] w fun e w' => e = .returned (.bool ((waitR all).any fun e => e.commit == c)) ∧ Below w.heap.size w w' := by
  have hfew := h.few
  have H := hide h
  have hwl := waitR_length all
  obtain ⟨zs, hzs⟩ : ∃ zs, zs = waitR all := ⟨_, rfl⟩
  have hzl : zs.length ≤ 240 := by rw [hzs]; omega
  have hW := ref20_Waiting w h
  rw [← hzs] at hW ⊢
  obtain ⟨b, hb⟩ : ∃ b, b = zs.any fun e => e.commit == c := ⟨_, rfl⟩
  rw [← hb]
  have HW := hide hW
  have HBB := hide hb
  clear h hwl hzs hW hb H
  go_enter Try.func53, Try.ntmps53
  go_wp2_with fail
  refine HW.out.mono ?_
  rintro e w1 ⟨ao, cap, rfl, ho, hb⟩
  have HO := hide ho
  have HB := hide hb
  clear ho hb
  go_wp2_with fail
  go_loop [6] (fun i => ∃ k : Nat, k ≤ zs.length ∧ i = .int .i64 k ∧ Hid ((zs.take k).any (fun e => e.commit == c) = false)) (fun i => zs.length - (intOf i).toNat)
  case atStart => exact ⟨0, by omega, rfl, rfl⟩
  case round =>
    obtain ⟨k, hk, rfl, HK⟩ := hrel
    by_cases hlt : k < zs.length
    · obtain ⟨g, rfl, hcs, hbl, hcp⟩ := own_at HO.out (by omega)
      obtain ⟨hx0, hx1, hx2, hx3⟩ := pe_cells w1 g 0 zs hcs k hlt
      simp only [Nat.zero_add] at hx0 hx1 hx2 hx3
      obtain ⟨x, hxx⟩ : ∃ x, x = zs[k] := ⟨_, rfl⟩
      have htk := take_succ_get zs k hlt
      rw [← hxx] at hx0 hx1 hx2 hx3 htk
      have HTK := hide htk
      have HM : Hid (x ∈ zs) := by show x ∈ zs; rw [hxx]; exact List.getElem_mem _
      clear hcs hxx htk
      by_cases hc : x.commit = c
      · have d1 : (x.commit == c) = true := by simp [hc]
        have hbt : true = b := by rw [HBB.out]; exact (List.any_eq_true.2 ⟨x, HM.out, d1⟩).symm
        have HT := hide hbt
        clear hbt hc
        go_wp2_with fail
        go_ret
        exact ⟨ret_bool HT.out, HB.out⟩
      · have d1 : (x.commit == c) = false := by simp [hc]
        have HD := hide d1
        clear hc
        go_wp2_with fail
        go_round
        case rel => exact ⟨k + 1, by omega, by go_num, by show (zs.take (k + 1)).any _ = false; rw [HTK.out, List.any_append, HK.out]; simpa using HD.out⟩
        case measure => simp [intOf]; omega
    · obtain rfl : k = zs.length := by omega
      have hbt : false = b := by rw [HBB.out]; have := HK.out; rw [List.take_length] at this; exact this.symm
      have HT := hide hbt
      clear hbt
      go_wp2_with fail
      go_ret
      exact ⟨ret_bool HT.out, HB.out⟩
end
end Go.Proofs.Ytjgcicpclojfgaa
