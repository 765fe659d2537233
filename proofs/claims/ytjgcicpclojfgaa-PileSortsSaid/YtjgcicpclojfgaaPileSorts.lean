/- PileSorts: all that was put at one go, or one by one, comes out in order. Conditions: none. -/
import Derived.Test.YtjgcicpclojfgaaRows
import Derived.WalkKit
import Derived.ProofKit
import Derived.OpenShut
import Derived.ShutString
import Derived.ChangeOld
import Derived.Below
import Derived.Test.YtjgcicpclojfgaaPileB
import Derived.Test.YtjgcicpclojfgaaPileP
namespace Go.Proofs.Ytjgcicpclojfgaa
open Go.ChangeShapes Go.WideShapes Go.ChangeAt Go.RowKit
open Go.ChangeMaps (open_string shut_string)
set_option linter.unusedVariables false

theorem law_own : ownKnob Try.prog.godebug = none := by kernel_rfl
theorem law_laid : laidOutB Try.prog = true := by kernel_rfl
open Go.Shelf

theorem ltI_ord : IsOrd ltI := ⟨fun a b h => by simp [ltI] at *; omega, fun a b c h1 h2 => by simp [ltI] at *; omega⟩
theorem count_b (l : List Int) (x v : Int) : ((l ++ [x]).count v : Int) = l.count v + if (x == v) = true then 1 else 0 := by
  rw [List.count_append, List.count_singleton]
  by_cases h : (x == v) = true <;> simp [h]
theorem no_of {a : Bool} (h : a = false) : ¬ (a = true) := by rw [h]; decide

/-- Between two numbers: the first pile has lost the first ones; all else is as it was. -/
def SortRel (n0 p q : Nat) (W : World) (aoq : Option Addr) (capq : Nat) (vx va : Value) (xs l : List Int) (k : Nat) (wr : World) : Prop :=
  ∃ aop capp, pi_At n0 wr p 14 aop capp (l.drop k) ∧ pi_At n0 wr q 14 aoq capq l ∧ Rd wr vx xs.length (xs.map (Value.int .i64)) ∧ Rd wr va l.length (l.map (Value.int .i64)) ∧ Below n0 W wr ∧
    (∀ j, PSet p aop j → n0 ≤ j ∧ ¬ PSet q aoq j ∧ va.ownBlock ≠ some j) ∧ (∀ j, vx.ownBlock = some j → xs ≠ [] → j < n0) ∧ (∀ j, va.ownBlock = some j → j < wr.heap.size)

theorem SortRel.drewN {n0 p q : Nat} {W : World} {aoq : Option Addr} {capq : Nat} {vx va : Value} {xs l : List Int} {k : Nat} {wr : World} (h : SortRel n0 p q W aoq capq vx va xs l k wr) (n : Nat) : SortRel n0 p q W aoq capq vx va xs l k (wr.drewN n) := by
  obtain ⟨aop, capp, g1, g2, g3, g4, g5, g6, g7, g8⟩ := h
  exact ⟨aop, capp, g1, g2, g3, g4, bdrewN g5 n, g6, g7, g8⟩
set_option maxRecDepth 100000 in
set_option maxHeartbeats 8000000 in
theorem PileSorts_walk {H : Type} {enc : TypeId × Value → H} (W : World) (a0 : Option Addr) (n0 c0 : Nat) (hv : Readable enc Try.prog W 22 [.slice a0 n0 c0]) :
    Calls Try.prog 3 #[.slice a0 n0 c0] W fun e W' => e = .returned (.bool true) ∧ Below W.heap.size W W' := by
  obtain ⟨v', xs, hv', hr, hl, hwf, hbl⟩ := hv.ints Try.underlying22 Try.underlying3 (by kernel_rfl)
  obtain rfl : .slice a0 n0 c0 = v' := by simpa using hv'
  obtain ⟨ao', cap', e, -, -⟩ := hr.shape
  cases e
  have HR := hide hr
  have HBL := hide hbl
  have hmx : xs.length ≤ 9223372036854775807 := hl
  clear hr hbl hv hv' hwf hl
  by_cases hlen : xs.length ≤ 100
  · go_enter Try.func3, Try.ntmps3
    go_wp2_with fail
    refine (pi_New W _).mono ?_
    rintro e w1 ⟨rfl, h1, hb1⟩
    have H1 := hide h1
    have HB1 := hide hb1
    have HL1 := hide ((h1.lt _ (.inl rfl)).2)
    clear h1 hb1
    go_wp2_with fail
    refine (pi_New w1 _).mono ?_
    rintro e w2 ⟨rfl, h2, hb2⟩
    have HQ2 := hide h2
    have HB2 := hide (HB1.out.trans (hb2.mono HB1.out.size))
    have HP2 := hide (H1.out.chg (Chg.of_below0 (S := fun _ => False) hb2) (fun _ _ h => h))
    have HL2 := hide ((h2.lt _ (.inl rfl)).2)
    obtain ⟨q, hq⟩ : ∃ q, q = w1.heap.size := ⟨_, rfl⟩
    have hqn : W.heap.size < q := by rw [hq]; exact HL1.out
    rw [← hq] at HQ2 HL2 ⊢
    clear h2 hb2 hq
    go_wp2_with fail
    refine (pi_Put (base := W.heap.size) w2 _ _ _ _ [] ltI lower_less HP2.out _ xs (HR.out.chg (Chg.of_below0 (S := fun _ => False) HB2.out) (fun _ _ _ h => h)) (fun b hb hne => ?_) (by simp; omega)).mono ?_
    · have h5 := HBL.out b hb hne
      refine ⟨fun h => ?_, Nat.lt_of_lt_of_le h5 HB2.out.size⟩
      have := HP2.out.lt _ h
      omega
    obtain ⟨l, hl⟩ : ∃ l, l = xs.foldl (ins ltI) [] := ⟨_, rfl⟩
    have hll : l.length = xs.length := by rw [hl, foldl_ins_length]; simp
    have hperm : l.Perm xs := by rw [hl]; have := foldl_ins_perm ltI xs []; simpa using this
    have hsrt : Sorted ltI l := by rw [hl]; exact foldl_ins_sorted ltI_ord xs List.Pairwise.nil
    rw [← hl]
    have HLL := hide hll
    have HPM := hide hperm
    have HSR := hide hsrt
    have HLD := hide hl
    clear hl hll hperm hsrt
    rintro e w3 ⟨rfl, ao3, cap3, h3, hc3, hs3⟩
    have hdis : ∀ k, PSet W.heap.size ao3 k → k ≠ q := fun k hk e => by
      rcases hs3 k hk with h | h
      · rcases h with h | h
        · omega
        · cases h
      · have := HL2.out; omega
    have HP3 := hide h3
    have HDIS := hide hdis
    have HB3 := hide (HB2.out.trans (hc3.below HB2.out.size (fun k hk e => by have := HP2.out.lt k e; omega)))
    have HQ3 := hide (HQ2.out.chg hc3 (fun k hk e => by
      rcases hk with rfl | h
      · rcases e with e | e
        · omega
        · cases e
      · cases h))
    clear h3 hc3 hs3 hdis
    go_wp2_with fail
    go_loopw [5] (fun i wr => ∃ k : Nat, k ≤ xs.length ∧ i = .int .i64 k ∧ Hid (pi_Grew q w3 q 14 none ((xs.take k).foldl (ins ltI) []) wr)) (fun i _ => xs.length - (intOf i).toNat)
    case atStart => exact ⟨0, Nat.zero_le _, rfl, Grew.refl HQ3.out⟩
    case round =>
      obtain ⟨k, hk, rfl, HG⟩ := hrel
      by_cases hlt : k < xs.length
      · obtain ⟨ao4, cap4, h4, hc4, hs4⟩ := HG.out
        have hne : xs ≠ [] := by rintro rfl; simp at hlt
        have hxr := (HR.out.chg (Chg.of_below0 (S := fun _ => False) HB3.out) (fun _ _ _ h => h)).chg hc4 (fun b hb' _ hp => by
          have h5 := HBL.out b hb' hne
          rcases hp with rfl | h
          · omega
          · cases h)
        obtain ⟨a', c', e, -, hcs0⟩ := hxr.shape
        obtain ⟨b, off, rfl, hcs⟩ := hcs0 (by omega)
        cases e
        have hcx := hcs k (.int .i64 xs[k]) (by simp [i64s, hlt])
        have hll : ((xs.take k).foldl (ins ltI) []).length < 999 := by rw [foldl_ins_length, List.length_take]; simp; omega
        have H4 := hide h4
        have HC4 := hide hc4
        have HS4 := hide hs4
        have HLL4 := hide hll
        clear h4 hc4 hs4 hxr hcs hcs0 hll HG hne
        go_wp2_with fail
        refine (pi_Put (base := q) _ _ _ _ _ ((xs.take k).foldl (ins ltI) []) ltI lower_less (H4.out.chg (Chg.alloc (fun _ => False) wr _) (fun _ _ h => h)) _ [xs[k]] (Rd_lit wr #[.int .i64 xs[k]] 3 1) (fun b hb _ => ?_) (by have := HLL4.out; simp; omega)).mono ?_
        · cases hb
          refine ⟨fun h => ?_, by simp⟩
          have h2 := (H4.out.lt _ h).2
          dsimp only at h2
          omega
        rintro e w5 ⟨rfl, hg5⟩
        have HG5 := hide hg5
        clear hg5
        go_wp2_with fail
        go_roundw
        case rel =>
          refine ⟨k + 1, by omega, by go_num, ?_⟩
          have hc : Chg (PSet q none) w3 (wr.alloc (.cells #[.int .i64 xs[k]] 3)) := HC4.out.trans (Chg.alloc (fun _ => False) wr _) (fun _ _ h => h) (fun _ _ h => h.elim)
          have hg := grew_trans hc HS4.out HG5.out
          rw [take_succ_get xs k hlt, List.foldl_append]
          exact hg
        case measure => simp [intOf]; omega
      · obtain rfl : k = xs.length := by omega
        have hg := HG.out
        rw [List.take_length, ← HLD.out] at hg
        obtain ⟨aoq, capq, h4, hc4, hs4⟩ := hg
        have HQ4 := hide h4
        have HP4 := hide (HP3.out.chg hc4 (fun k hk e => by
          rcases e with e | e
          · exact HDIS.out k hk e
          · cases e))
        have HB4 := hide (HB3.out.trans (hc4.below HB3.out.size (fun k hk e => by
          rcases e with e | e
          · omega
          · cases e)))
        have hdis : ∀ k, PSet W.heap.size ao3 k → ¬ PSet q aoq k := fun k hk hq => by
          have h6 := (HP3.out.lt k hk).2
          rcases hs4 k hq with h | h
          · rcases h with h | h
            · exact HDIS.out k hk h
            · cases h
          · omega
        have HD4 := hide hdis
        clear h4 hc4 hs4 HG HLD hdis
        go_wp2_with fail
        refine (pi_All wr _).mono ?_
        rintro e w5 ⟨rfl, rfl⟩
        go_wp2_with fail
        refine (pi_told wr _ _ _ _ _ HP4.out 200 (by omega)).mono ?_
        rintro e w6 ⟨ao6, cap6, rfl, ho6, hb6⟩
        rw [List.take_of_length_le (by rw [HLL.out]; simp; omega)] at ho6 ⊢
        have HO6 := hide ho6
        have HB6 := hide (HB4.out.trans (hb6.mono HB4.out.size))
        have HP6 := hide (HP4.out.chg (Chg.of_below0 (S := fun _ => False) hb6) (fun _ _ h => h))
        have HQ6 := hide (HQ4.out.chg (Chg.of_below0 (S := fun _ => False) hb6) (fun _ _ h => h))
        have HZ6 := hide hb6.size
        clear ho6 hb6
        go_wp2_with fail
        refine (pi_All w6 _).mono ?_
        rintro e w7 ⟨rfl, rfl⟩
        go_wp2_with fail
        refine (pi_told w6 _ _ _ _ _ HQ6.out 200 (by omega)).mono ?_
        rintro e w8 ⟨ao8, cap8, rfl, ho8, hb8⟩
        rw [List.take_of_length_le (by rw [HLL.out]; simp; omega)] at ho8 ⊢
        have HO8 := hide ho8
        have HB8 := hide (HB6.out.trans (hb8.mono HB6.out.size))
        have HP8 := hide (HP6.out.chg (Chg.of_below0 (S := fun _ => False) hb8) (fun _ _ h => h))
        have HQ8 := hide (HQ6.out.chg (Chg.of_below0 (S := fun _ => False) hb8) (fun _ _ h => h))
        have HA8 := hide ((Chg.of_below0 (S := fun _ => False) hb8).owns HO6.out (fun _ _ h => h))
        clear ho8 hb8
        go_wp2_with fail
        refine (SameInts_ok w8 _ _ l l (Rd.of_owns HA8.out) (Rd.of_owns HO8.out) (by rw [HLL.out]; omega) (by rw [HLL.out]; omega)).mono ?_
        rintro e w9 ⟨rfl, n9, rfl⟩
        have hd : ((l.length : Int) != (xs.length : Int)) = false := by rw [HLL.out]; simp
        have hrel0 : SortRel W.heap.size W.heap.size q W aoq capq (.slice a0 xs.length c0) (.slice ao6 l.length cap6) xs l 0 (w8.drewN n9) := by
          refine ⟨ao3, cap3, by exact HP8.out, ?_, HR.out.chg (Chg.of_below0 (S := fun _ => False) (bdrewN HB8.out n9)) (fun _ _ _ h => h), Rd.of_owns HA8.out, bdrewN HB8.out n9, fun j hj => ?_, HBL.out, fun j hj => (ownsRow_lt HA8.out j hj).2⟩
          · have h9 := HQ8.out
            refine ⟨h9.1, ownsRow_base h9.2.1 (fun k hk => ?_), Nat.le_of_lt hqn, h9.2.2.2⟩
            have := (ownsRow_lt h9.2.1 k hk).1
            omega
          · refine ⟨(HP4.out.lt j hj).1, HD4.out j hj, fun e => ?_⟩
            have h6 := (ownsRow_lt HO6.out j e).1
            have h7 := (HP4.out.lt j hj).2
            omega
        have HREL := hide hrel0
        have hl100 : l.length ≤ 100 := by rw [HLL.out]; exact hlen
        clear hrel0
        go_wp2_with fail
        go_loopw [8] (fun i wr => ∃ k : Nat, k ≤ l.length ∧ i = .int .i64 k ∧ Hid (SortRel W.heap.size W.heap.size q W aoq capq (.slice a0 xs.length c0) (.slice ao6 l.length cap6) xs l k wr)) (fun i _ => l.length - (intOf i).toNat)
        case atStart => exact ⟨0, Nat.zero_le _, rfl, HREL.out⟩
        case round =>
          obtain ⟨k, hk, rfl, HK⟩ := hrel
          by_cases hlt : k < l.length
          · obtain ⟨aop, capp, g1, g2, g3, g4, g5, g6, g7, g8⟩ := HK.out
            have hxk : k < xs.length := by rw [← HLL.out]; exact hlt
            obtain ⟨a', c', e, -, hcs0⟩ := g3.shape
            obtain ⟨bx, ox, rfl, hcx⟩ := hcs0 (by omega)
            cases e
            obtain ⟨a', c', e, -, hcs1⟩ := g4.shape
            obtain ⟨ba, oa, rfl, hca⟩ := hcs1 (by omega)
            cases e
            have hak := hca k (.int .i64 l[k]) (by simp [hlt])
            obtain ⟨v, hv⟩ : ∃ v, v = l[k] := ⟨_, rfl⟩
            rw [← hv] at hak
            have HV := hide hv
            have G1 := hide g1
            have G2 := hide g2
            have G3 := hide g3
            have G4 := hide g4
            have G5 := hide g5
            have G6 := hide g6
            have G7 := hide g7
            have G8 := hide g8
            have HCX := hide hcx
            have HCA := hide hca
            clear g1 g2 g3 g4 g5 g6 g7 g8 hcs0 hcs1 hcx hca hv HK
            go_wp2_with fail
            go_loopw [9, 10] (fun n kk ws => ∃ (j m : Nat) (c : Int), j ≤ xs.length ∧ kk = .int .i64 j ∧ n = .int .i64 c ∧ Hid (c = ((xs.take j).count v : Int) - ((l.take j).count v : Int)) ∧ -(j : Int) ≤ c ∧ c ≤ j ∧ ws = wr.drewN m) (fun _ kk _ => xs.length - (intOf kk).toNat)
            case atStart => exact ⟨0, 0, 0, Nat.zero_le _, rfl, rfl, by simp [Hid], by omega, by omega, rfl⟩
            case round =>
              obtain ⟨j, m, c, hj, rfl, rfl, HC, hc1, hc2, rfl⟩ := hrel
              by_cases hjlt : j < xs.length
              · have hjl : j < l.length := by rw [HLL.out]; exact hjlt
                have hxj := HCX.out j (.int .i64 xs[j]) (by simp [hjlt])
                have haj := HCA.out j (.int .i64 l[j]) (by simp [hjl])
                obtain ⟨x, hx⟩ : ∃ x, x = xs[j] := ⟨_, rfl⟩
                obtain ⟨y, hy⟩ : ∃ y, y = l[j] := ⟨_, rfl⟩
                have ex : xs.take (j + 1) = xs.take j ++ [x] := by rw [take_succ_get xs j hjlt, hx]
                have ey : l.take (j + 1) = l.take j ++ [y] := by rw [take_succ_get l j hjl, hy]
                rw [← hx] at hxj
                rw [← hy] at haj
                have HEX := hide ex
                have HEY := hide ey
                clear ex ey hx hy
                go_wp2_with fail
                go_quiet (fail)
                go_wp2_with fail
                all_goals
                  go_quiet (fail)
                  go_wp2_with fail
                all_goals
                  go_roundw
                  case rel =>
                    refine ⟨j + 1, _, _, by omega, by go_num, rfl, ?_, by omega, by omega, rfl⟩
                    show _ = _
                    have hc := HC.out
                    rw [HEX.out, HEY.out, count_b, count_b]
                    first
                      | (rw [if_pos (by assumption), if_pos (by assumption)]; omega)
                      | (rw [if_pos (by assumption), if_neg (no_of (by assumption))]; omega)
                      | (rw [if_neg (no_of (by assumption)), if_pos (by assumption)]; omega)
                      | (rw [if_neg (no_of (by assumption)), if_neg (no_of (by assumption))]; omega)
                  case measure => simp [intOf]; omega
              · obtain rfl : c = 0 := by
                  have hc := HC.out
                  rw [List.take_of_length_le (by omega), List.take_of_length_le (by rw [HLL.out]; omega), HPM.out.count_eq] at hc
                  omega
                have hdk : l.drop k = v :: l.drop (k + 1) := by rw [HV.out]; exact List.drop_eq_getElem_cons hlt
                have g1 := G1.out
                rw [hdk] at g1
                have G1' := hide g1
                clear hdk g1 HC hc1 hc2
                go_wp2_with fail
                refine (pi_Pop (base := W.heap.size) (wr.drewN m) _ _ _ _ v (l.drop (k + 1)) (by exact G1'.out)).mono ?_
                rintro e w10 ⟨rfl, hg10⟩
                obtain ⟨aop2, capp2, h10, hc10, hs10⟩ := hg10.of_drewN
                have hnext : SortRel W.heap.size W.heap.size q W aoq capq (.slice (some ⟨bx, ox, none⟩) xs.length c0) (.slice (some ⟨ba, oa, none⟩) l.length cap6) xs l (k + 1) w10 := by
                  refine ⟨aop2, capp2, h10, G2.out.chg hc10 (fun j hj e => (G6.out j e).2.1 hj), G3.out.chg hc10 (fun b hb hne e => ?_), G4.out.chg hc10 (fun b hb _ e => (G6.out b e).2.2 hb), G5.out.trans (hc10.below G5.out.size (fun j hj e => by have := (G6.out j e).1; omega)), fun j hj => ?_, G7.out, fun j hj => Nat.lt_of_lt_of_le (G8.out j hj) hc10.size⟩
                  · have h11 := G7.out b hb (by rintro rfl; simp at hxk)
                    have := (G6.out b e).1
                    omega
                  · rcases hs10 j hj with h | h
                    · exact G6.out j h
                    · refine ⟨Nat.le_trans G5.out.size h, fun hq => ?_, fun e => ?_⟩
                      · have := (G2.out.lt j hq).2; omega
                      · have := G8.out j e; omega
                have hca2 : ∀ j (hj : j < l.length), w10.cell? ⟨ba, oa + j, none⟩ = some (.int .i64 l[j]) := fun j hj => by
                  obtain ⟨_, _, _, _, _, g4, _⟩ := hnext
                  obtain ⟨_, _, e, -, hcs1⟩ := g4.shape
                  obtain ⟨_, _, e2, hca⟩ := hcs1 (by omega)
                  cases e
                  cases e2
                  exact hca j _ (by simp [hj])
                have HCA2 := hide hca2
                have HNEXT := hide hnext
                have hak2 : w10.cell? ⟨ba, oa + k, none⟩ = some (.int .i64 v) := by rw [HV.out]; exact hca2 k hlt
                clear hnext hca2 hg10 h10 hc10 hs10 hak
                by_cases hk0 : k = 0
                · subst hk0
                  rw [Nat.add_zero] at hak2
                  go_wp2_with fail
                  refine wp_region_quiet_lit (by kernel_rfl) (by kernel_rfl) ?_
                  repeat (go_big_quiet_step (fail))
                  refine wpQuiet_nil ?_
                  intro _ hw'
                  obtain ⟨nq, hw''⟩ := hw'
                  subst hw''
                  go_wp2_with fail
                  go_roundw
                  case rel => exact ⟨0 + 1, by omega, by go_num, HNEXT.out.drewN nq⟩
                  case measure => simp [intOf]; omega
                · obtain ⟨i, rfl⟩ : ∃ i, k = i + 1 := ⟨k - 1, by omega⟩
                  have hai := HCA2.out i (by omega)
                  have hil : i < l.length := by omega
                  have hso := List.pairwise_iff_getElem.1 HSR.out i (i + 1) (by omega) hlt (by omega)
                  rw [← HV.out] at hso
                  obtain ⟨y, hy⟩ : ∃ y, y = l[i] := ⟨_, rfl⟩
                  rw [← hy] at hso hai
                  have hso2 : decide (v < y) = false := hso
                  have a1 : IntKind.i64.wrap (i : Int) = i := IntWalk.i64_in _ (by omega)
                  clear hso hy
                  go_wp2_with fail
                  refine wp_region_quiet_lit (by kernel_rfl) (by kernel_rfl) ?_
                  repeat (go_big_quiet_step (fail))
                  refine wpQuiet_nil ?_
                  intro _ hw'
                  obtain ⟨nq, hw''⟩ := hw'
                  subst hw''
                  clear a1
                  go_wp2_with fail
                  go_roundw
                  case rel => exact ⟨i + 1 + 1, by omega, by go_num, HNEXT.out.drewN nq⟩
                  case measure => simp [intOf]; omega
          · obtain rfl : k = l.length := by omega
            obtain ⟨aop, capp, g1, g2, g3, g4, g5, g6, g7, g8⟩ := HK.out
            rw [List.drop_length] at g1
            have G1 := hide g1
            have G2 := hide g2
            have G5 := hide g5
            clear g1 g2 g3 g4 g5 g6 g7 g8 HK
            go_wp2_with fail
            refine (pi_Len wr _ _ _ _ [] G1.out).mono ?_
            rintro e w10 ⟨rfl, rfl⟩
            go_wp2_with fail
            refine (pi_Len w10 _ _ _ _ l G2.out).mono ?_
            rintro e w11 ⟨rfl, rfl⟩
            have hd2 : ((l.length : Int) == (xs.length : Int)) = true := by rw [HLL.out]; simp
            go_wp2_with fail
            refine (awake2 _).mono ?_
            rintro e w13 ⟨rfl, hb13⟩
            have HB13 := hide hb13
            clear hb13
            go_wp2_with fail
            go_ret
            exact ⟨rfl, G5.out.trans (HB13.out.mono G5.out.size)⟩
  · go_enter Try.func3, Try.ntmps3
    go_wp2_with fail
    refine (awake2 _).mono ?_
    rintro e w3 ⟨rfl, hb3⟩
    have HB3 := hide hb3
    clear hb3
    go_wp2_with fail
    go_ret
    exact ⟨rfl, HB3.out⟩
set_option maxRecDepth 100000 in
theorem PileSorts_lifted (os : Os) (started : os.Started) (H : Type) (enc : TypeId × Value → H) :
    ReturnsInHanded {} Try.checked os 3 .any (Rows.pileSortsSpec.pre6 enc Try.prog Try.f3 Rows.pileSortsRow.domain false) (Rows.pileSortsSpec.post enc Try.prog Try.f3 false true false false) := by
  refine returnsInHanded_of_change (C := Try.checked) law_own started (by kernel_rfl) Try.func3
    (ChangeSpec.witness6 (enc := enc) (C := Try.checked) false ⟨#[], #[.slice none 0 0], []⟩ 8 (by kernel_rfl) (by kernel_rfl) (by kernel_rfl) (by kernel_rfl)) ?_
  intro W base args ds gs before hval0 hW hcnd _
  have hval : ∀ (j : Nat) t v, Try.f3.params[j]? = some t → args[j]? = some v → Value.okWide Try.prog W .any base t v := hval0
  have hW' := hW
  obtain ⟨p, q, hA0, hV, rfl, hfz, hnd⟩ := hW
  have hA : DataW.TrodAll enc Try.prog W 0 (fun _ => true) true Try.f3.params.toList args.toList ds p := hA0
  rw [Try.params3] at hA hval
  obtain ⟨v0, vs0, d0, ds0, p0, q0, hargs, rfl, rfl, h0, r0⟩ := trodAll_cons hA
  obtain ⟨rfl, rfl, rfl⟩ := trodAll_nil r0
  obtain rfl : args = #[v0] := by cases args; simp_all
  obtain ⟨rfl, rfl⟩ := trodVars_none hV
  have k0 := h0
  have lt0 : ∀ x ∈ p0, x.block < W.heap.size := by obtain ⟨m, hm⟩ := k0; exact DataW.trod_lt m _ _ _ hm
  obtain ⟨a0, len0, cap0, rfl⟩ := okWide_slice Try.underlying22 (hval 0 22 v0 rfl rfl)
  clear hA0 hval0
  refine (PileSorts_walk (enc := enc) W a0 len0 cap0 (Readable.of_trod h0)).mono fun e W' ⟨he, bel⟩ => ?_
  subst he
  exact ⟨_, rfl, _, _, _, [], _, [], hW', trodAll_mk1 (shut_bool Try.underlying4 _), (trodAll_cons_mk (Below.trod law_laid (by kernel_rfl) (of_decide_eq_true (by kernel_rfl)) k0 bel lt0) trodAll_mk0), rfl, bel.frame _, fun h => by cases h⟩

theorem PileSorts_over : Rows.pileSortsRow.holds Try.pinned (OpenSpec.ofChange Rows.pileSortsSpec) :=
  OpenClaim.holds_of_wide 3 Try.f3 rfl rfl rfl rfl rfl rfl rfl ⟨rfl, rfl, rfl, rfl, rfl⟩ rfl rfl rfl rfl rfl (by kernel_rfl) Try.func3 (by kernel_rfl)
    (of_decide_eq_true (by kernel_rfl)) (by unfold Func.isWrapper; first | (rw [if_pos (by decide +kernel)]; kernel_rfl) | (rw [if_neg (by decide +kernel)]; exact ⟨rfl, rfl⟩))
    (fun os started H enc _ => PileSorts_lifted os started H enc)

theorem PileSorts_holds : Rows.PileSortsSaid := PileSorts_over
#print axioms PileSorts_holds

end Go.Proofs.Ytjgcicpclojfgaa
