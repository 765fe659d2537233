/- The statements' own helpers on lists of texts: GreatTexts, SameTexts. Conditions: the slices read as said. -/
import Derived.Test.YthhnpafadinheaaProg
import Derived.Test.YthhnpafadinheaaBytes
namespace Go.Proofs.Ythhnpafadinheaa
open Go.RowKit

def TextsOk (most long : Nat) (ss : List ByteArray) : Prop := ss.length ≤ most ∧ ∀ s ∈ ss, s.size ≤ long

theorem texts_at {w : World} {ao : Option Addr} {c : Nat} {ss : List ByteArray} (h : Rd w (.slice ao ss.length c) ss.length (ss.map Value.string)) (k : Nat) (hk : k < ss.length) :
    ∃ b off, ao = some ⟨b, off, none⟩ ∧ w.cell? ⟨b, off + k, none⟩ = some (.string ss[k]) := by
  obtain ⟨ao', cap, e, -, h⟩ := h.shape
  cases e
  obtain ⟨b, off, rfl, hc⟩ := h (by omega)
  exact ⟨b, off, rfl, hc k _ (by simp [hk])⟩

theorem GreatTexts_no (w : World) (v : Value) (ss : List ByteArray) (most long : Nat) (h : Rd w v ss.length (ss.map Value.string)) (hok : TextsOk most long ss) (hm : most ≤ 1000) :
    Calls Try.prog 35 #[v, .int .i64 most, .int .i64 long] w fun e w' => e = .returned (.bool false) ∧ w' = w := by
  obtain ⟨ao, cap, rfl, -, -⟩ := h.shape
  have HA := hide h
  have hl1 := hok.1
  have HK := hide hok.2
  clear h hok
  go_enter Try.func35, Try.ntmps35
  go_wp2_with fail
  go_loop [7] (fun i => ∃ k : Nat, k ≤ ss.length ∧ i = .int .i64 k) (fun i => ss.length - (intOf i).toNat)
  case atStart => exact ⟨0, by omega, rfl⟩
  case round =>
    obtain ⟨k, hk, rfl⟩ := hrel
    by_cases hlt : k < ss.length
    · obtain ⟨b, off, rfl, h2⟩ := texts_at HA.out k hlt
      have hk60 := HK.out ss[k] (List.getElem_mem hlt)
      go_wp2_with fail
      go_round
      case rel => exact ⟨k + 1, by omega, by go_num⟩
      case measure => simp [intOf]; omega
    · go_wp2_with fail
      go_ret
      exact ⟨ret_bool (by simp; omega), rfl⟩

theorem GreatTexts_yes (w : World) (v : Value) (ss : List ByteArray) (most long : Nat) (h : Rd w v ss.length (ss.map Value.string)) (hok : ¬ TextsOk most long ss) (hm : most ≤ 1000) (hml : ss.length ≤ 9223372036854775807) (hss : ∀ s ∈ ss, s.size ≤ 9223372036854775807) :
    Calls Try.prog 35 #[v, .int .i64 most, .int .i64 long] w fun e w' => e = .returned (.bool true) ∧ w' = w := by
  obtain ⟨ao, cap, rfl, -, -⟩ := h.shape
  have HA := hide h
  have HSS := hide hss
  clear hss
  by_cases hl1 : ss.length ≤ most
  · have HK : Hid (¬ ∀ s ∈ ss, s.size ≤ long) := fun h => hok ⟨hl1, h⟩
    clear h hok
    go_enter Try.func35, Try.ntmps35
    go_wp2_with fail
    go_loop [7] (fun i => ∃ k : Nat, k ≤ ss.length ∧ i = .int .i64 k ∧ ∀ j (hj : j < ss.length), j < k → ss[j].size ≤ long) (fun i => ss.length - (intOf i).toNat)
    case atStart => exact ⟨0, by omega, rfl, by omega⟩
    case round =>
      obtain ⟨k, hk, rfl, hall⟩ := hrel
      have HALL := hide hall
      clear hall
      by_cases hlt : k < ss.length
      · obtain ⟨b, off, rfl, h2⟩ := texts_at HA.out k hlt
        have hkm := HSS.out ss[k] (List.getElem_mem hlt)
        by_cases h60 : ss[k].size ≤ long
        · go_wp2_with fail
          go_round
          case rel =>
            refine ⟨k + 1, by omega, by go_num, fun j hj hjk => ?_⟩
            by_cases e : j = k
            · subst e; exact h60
            · exact HALL.out j hj (by omega)
          case measure => simp [intOf]; omega
        · go_wp2_with fail
          go_ret
          exact ⟨rfl, rfl⟩
      · exfalso
        refine HK.out fun a ha => ?_
        obtain ⟨j, hj, rfl⟩ := List.getElem_of_mem ha
        exact HALL.out j hj (by omega)
  · clear h hok
    by_cases h0 : 0 < ss.length
    · go_enter Try.func35, Try.ntmps35
      go_wp2_with fail
      go_loop [7] (fun i => i = .int .i64 0) (fun _ => 0)
      case atStart => rfl
      case round =>
        obtain rfl := hrel
        go_wp2_with fail
        go_ret
        exact ⟨ret_bool (by simp; omega), rfl⟩
    · omega

set_option maxHeartbeats 400000 in
theorem SameTexts_refl (w : World) (va vb : Value) (xs : List ByteArray) (ha : Rd w va xs.length (xs.map Value.string)) (hb : Rd w vb xs.length (xs.map Value.string)) (hm : xs.length ≤ 140737488351232) :
    Calls Try.prog 43 #[va, vb] w fun e w' => e = .returned (.bool true) ∧ ∃ n, w' = w.drewN n := by
  obtain ⟨ao, ca, rfl, -, -⟩ := ha.shape
  obtain ⟨bo, cb, rfl, -, -⟩ := hb.shape
  have HA := hide ha; clear ha
  have HB := hide hb; clear hb
  go_enter Try.func43, Try.ntmps43
  go_wp2
  go_loopw [5] (fun i wr => ∃ k : Nat, k ≤ xs.length ∧ i = .int .i64 k ∧ (∃ n, wr = w.drewN n)) (fun i _ => xs.length - (intOf i).toNat)
  case atStart => exact ⟨0, Nat.zero_le _, rfl, 0, rfl⟩
  case round =>
    obtain ⟨k, hk, rfl, n, rfl⟩ := hrel
    by_cases hlt : k < xs.length
    · obtain ⟨a, oa, rfl, hx⟩ := texts_at HA.out k hlt
      obtain ⟨b, ob, rfl, hy⟩ := texts_at HB.out k hlt
      go_wp2_with (fail)
      go_quiet (fail)
      go_wp2
      go_roundw
      case rel => exact ⟨k + 1, by omega, by go_num, n + nq, by simp⟩
      case measure => simp [intOf]; omega
    · go_wp2
      go_ret
      exact ⟨rfl, n, rfl⟩
end Go.Proofs.Ythhnpafadinheaa
