/- code.ReadNum, code.ReadText and the document's: what each call answers. Conditions: the bytes read as said. -/
import Derived.Test.YtjmmmpnpkialjaaDoorProg
import Derived.Test.YtjmmmpnpkialjaaDoorBytes
import Derived.Laws.IdiomStrings
namespace Go.Proofs.YtjmmmpnpkialjaaDoor
open Go.RowKit

/-- The number that k bytes from p on make up. -/
def acc (b : List UInt8) (p : Nat) : Nat → Int
  | 0 => 0
  | k + 1 => bits BinOp.or IntKind.u64 (IntKind.u64.wrap (acc b p k * 256)) (IntKind.u64.wrap ((b[p + k]?.getD 0).toNat : Int))
def rdNum (b : List UInt8) (p : Int) : Int × Int × Bool := if 0 ≤ p ∧ p + 8 ≤ b.length then (wrap64 (acc b p.toNat 8), p + 8, true) else (0, 0, false)

set_option maxHeartbeats 4000000 in
set_option maxRecDepth 100000 in
theorem code_ReadNum_yes (w : World) (vb : Value) (b : List UInt8) (m : Nat) (hb : Rd w vb b.length (u8s b)) (hm : b.length ≤ 140737488351232) (hp : m + 8 ≤ b.length) :
    Calls Tryd.prog 54 #[vb, .int .i64 m] w fun e w' => e = .returned (.tuple #[.int .i64 (wrap64 (acc b m 8)), .int .i64 ((m : Int) + 8), .bool true]) ∧ w' = w := by
  obtain ⟨ab, cb, rfl, hcap, h0⟩ := hb.shape
  obtain ⟨blk, off, rfl, hcs⟩ := h0 (by omega)
  have HC := hide hcs
  clear hb h0 hcs
  have a1 : IntKind.i64.wrap ((b.length : Int) - (m : Int)) = (b.length : Int) - (m : Int) := IntWalk.i64_in _ (by omega)
  have a2 : IntKind.i64.wrap ((m : Int) + 8) = (m : Int) + 8 := IntWalk.i64_in _ (by omega)
  go_enter Tryd.func54, Tryd.ntmps54
  go_wp2_with fail
  go_loop [7, 31] (fun v i => ∃ k : Nat, k ≤ 8 ∧ i = .int .i64 k ∧ v = .int .u64 (acc b m k)) (fun _ i => 8 - (intOf i).toNat)
  case atStart => exact ⟨0, by omega, rfl, rfl⟩
  case round =>
    obtain ⟨k, hk, rfl, rfl⟩ := hrel
    by_cases hlt : k < 8
    · have hx := HC.out (m + k) _ (u8s_getElem? b (m + k) (by omega))
      have hx2 := hx
      rw [← Nat.add_assoc] at hx2
      skip
      go_wp2_with fail
      go_round
      case rel =>
        refine ⟨k + 1, by omega, by go_num, ?_⟩
        have : m + k < b.length := by omega
        simp [acc, List.getElem?_eq_getElem this]
      case measure => simp [intOf]; omega
    · obtain rfl : k = 8 := by omega
      go_wp2_with fail
      go_ret3
      exact ⟨rfl, rfl⟩

theorem code_ReadNum_no (w : World) (vb : Value) (b : List UInt8) (p : Int) (hb : Rd w vb b.length (u8s b)) (hm : b.length ≤ 140737488351232) (hp : ¬ (0 ≤ p ∧ p + 8 ≤ b.length)) :
    Calls Tryd.prog 54 #[vb, .int .i64 p] w fun e w' => e = .returned (.tuple #[.int .i64 0, .int .i64 0, .bool false]) ∧ w' = w := by
  obtain ⟨ab, cb, rfl, hcap, -⟩ := hb.shape
  clear hb
  by_cases h1 : p < 0
  · go_enter Tryd.func54, Tryd.ntmps54
    go_wp2_with fail
    go_ret3
    exact ⟨rfl, rfl⟩
  · by_cases h2 : (b.length : Int) < p
    · go_enter Tryd.func54, Tryd.ntmps54
      go_wp2_with fail
      go_ret3
      exact ⟨rfl, rfl⟩
    · have a1 : IntKind.i64.wrap ((b.length : Int) - p) = (b.length : Int) - p := IntWalk.i64_in _ (by omega)
      have h3 : (b.length : Int) - p < 8 := by omega
      go_enter Tryd.func54, Tryd.ntmps54
      go_wp2_with fail
      go_ret3
      exact ⟨rfl, rfl⟩

theorem code_ReadNum (w : World) (vb : Value) (b : List UInt8) (p : Int) (hb : Rd w vb b.length (u8s b)) (hm : b.length ≤ 140737488351232) :
    Calls Tryd.prog 54 #[vb, .int .i64 p] w fun e w' => e = .returned (.tuple #[.int .i64 (rdNum b p).1, .int .i64 (rdNum b p).2.1, .bool (rdNum b p).2.2]) ∧ w' = w := by
  by_cases hp : 0 ≤ p ∧ p + 8 ≤ b.length
  · obtain ⟨m, rfl⟩ : ∃ m : Nat, p = m := ⟨p.toNat, by omega⟩
    simp only [rdNum, if_pos hp, Int.toNat_natCast]
    exact code_ReadNum_yes w vb b m hb hm (by omega)
  · simp only [rdNum, if_neg hp]
    exact code_ReadNum_no w vb b p hb hm hp
set_option maxHeartbeats 4000000 in
set_option maxRecDepth 100000 in
theorem ref_ReadNum_yes (w : World) (vb : Value) (b : List UInt8) (m : Nat) (hb : Rd w vb b.length (u8s b)) (hm : b.length ≤ 140737488351232) (hp : m + 8 ≤ b.length) :
    Calls Tryd.prog 79 #[vb, .int .i64 m] w fun e w' => e = .returned (.tuple #[.int .i64 (wrap64 (acc b m 8)), .int .i64 ((m : Int) + 8), .bool true]) ∧ w' = w := by
  obtain ⟨ab, cb, rfl, hcap, h0⟩ := hb.shape
  obtain ⟨blk, off, rfl, hcs⟩ := h0 (by omega)
  have HC := hide hcs
  clear hb h0 hcs
  have a1 : IntKind.i64.wrap ((b.length : Int) - (m : Int)) = (b.length : Int) - (m : Int) := IntWalk.i64_in _ (by omega)
  have a2 : IntKind.i64.wrap ((m : Int) + 8) = (m : Int) + 8 := IntWalk.i64_in _ (by omega)
  go_enter Tryd.func79, Tryd.ntmps79
  go_wp2_with fail
  go_loop [7, 8] (fun v i => ∃ k : Nat, k ≤ 8 ∧ i = .int .i64 k ∧ v = .int .u64 (acc b m k)) (fun _ i => 8 - (intOf i).toNat)
  case atStart => exact ⟨0, by omega, rfl, rfl⟩
  case round =>
    obtain ⟨k, hk, rfl, rfl⟩ := hrel
    by_cases hlt : k < 8
    · have hx := HC.out (m + k) _ (u8s_getElem? b (m + k) (by omega))
      have hx2 := hx
      rw [← Nat.add_assoc] at hx2
      have a3 : IntKind.i64.wrap ((m : Int) + (k : Int)) = (m : Int) + (k : Int) := IntWalk.i64_in _ (by omega)
      go_wp2_with fail
      go_round
      case rel =>
        refine ⟨k + 1, by omega, by go_num, ?_⟩
        have : m + k < b.length := by omega
        simp [acc, List.getElem?_eq_getElem this]
      case measure => simp [intOf]; omega
    · obtain rfl : k = 8 := by omega
      go_wp2_with fail
      go_ret3
      exact ⟨rfl, rfl⟩

theorem ref_ReadNum_no (w : World) (vb : Value) (b : List UInt8) (p : Int) (hb : Rd w vb b.length (u8s b)) (hm : b.length ≤ 140737488351232) (hp : ¬ (0 ≤ p ∧ p + 8 ≤ b.length)) :
    Calls Tryd.prog 79 #[vb, .int .i64 p] w fun e w' => e = .returned (.tuple #[.int .i64 0, .int .i64 0, .bool false]) ∧ w' = w := by
  obtain ⟨ab, cb, rfl, hcap, -⟩ := hb.shape
  clear hb
  by_cases h1 : p < 0
  · go_enter Tryd.func79, Tryd.ntmps79
    go_wp2_with fail
    go_ret3
    exact ⟨rfl, rfl⟩
  · by_cases h2 : (b.length : Int) < p
    · go_enter Tryd.func79, Tryd.ntmps79
      go_wp2_with fail
      go_ret3
      exact ⟨rfl, rfl⟩
    · have a1 : IntKind.i64.wrap ((b.length : Int) - p) = (b.length : Int) - p := IntWalk.i64_in _ (by omega)
      have h3 : (b.length : Int) - p < 8 := by omega
      go_enter Tryd.func79, Tryd.ntmps79
      go_wp2_with fail
      go_ret3
      exact ⟨rfl, rfl⟩

theorem ref_ReadNum (w : World) (vb : Value) (b : List UInt8) (p : Int) (hb : Rd w vb b.length (u8s b)) (hm : b.length ≤ 140737488351232) :
    Calls Tryd.prog 79 #[vb, .int .i64 p] w fun e w' => e = .returned (.tuple #[.int .i64 (rdNum b p).1, .int .i64 (rdNum b p).2.1, .bool (rdNum b p).2.2]) ∧ w' = w := by
  by_cases hp : 0 ≤ p ∧ p + 8 ≤ b.length
  · obtain ⟨m, rfl⟩ : ∃ m : Nat, p = m := ⟨p.toNat, by omega⟩
    simp only [rdNum, if_pos hp, Int.toNat_natCast]
    exact ref_ReadNum_yes w vb b m hb hm (by omega)
  · simp only [rdNum, if_neg hp]
    exact ref_ReadNum_no w vb b p hb hm hp
/-- 'string(b)' of no byte, wherever it lies. -/
theorem conv_zero {P : Program} (w : World) (src e dst : TypeId) (hs : P.underlying src = some (.slice e)) (he : P.underlying e = some (.int .u8)) (hd : P.underlying dst = some .string) (q : Option Addr) (c : Nat) :
    (convert src dst (.slice q 0 c)).run P w = .ok (.string ByteArray.empty) w := by
  rw [run_convert_bytes_string w src dst e q 0 c hs he hd]
  cases q <;> simp [Conv.bytesToString, loadCells]
  all_goals rfl

def rdText (b : List UInt8) (p : Int) : ByteArray × Int × Bool :=
  if (rdNum b p).2.2 = true ∧ 0 ≤ (rdNum b p).1 ∧ (rdNum b p).1 ≤ b.length - (rdNum b p).2.1 then (⟨((b.drop (rdNum b p).2.1.toNat).take (rdNum b p).1.toNat).toArray⟩, (rdNum b p).2.1 + (rdNum b p).1, true) else (ByteArray.empty, 0, false)

set_option maxHeartbeats 4000000 in
set_option maxRecDepth 100000 in
theorem code_ReadText (w : World) (vb : Value) (b : List UInt8) (p : Int) (hb : Rd w vb b.length (u8s b)) (hm : b.length ≤ 140737488351232) :
    Calls Tryd.prog 78 #[vb, .int .i64 p] w fun e w' => e = .returned (.tuple #[.string (rdText b p).1, .int .i64 (rdText b p).2.1, .bool (rdText b p).2.2]) ∧ w' = w := by
  have HB := hide hb
  obtain ⟨ab, cb, rfl, hcap, h0⟩ := hb.shape
  have H0 := hide h0
  clear hb h0
  by_cases hp : 0 ≤ p ∧ p + 8 ≤ b.length
  · obtain ⟨m, rfl⟩ : ∃ m : Nat, p = m := ⟨p.toNat, by omega⟩
    have hm8 : m + 8 ≤ b.length := by omega
    have hrd : rdNum b m = (wrap64 (acc b m 8), (m : Int) + 8, true) := by rw [rdNum, if_pos hp]; rfl
    have hc := code_ReadNum_yes w _ b m HB.out hm hm8
    obtain ⟨N, hN⟩ : ∃ N, N = wrap64 (acc b m 8) := ⟨_, rfl⟩
    rw [← hN] at hrd hc
    have HC := hide hc
    have HRD := hide hrd
    have a1 : IntKind.i64.wrap ((b.length : Int) - ((m : Int) + 8)) = (b.length : Int) - ((m : Int) + 8) := IntWalk.i64_in _ (by omega)
    clear hc hrd hN hp
    by_cases hN1 : N < 0
    · have hr : rdText b m = (ByteArray.empty, 0, false) := by simp only [rdText, HRD.out]; rw [if_neg (by omega)]
      rw [hr]
      clear hr
      go_enter Tryd.func78, Tryd.ntmps78
      go_wp2_with fail
      refine HC.out.mono ?_
      rintro e w1 ⟨rfl, rfl⟩
      go_wp2_with fail
      go_ret3
      exact ⟨rfl, rfl⟩
    · by_cases hN2 : (b.length : Int) - ((m : Int) + 8) < N
      · have hr : rdText b m = (ByteArray.empty, 0, false) := by simp only [rdText, HRD.out]; rw [if_neg (by omega)]
        rw [hr]
        clear hr
        go_enter Tryd.func78, Tryd.ntmps78
        go_wp2_with fail
        refine HC.out.mono ?_
        rintro e w1 ⟨rfl, rfl⟩
        go_wp2_with fail
        go_ret3
        exact ⟨rfl, rfl⟩
      · obtain ⟨n, rfl⟩ : ∃ n : Nat, N = n := ⟨N.toNat, by omega⟩
        have hr : rdText b m = (⟨((b.drop (m + 8)).take n).toArray⟩, ((m : Int) + 8) + n, true) := by
          simp only [rdText, HRD.out]
          rw [if_pos ⟨trivial, by omega, by omega⟩]
          have e1 : ((m : Int) + 8).toNat = m + 8 := by omega
          rw [e1, Int.toNat_natCast]
        rw [hr]
        have hn : m + 8 + n ≤ b.length := by omega
        have a2 : IntKind.i64.wrap (((m : Int) + 8) + (n : Int)) = ((m : Int) + 8) + (n : Int) := IntWalk.i64_in _ (by omega)
        obtain ⟨blk, off, rfl, hcs⟩ := H0.out (by omega)
        by_cases hn0 : n = 0
        · subst hn0
          have hcv0 := fun (q : Option Addr) (c : Nat) => conv_zero (P := Tryd.prog) w 30 5 9 Tryd.underlying30 Tryd.underlying5 Tryd.underlying9 q c
          clear hr hcs hN1 hN2
          go_enter Tryd.func78, Tryd.ntmps78
          go_wp2_with fail
          refine HC.out.mono ?_
          rintro e w1 ⟨rfl, rfl⟩
          go_wp2_with fail
          all_goals go_ret3
          all_goals exact ⟨by simp; rfl, rfl⟩
        · have hll : ((b.drop (m + 8)).take n).length = n := by simp; omega
          have hcv := run_convert_bytes_back (P := Tryd.prog) w 30 9 5 ⟨blk, off + (m + 8), none⟩ (cb - (m + 8)) ((b.drop (m + 8)).take n) Tryd.underlying30 Tryd.underlying5 Tryd.underlying9 (by
            intro j hj
            rw [Addr.add_lit]
            have := hcs (m + 8 + j) _ (u8s_getElem? b (m + 8 + j) (by rw [hll] at hj; omega))
            rw [← Nat.add_assoc] at this
            simpa using this)
          rw [hll] at hcv
          have hn1 : 0 < n := by omega
          have hn2 : m + 8 + n ≤ cb := by omega
          clear hr hcs hll hN1 hN2
          go_enter Tryd.func78, Tryd.ntmps78
          go_wp2_with fail
          refine HC.out.mono ?_
          rintro e w1 ⟨rfl, rfl⟩
          go_wp2_with fail
          all_goals go_ret3
          exact ⟨rfl, rfl⟩
  · have hrd : rdNum b p = (0, 0, false) := by rw [rdNum, if_neg hp]
    have hr : rdText b p = (ByteArray.empty, 0, false) := by simp only [rdText, hrd]; rw [if_neg (by simp)]
    rw [hr]
    have HC := hide (code_ReadNum_no w _ b p HB.out hm hp)
    clear hr hrd hp
    go_enter Tryd.func78, Tryd.ntmps78
    go_wp2_with fail
    refine HC.out.mono ?_
    rintro e w1 ⟨rfl, rfl⟩
    go_wp2_with fail
    go_ret3
    exact ⟨rfl, rfl⟩
set_option maxHeartbeats 4000000 in
set_option maxRecDepth 100000 in
theorem ref_ReadText (w : World) (vb : Value) (b : List UInt8) (p : Int) (hb : Rd w vb b.length (u8s b)) (hm : b.length ≤ 140737488351232) :
    Calls Tryd.prog 80 #[vb, .int .i64 p] w fun e w' => e = .returned (.tuple #[.string (rdText b p).1, .int .i64 (rdText b p).2.1, .bool (rdText b p).2.2]) ∧ w' = w := by
  have HB := hide hb
  obtain ⟨ab, cb, rfl, hcap, h0⟩ := hb.shape
  have H0 := hide h0
  clear hb h0
  by_cases hp : 0 ≤ p ∧ p + 8 ≤ b.length
  · obtain ⟨m, rfl⟩ : ∃ m : Nat, p = m := ⟨p.toNat, by omega⟩
    have hm8 : m + 8 ≤ b.length := by omega
    have hrd : rdNum b m = (wrap64 (acc b m 8), (m : Int) + 8, true) := by rw [rdNum, if_pos hp]; rfl
    have hc := ref_ReadNum_yes w _ b m HB.out hm hm8
    obtain ⟨N, hN⟩ : ∃ N, N = wrap64 (acc b m 8) := ⟨_, rfl⟩
    rw [← hN] at hrd hc
    have HC := hide hc
    have HRD := hide hrd
    have a1 : IntKind.i64.wrap ((b.length : Int) - ((m : Int) + 8)) = (b.length : Int) - ((m : Int) + 8) := IntWalk.i64_in _ (by omega)
    clear hc hrd hN hp
    by_cases hN1 : N < 0
    · have hr : rdText b m = (ByteArray.empty, 0, false) := by simp only [rdText, HRD.out]; rw [if_neg (by omega)]
      rw [hr]
      clear hr
      go_enter Tryd.func80, Tryd.ntmps80
      go_wp2_with fail
      refine HC.out.mono ?_
      rintro e w1 ⟨rfl, rfl⟩
      go_wp2_with fail
      go_ret3
      exact ⟨rfl, rfl⟩
    · by_cases hN2 : (b.length : Int) - ((m : Int) + 8) < N
      · have hr : rdText b m = (ByteArray.empty, 0, false) := by simp only [rdText, HRD.out]; rw [if_neg (by omega)]
        rw [hr]
        clear hr
        go_enter Tryd.func80, Tryd.ntmps80
        go_wp2_with fail
        refine HC.out.mono ?_
        rintro e w1 ⟨rfl, rfl⟩
        go_wp2_with fail
        go_ret3
        exact ⟨rfl, rfl⟩
      · obtain ⟨n, rfl⟩ : ∃ n : Nat, N = n := ⟨N.toNat, by omega⟩
        have hr : rdText b m = (⟨((b.drop (m + 8)).take n).toArray⟩, ((m : Int) + 8) + n, true) := by
          simp only [rdText, HRD.out]
          rw [if_pos ⟨trivial, by omega, by omega⟩]
          have e1 : ((m : Int) + 8).toNat = m + 8 := by omega
          rw [e1, Int.toNat_natCast]
        rw [hr]
        have hn : m + 8 + n ≤ b.length := by omega
        have a2 : IntKind.i64.wrap (((m : Int) + 8) + (n : Int)) = ((m : Int) + 8) + (n : Int) := IntWalk.i64_in _ (by omega)
        obtain ⟨blk, off, rfl, hcs⟩ := H0.out (by omega)
        by_cases hn0 : n = 0
        · subst hn0
          have hcv0 := fun (q : Option Addr) (c : Nat) => conv_zero (P := Tryd.prog) w 30 5 9 Tryd.underlying30 Tryd.underlying5 Tryd.underlying9 q c
          clear hr hcs hN1 hN2
          go_enter Tryd.func80, Tryd.ntmps80
          go_wp2_with fail
          refine HC.out.mono ?_
          rintro e w1 ⟨rfl, rfl⟩
          go_wp2_with fail
          all_goals go_ret3
          all_goals exact ⟨by simp; rfl, rfl⟩
        · have hll : ((b.drop (m + 8)).take n).length = n := by simp; omega
          have hcv := run_convert_bytes_back (P := Tryd.prog) w 30 9 5 ⟨blk, off + (m + 8), none⟩ (cb - (m + 8)) ((b.drop (m + 8)).take n) Tryd.underlying30 Tryd.underlying5 Tryd.underlying9 (by
            intro j hj
            rw [Addr.add_lit]
            have := hcs (m + 8 + j) _ (u8s_getElem? b (m + 8 + j) (by rw [hll] at hj; omega))
            rw [← Nat.add_assoc] at this
            simpa using this)
          rw [hll] at hcv
          have hn1 : 0 < n := by omega
          have hn2 : m + 8 + n ≤ cb := by omega
          clear hr hcs hll hN1 hN2
          go_enter Tryd.func80, Tryd.ntmps80
          go_wp2_with fail
          refine HC.out.mono ?_
          rintro e w1 ⟨rfl, rfl⟩
          go_wp2_with fail
          all_goals go_ret3
          exact ⟨rfl, rfl⟩
  · have hrd : rdNum b p = (0, 0, false) := by rw [rdNum, if_neg hp]
    have hr : rdText b p = (ByteArray.empty, 0, false) := by simp only [rdText, hrd]; rw [if_neg (by simp)]
    rw [hr]
    have HC := hide (ref_ReadNum_no w _ b p HB.out hm hp)
    clear hr hrd hp
    go_enter Tryd.func80, Tryd.ntmps80
    go_wp2_with fail
    refine HC.out.mono ?_
    rintro e w1 ⟨rfl, rfl⟩
    go_wp2_with fail
    go_ret3
    exact ⟨rfl, rfl⟩
end Go.Proofs.YtjmmmpnpkialjaaDoor
