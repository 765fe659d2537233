/- What was laid is read: numbers and texts, in plain words. No program is named. Conditions: none. -/
import Derived.Test.YtjmmmpnpkialjaaDoorCode
import Derived.Test.YtjmmmpnpkialjaaDoorCodeR
namespace Go.Proofs.YtjmmmpnpkialjaaDoor
open Go.RowKit

theorem or_byte (a c : Nat) (ha : a < 72057594037927936) (hc : c < 256) : bits BinOp.or IntKind.u64 (IntKind.u64.wrap ((a : Int) * 256)) (IntKind.u64.wrap (c : Int)) = ((a * 256 + c : Nat) : Int) := by
  rw [IntWalk.u64_in _ (by omega), IntWalk.u64_in _ (by omega)]
  have e1 : BitVec.ofInt 64 ((a : Int) * 256) = BitVec.ofNat 64 (a * 256) := by
    rw [show ((a : Int) * 256) = ((a * 256 : Nat) : Int) from by simp, BitVec.ofInt_natCast]
  have e2 : BitVec.ofInt 64 (c : Int) = BitVec.ofNat 64 c := BitVec.ofInt_natCast _ _
  have e3 : a * 256 ||| c = a * 256 + c := by
    have := Nat.shiftLeft_add_eq_or_of_lt (i := 8) (b := c) (by omega) a
    simp only [Nat.shiftLeft_eq] at this
    rw [show (2 : Nat) ^ 8 = 256 from rfl] at this
    omega
  have e4 : (BitVec.ofNat 64 (a * 256) ||| BitVec.ofNat 64 c).toNat = a * 256 + c := by
    rw [BitVec.toNat_or, BitVec.toNat_ofNat, BitVec.toNat_ofNat, Nat.mod_eq_of_lt (by omega), Nat.mod_eq_of_lt (by omega), e3]
  show IntKind.u64.wrap ((BitVec.ofInt 64 ((a : Int) * 256) ||| BitVec.ofInt 64 (c : Int)).toNat : Int) = _
  rw [e1, e2, e4, IntWalk.u64_in _ (by omega)]

theorem u64_range (n : Int) : 0 ≤ IntKind.u64.wrap n ∧ IntKind.u64.wrap n < 18446744073709551616 := by
  have h1 := Int.emod_nonneg n (b := 18446744073709551616) (by decide)
  have h2 := Int.emod_lt_of_pos n (b := 18446744073709551616) (by decide)
  have e : IntKind.u64.wrap n = n % 18446744073709551616 := by simp [IntKind.wrap, IntKind.signed, IntKind.bits]
  omega

/-- What eight laid bytes make up. -/
theorem acc_num8 (pre post : List UInt8) (n : Int) (k : Nat) (hk : k ≤ 8) : acc (pre ++ (num8 n ++ post)) pre.length k = ((IntKind.u64.wrap n).toNat / 2 ^ (8 * (8 - k)) : Nat) := by
  obtain ⟨h1, h2⟩ := u64_range n
  obtain ⟨U, hU⟩ : ∃ U : Nat, IntKind.u64.wrap n = U := ⟨(IntKind.u64.wrap n).toNat, by omega⟩
  rw [hU] at h2 ⊢
  simp only [Int.toNat_natCast]
  induction k with
  | zero =>
    have : U / 2 ^ 64 = 0 := Nat.div_eq_of_lt (by omega)
    simp [acc, this]
  | succ k ih =>
    have hg : (pre ++ (num8 n ++ post))[pre.length + k]?.getD 0 = numByte n k := by
      rw [List.getElem?_append_right (by omega), Nat.add_sub_cancel_left, List.getElem?_append_left (by rw [num8_length]; omega)]
      simp [num8, show k < 8 by omega]
    have hb : ((numByte n k).toNat : Int) = ((U / 2 ^ (8 * (7 - k)) % 256 : Nat) : Int) := by
      rw [← numByte_val, hU]
      simp
    have e : U / 2 ^ (8 * (8 - k)) = U / 2 ^ (8 * (7 - k)) / 256 := by
      rw [Nat.div_div_eq_div_mul, show (256 : Nat) = 2 ^ 8 from rfl, ← Nat.pow_add]
      congr 2
      omega
    have hlt : U / 2 ^ (8 * (7 - k)) < 18446744073709551616 := Nat.lt_of_le_of_lt (Nat.div_le_self _ _) (by omega)
    rw [acc, ih (by omega), hg, hb, e, or_byte _ _ (by omega) (by omega), show 8 - (k + 1) = 7 - k by omega]
    congr 1
    omega

theorem wrap64_u64 (n : Int) (h : (Lit.int .i64 n).wf = true) : wrap64 ((IntKind.u64.wrap n).toNat : Int) = n := by
  have hn : -9223372036854775808 ≤ n ∧ n ≤ 9223372036854775807 := by simpa [Lit.wf, IntKind.min, IntKind.max, IntKind.signed, IntKind.bits] using h
  have e : IntKind.u64.wrap n = n % 18446744073709551616 := by simp [IntKind.wrap, IntKind.signed, IntKind.bits]
  have h1 := (u64_range n).1
  rw [Int.toNat_of_nonneg h1, e]
  unfold wrap64
  omega

/-- A number is read where it was laid. -/
theorem rdNum_laid (pre post : List UInt8) (n : Int) (h : (Lit.int .i64 n).wf = true) : rdNum (pre ++ (num8 n ++ post)) pre.length = (n, (pre.length : Int) + 8, true) := by
  rw [rdNum, if_pos ⟨by omega, by simp [num8_length]; omega⟩, Int.toNat_natCast, acc_num8 _ _ _ _ (Nat.le_refl _)]
  simp only [Nat.sub_self, Nat.mul_zero, Nat.pow_zero, Nat.div_one]
  rw [wrap64_u64 n h]

theorem wf_nat (n : Nat) (h : n ≤ 9223372036854775807) : (Lit.int .i64 (n : Int)).wf = true := by
  simp [Lit.wf, IntKind.min, IntKind.max, IntKind.signed, IntKind.bits]
  omega

/-- A text is read where it was laid. -/
theorem rdText_laid (pre post : List UInt8) (s : ByteArray) (h : s.size ≤ 9223372036854775807) : rdText (pre ++ (num8 (s.size : Int) ++ (sb s ++ post))) pre.length = (s, (pre.length : Int) + 8 + s.size, true) := by
  have h1 := rdNum_laid pre (sb s ++ post) (s.size : Int) (wf_nat _ h)
  simp only [rdText, h1]
  rw [if_pos ⟨trivial, by omega, by simp [num8_length, sb_length]; omega⟩]
  have e : ((pre.length : Int) + 8).toNat = pre.length + 8 := by omega
  have e2 : (pre ++ (num8 (s.size : Int) ++ (sb s ++ post))).drop (pre.length + 8) = sb s ++ post := by
    rw [← List.append_assoc, List.drop_left' (by simp [num8_length])]
  rw [e, e2, Int.toNat_natCast, List.take_left' (sb_length s)]
  rfl
end Go.Proofs.YtjmmmpnpkialjaaDoor
