/- What was laid as a list is read again; cut short it is refused: in plain words. Conditions: none. -/
import Derived.Test.YthhnpafadinheaaCodeL
import Derived.Test.YthhnpafadinheaaCodeRL
namespace Go.Proofs.Ythhnpafadinheaa
open Go.RowKit

theorem txts_cons (s : ByteArray) (ss : List ByteArray) : txts (s :: ss) = num8 (s.size : Int) ++ (sb s ++ txts ss) := by simp [txts]

theorem rdAll_laid (ss : List ByteArray) : ∀ (pre post : List UInt8), (∀ s ∈ ss, s.size ≤ 9223372036854775807) → rdAll (pre ++ (txts ss ++ post)) ss.length pre.length = some (ss, ((pre.length + (txts ss).length : Nat) : Int)) := by
  induction ss with
  | nil => intro pre post _; simp [rdAll, txts]
  | cons s ss ih =>
    intro pre post h
    have h1 := rdText_laid pre (txts ss ++ post) s (h s (by simp))
    have e1 : pre ++ (txts (s :: ss) ++ post) = pre ++ (num8 (s.size : Int) ++ (sb s ++ (txts ss ++ post))) := by rw [txts_cons]; simp
    have e2 : pre ++ (num8 (s.size : Int) ++ (sb s ++ (txts ss ++ post))) = (pre ++ (num8 (s.size : Int) ++ sb s)) ++ (txts ss ++ post) := by simp
    have h2 := ih (pre ++ (num8 (s.size : Int) ++ sb s)) post (fun t ht => h t (by simp [ht]))
    have e3 : ((pre ++ (num8 (s.size : Int) ++ sb s)).length : Int) = (pre.length : Int) + 8 + s.size := by simp [num8_length, sb_length]; omega
    rw [← e2, e3] at h2
    rw [e1, List.length_cons, rdAll, h1, if_pos rfl]
    simp only
    rw [h2]
    simp [txts_cons, num8_length, sb_length]
    omega

theorem rdAll_short (ss : List ByteArray) : ∀ (pre : List UInt8) (j : Nat), (∀ s ∈ ss, s.size ≤ 9223372036854775807) → j < (txts ss).length → rdAll (pre ++ (txts ss).take j) ss.length pre.length = none := by
  induction ss with
  | nil => intro pre j _ h; simp [txts] at h
  | cons s ss ih =>
    intro pre j h hj
    rw [txts_cons] at hj ⊢
    have hs := h s (by simp)
    by_cases h8 : j < 8
    · have e : rdNum (pre ++ (num8 (s.size : Int) ++ (sb s ++ txts ss)).take j) pre.length = (0, 0, false) := by
        rw [rdNum, if_neg]
        simp
        omega
      rw [List.length_cons, rdAll, rdText]
      simp [e]
    · by_cases hj2 : j < 8 + s.size
      · have et : (num8 (s.size : Int) ++ (sb s ++ txts ss)).take j = num8 (s.size : Int) ++ (sb s ++ txts ss).take (j - 8) := by
          rw [List.take_append, num8_length, List.take_of_length_le (by rw [num8_length]; omega)]
        have e := rdNum_laid pre ((sb s ++ txts ss).take (j - 8)) (s.size : Int) (wf_nat _ hs)
        have ht : rdText (pre ++ (num8 (s.size : Int) ++ (sb s ++ txts ss).take (j - 8))) pre.length = (ByteArray.empty, 0, false) := by
          simp only [rdText, e]
          rw [if_neg]
          rintro ⟨-, -, h7⟩
          simp only [List.length_append, List.length_take, num8_length, sb_length] at h7
          omega
        rw [et, List.length_cons, rdAll, ht]
        simp
      · have et : (num8 (s.size : Int) ++ (sb s ++ txts ss)).take j = num8 (s.size : Int) ++ (sb s ++ (txts ss).take (j - 8 - s.size)) := by
          rw [List.take_append, num8_length, List.take_of_length_le (by rw [num8_length]; omega), List.take_append, sb_length, List.take_of_length_le (by rw [sb_length]; omega)]
        have h1 := rdText_laid pre ((txts ss).take (j - 8 - s.size)) s hs
        have h2 := ih (pre ++ (num8 (s.size : Int) ++ sb s)) (j - 8 - s.size) (fun t ht => h t (by simp [ht])) (by simp [num8_length, sb_length] at hj; omega)
        have e3 : ((pre ++ (num8 (s.size : Int) ++ sb s)).length : Int) = (pre.length : Int) + 8 + s.size := by simp [num8_length, sb_length]; omega
        have e2 : pre ++ (num8 (s.size : Int) ++ (sb s ++ (txts ss).take (j - 8 - s.size))) = (pre ++ (num8 (s.size : Int) ++ sb s)) ++ (txts ss).take (j - 8 - s.size) := by simp
        rw [← e2, e3] at h2
        rw [et, List.length_cons, rdAll, h1, if_pos rfl]
        simp only
        rw [h2]
        rfl

/-- A laid list. -/
def listOf (b : List UInt8) (ss : List ByteArray) : List UInt8 := b ++ (num8 (ss.length : Int) ++ txts ss)

theorem rdList_laid (b post : List UInt8) (ss : List ByteArray) (most : Int) (hs : ∀ s ∈ ss, s.size ≤ 9223372036854775807) (hn : ss.length ≤ 9223372036854775807) (hm : (ss.length : Int) ≤ most) :
    rdList (listOf b ss ++ post) b.length most = (ss, ((listOf b ss).length : Int), true) := by
  have e1 := rdNum_laid b (txts ss ++ post) (ss.length : Int) (wf_nat _ hn)
  have e2 := rdAll_laid ss (b ++ num8 (ss.length : Int)) post hs
  have e3 : listOf b ss ++ post = b ++ (num8 (ss.length : Int) ++ (txts ss ++ post)) := by simp [listOf]
  have e4 : listOf b ss ++ post = (b ++ num8 (ss.length : Int)) ++ (txts ss ++ post) := by simp [listOf]
  rw [← e3] at e1
  rw [← e4] at e2
  have e5 : ((b ++ num8 (ss.length : Int)).length : Int) = (b.length : Int) + 8 := by simp [num8_length]
  rw [e5] at e2
  simp only [rdList, e1]
  rw [if_pos ⟨trivial, by omega, hm⟩, Int.toNat_natCast, e2]
  simp [listOf, num8_length]
  omega

theorem rdList_less (b post : List UInt8) (ss : List ByteArray) (most : Int) (hn : ss.length ≤ 9223372036854775807) (hm : most < (ss.length : Int)) :
    rdList (listOf b ss ++ post) b.length most = ([], 0, false) := by
  have e1 := rdNum_laid b (txts ss ++ post) (ss.length : Int) (wf_nat _ hn)
  have e3 : listOf b ss ++ post = b ++ (num8 (ss.length : Int) ++ (txts ss ++ post)) := by simp [listOf]
  rw [← e3] at e1
  simp only [rdList, e1]
  rw [if_neg]
  omega

theorem rdList_short (b : List UInt8) (ss : List ByteArray) (most : Int) (k : Nat) (hs : ∀ s ∈ ss, s.size ≤ 9223372036854775807) (hn : ss.length ≤ 9223372036854775807) (hk : b.length ≤ k) (hk2 : k < (listOf b ss).length) :
    rdList ((listOf b ss).take k) b.length most = ([], 0, false) := by
  have ek : (listOf b ss).take k = b ++ (num8 (ss.length : Int) ++ txts ss).take (k - b.length) := by
    rw [listOf, List.take_append, List.take_of_length_le hk]
  by_cases h8 : k - b.length < 8
  · have e : rdNum ((listOf b ss).take k) b.length = (0, 0, false) := by
      rw [rdNum, if_neg]
      rw [ek]
      simp
      omega
    simp only [rdList, e]
    rw [if_neg (by simp)]
  · have et : (num8 (ss.length : Int) ++ txts ss).take (k - b.length) = num8 (ss.length : Int) ++ (txts ss).take (k - b.length - 8) := by
      rw [List.take_append, num8_length, List.take_of_length_le (by rw [num8_length]; omega)]
    have e1 := rdNum_laid b ((txts ss).take (k - b.length - 8)) (ss.length : Int) (wf_nat _ hn)
    have hl : k - b.length - 8 < (txts ss).length := by simp [listOf, num8_length] at hk2; omega
    have e2 := rdAll_short ss (b ++ num8 (ss.length : Int)) (k - b.length - 8) hs hl
    have e5 : ((b ++ num8 (ss.length : Int)).length : Int) = (b.length : Int) + 8 := by simp [num8_length]
    rw [e5, List.append_assoc] at e2
    rw [ek, et]
    simp only [rdList, e1]
    split
    · rw [Int.toNat_natCast, e2]
    · rfl
end Go.Proofs.Ythhnpafadinheaa
