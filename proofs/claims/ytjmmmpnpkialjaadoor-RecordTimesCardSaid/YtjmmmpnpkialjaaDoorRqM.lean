/- How long what is read can be. No program is named. Records: which may be, their bytes, what is read of bytes. No program is named. Conditions: the bytes read as said. -/
import Derived.Test.YtjmmmpnpkialjaaDoorRqL
namespace Go.Proofs.YtjmmmpnpkialjaaDoor
open Go.RowKit Go.Shelf

theorem rdAllG_len {τ : Type} {rd : List UInt8 → Int → τ × Int × Bool} {b : List UInt8} : ∀ (n : Nat) (p : Int) (l : List τ) (q : Int), rdAllG rd b n p = some (l, q) → l.length = n
  | 0, p, l, q, h => by cases h; rfl
  | n + 1, p, l, q, h => by
    rw [rdAllG] at h
    split at h
    · obtain ⟨r, h1, h2⟩ := Option.map_eq_some_iff.1 h
      have h3 := rdAllG_len n _ r.1 r.2 h1
      cases h2
      simp [h3]
    · cases h
theorem rdListG_len {τ : Type} (rd : List UInt8 → Int → τ × Int × Bool) (b : List UInt8) (p most : Int) : ((rdListG rd b p most).1.length : Int) ≤ most ∨ (rdListG rd b p most).1 = [] := by
  unfold rdListG
  split
  · rename_i h
    split
    · rename_i l q e
      have := rdAllG_len _ _ _ _ e
      left
      simp only
      omega
    · exact .inr rfl
  · exact .inr rfl
theorem rdText_len (b : List UInt8) (p : Int) : (rdText b p).1.size ≤ b.length := by
  unfold rdText
  split
  · show ((b.drop (rdNum b p).2.1.toNat).take (rdNum b p).1.toNat).toArray.size ≤ b.length
    simp only [List.size_toArray, List.length_take, List.length_drop]
    omega
  · exact Nat.zero_le _
theorem rdCommit_few (b : List UInt8) (p : Int) : Few (rdCommit b p).1 ∧ (rdCommit b p).1.note.size ≤ b.length := by
  unfold rdCommit
  split
  · split
    · refine ⟨⟨?_, ?_⟩, rdText_len _ _⟩
      · rcases rdListG_len rdNum b p 2 with h | h
        · show (rdListG rdNum b p 2).1.length ≤ 1000000
          omega
        · show (rdListG rdNum b p 2).1.length ≤ 1000000
          rw [h]; exact Nat.zero_le _
      · rcases rdListG_len rdFile b (rdListG rdNum b p 2).2.1 12 with h | h
        · show (rdListG rdFile b (rdListG rdNum b p 2).2.1 12).1.length ≤ 1000000
          omega
        · show (rdListG rdFile b (rdListG rdNum b p 2).2.1 12).1.length ≤ 1000000
          rw [h]; exact Nat.zero_le _
    · exact ⟨⟨Nat.zero_le _, Nat.zero_le _⟩, Nat.zero_le _⟩
  · exact ⟨⟨Nat.zero_le _, Nat.zero_le _⟩, Nat.zero_le _⟩
end Go.Proofs.YtjmmmpnpkialjaaDoor
namespace Go.Proofs.YtjmmmpnpkialjaaDoor
open Go.RowKit Go.Shelf

structure Rc where
  at_ : Int
  r : Rq
def mayRc (x : Rc) : Bool := mayRq x.r && decide (0 ≤ x.at_) && decide (x.at_ ≤ 1099511627776)
theorem mayRc_iff {x : Rc} : mayRc x = true ↔ mayRq x.r = true ∧ 0 ≤ x.at_ ∧ x.at_ ≤ 1099511627776 := by
  simp only [mayRc, Bool.and_eq_true, decide_eq_true_eq, and_assoc]
def layRc (x : Rc) : List UInt8 := nums [8 + ((layRq x.r).length : Int), x.at_] ++ layRq x.r
def layRcs (l : List Rc) : List UInt8 := if l.all mayRc = true then l.flatMap layRc else []
theorem layRq_len {r : Rq} (h : mayRq r = true) : 40 ≤ (layRq r).length ∧ (layRq r).length ≤ 60000 := by
  have hs := mayRq_small h
  obtain ⟨k, i, n, l, p, c⟩ := r
  simp only [layRq, List.length_append, nums_length, List.length_cons, List.length_nil]
  refine ⟨by omega, ?_⟩
  split
  · rename_i hk
    have h1 := hs.push hk
    simp only at h1
    have h0 : ∀ l : List Fl, (∀ x ∈ l, (flB x).length ≤ 4000) → (l.flatMap flB).length ≤ l.length * 4000 := by
      intro l
      induction l with
      | nil => intro _; simp
      | cons x l ih =>
        intro h
        have h1 := h x (by simp)
        have h2 := ih (fun y hy => h y (by simp [hy]))
        simp only [List.flatMap_cons, List.length_append, List.length_cons]
        omega
    have h5 := h0 c.tree (fun x hx => by have := h1.fs x hx; simp [flB, txts, num8_length, sb_length]; omega)
    have h6 := h1.ts
    have h7 := h1.ps
    have h8 := h1.nt
    have h9 : (txts [c.note]).length = 8 + c.note.size := by simp [txts, num8_length, sb_length]
    simp only [layC, List.length_append, num8_length, nums_length, h9]
    omega
  · simp
theorem layRc_len {x : Rc} : (layRc x).length = 16 + (layRq x.r).length := by simp [layRc, nums_length]
/-- A record that is not earlier than a moment; the place behind it. -/
def rdOne (b : List UInt8) (p least : Int) : Option (Rc × Int) :=
  if (rdText b p).2.2 = true ∧ (rdNum (sb (rdText b p).1) 0).2.2 = true ∧ least ≤ (rdNum (sb (rdText b p).1) 0).1 ∧ (rdNum (sb (rdText b p).1) 0).1 ≤ 1099511627776 then
    (rdRq ((sb (rdText b p).1).drop 8)).map fun r => (⟨(rdNum (sb (rdText b p).1) 0).1, r⟩, (rdText b p).2.1)
  else none
/-- The records that bytes begin with, each with the place behind it. -/
def recs (b : List UInt8) : Nat → Int → Int → List (Int × Rc)
  | 0, _, _ => []
  | f + 1, p, least => match rdOne b p least with
    | some (x, e) => (e, x) :: recs b f e x.at_
    | none => []
def rdRcs (b : List UInt8) : List (Int × Rc) := recs b 2000 0 0
/-- The last place. -/
def endRc (l : List (Int × Rc)) : Int := (l.getLast?.map (·.1)).getD 0
theorem rdOne_laid {x : Rc} (h : mayRc x = true) (pre post : List UInt8) {least : Int} (hl : least ≤ x.at_) :
    rdOne (pre ++ (layRc x ++ post)) (pre.length : Int) least = some (x, (pre.length : Int) + (layRc x).length) := by
  obtain ⟨h1, h2, h3⟩ := mayRc_iff.1 h
  have hlen := layRq_len h1
  obtain ⟨s, hs⟩ : ∃ s : ByteArray, s = ⟨(num8 x.at_ ++ layRq x.r).toArray⟩ := ⟨_, rfl⟩
  have hsb : sb s = num8 x.at_ ++ layRq x.r := by rw [hs]; rfl
  have hsz : (s.size : Int) = 8 + ((layRq x.r).length : Int) := by
    rw [hs]; show ((num8 x.at_ ++ layRq x.r).toArray.size : Int) = _
    simp [num8_length]
  have ht := rdText_laid pre post s (by omega)
  have e1 : num8 (s.size : Int) ++ (sb s ++ post) = layRc x ++ post := by rw [hsb, hsz]; simp [layRc, nums]
  rw [e1] at ht
  have hn := rdNum_laid [] (layRq x.r) x.at_ (WalkArith.wf_i64 (by omega))
  simp only [List.nil_append, List.length_nil] at hn
  have hn0 : rdNum (sb s) 0 = (x.at_, 8, true) := by rw [hsb]; simpa using hn
  have hd : (sb s).drop 8 = layRq x.r := by rw [hsb, List.drop_left' (num8_length _)]
  have hr : rdRq (layRq x.r) = some x.r := rdRq_some.2 ⟨h1, rfl⟩
  simp only [rdOne, ht, hn0, hd, hr]
  rw [if_pos ⟨trivial, trivial, hl, h3⟩]
  have e2 : (pre.length : Int) + 8 + s.size = (pre.length : Int) + ((layRc x).length : Nat) := by rw [hsz, layRc_len]; omega
  rw [e2]
  rfl
theorem rdNum_short {b : List UInt8} {p : Int} (h : (b.length : Int) < p + 8) : rdNum b p = (0, 0, false) := by rw [rdNum, if_neg (by omega)]
theorem rdOne_short {b : List UInt8} {p least : Int} (h : (b.length : Int) < p + 8) : rdOne b p least = none := by
  have h1 : rdText b p = (ByteArray.empty, 0, false) := by simp only [rdText, rdNum_short h]; rw [if_neg (by simp)]
  rw [rdOne, h1, if_neg (by simp)]
/-- A record that is cut short is none. -/
theorem rdOne_cut {x : Rc} (h : mayRc x = true) (pre : List UInt8) {k : Nat} (hk : k < (layRc x).length) (least : Int) : rdOne (pre ++ (layRc x).take k) (pre.length : Int) least = none := by
  obtain ⟨h1, h2, h3⟩ := mayRc_iff.1 h
  have hlen := layRq_len h1
  by_cases h8 : k < 8
  · exact rdOne_short (by simp; omega)
  · obtain ⟨t, ht⟩ : ∃ t, t = ((num8 x.at_ ++ layRq x.r).take (k - 8)) := ⟨_, rfl⟩
    have e : (layRc x).take k = num8 (8 + ((layRq x.r).length : Int)) ++ t := by
      have e1 : layRc x = num8 (8 + ((layRq x.r).length : Int)) ++ (num8 x.at_ ++ layRq x.r) := by simp [layRc, nums]
      rw [e1, List.take_append, List.take_of_length_le (by rw [num8_length]; omega), num8_length, ht]
    have hn := rdNum_laid pre t (8 + ((layRq x.r).length : Int)) (WalkArith.wf_i64 (by omega))
    have hk2 : k < 16 + (layRq x.r).length := by rw [← layRc_len]; exact hk
    have htl : t.length ≤ k - 8 := by rw [ht, List.length_take]; omega
    have h5 : rdText (pre ++ (num8 (8 + ((layRq x.r).length : Int)) ++ t)) (pre.length : Int) = (ByteArray.empty, 0, false) := by
      simp only [rdText, hn]
      rw [if_neg]
      rintro ⟨-, -, h6⟩
      simp only [List.length_append, num8_length] at h6
      omega
    rw [e, rdOne, h5, if_neg (by simp)]
/-- Eight bytes of which the first is 255 are a number below 0. -/
theorem num8_neg (b1 b2 b3 b4 b5 b6 b7 : UInt8) : ∃ n : Int, num8 n = [255, b1, b2, b3, b4, b5, b6, b7] ∧ -9223372036854775808 ≤ n ∧ n < 0 := by
  have l1 := UInt8.toNat_lt b1
  have l2 := UInt8.toNat_lt b2
  have l3 := UInt8.toNat_lt b3
  have l4 := UInt8.toNat_lt b4
  have l5 := UInt8.toNat_lt b5
  have l6 := UInt8.toNat_lt b6
  have l7 := UInt8.toNat_lt b7
  obtain ⟨U, hU⟩ : ∃ U : Nat, U = 255 * 72057594037927936 + b1.toNat * 281474976710656 + b2.toNat * 1099511627776 + b3.toNat * 4294967296 + b4.toNat * 16777216 + b5.toNat * 65536 + b6.toNat * 256 + b7.toNat := ⟨_, rfl⟩
  refine ⟨(U : Int) - 18446744073709551616, ?_, by omega, by omega⟩
  have hw : IntKind.u64.wrap ((U : Int) - 18446744073709551616) = (U : Int) := by
    have h3 : IntKind.u64.wrap ((U : Int) - 18446744073709551616) = ((U : Int) - 18446744073709551616) % 18446744073709551616 := by simp [IntKind.wrap, IntKind.bits, IntKind.signed]
    rw [h3]
    omega
  have hb : ∀ (b : UInt8) (i : Nat), (U : Int) / 2 ^ (8 * (7 - i)) % 256 = (b.toNat : Int) → numByte ((U : Int) - 18446744073709551616) i = b := by
    intro b i h
    rw [numByte, hw, h, Int.toNat_natCast]
    exact UInt8.ofNat_toNat
  rw [num8]
  simp only [show List.range 8 = [0, 1, 2, 3, 4, 5, 6, 7] from rfl, List.map_cons, List.map_nil]
  rw [hb 255 0 (by simp; omega), hb b1 1 (by simp; omega), hb b2 2 (by simp; omega), hb b3 3 (by simp; omega), hb b4 4 (by simp; omega), hb b5 5 (by simp; omega), hb b6 6 (by simp; omega), hb b7 7 (by simp; omega)]
/-- A byte 255 begins no record. -/
theorem rdOne_255 (pre post : List UInt8) (least : Int) : rdOne (pre ++ (255 :: post)) (pre.length : Int) least = none := by
  match post with
  | b1 :: b2 :: b3 :: b4 :: b5 :: b6 :: b7 :: t =>
    obtain ⟨n, hn, h1, h2⟩ := num8_neg b1 b2 b3 b4 b5 b6 b7
    have e : pre ++ (255 :: b1 :: b2 :: b3 :: b4 :: b5 :: b6 :: b7 :: t) = pre ++ (num8 n ++ t) := by rw [hn]; rfl
    have hr := rdNum_laid pre t n (WalkArith.wf_i64 (by omega))
    have h5 : rdText (pre ++ (num8 n ++ t)) (pre.length : Int) = (ByteArray.empty, 0, false) := by
      simp only [rdText, hr]
      rw [if_neg]
      rintro ⟨-, h6, -⟩
      omega
    rw [e, rdOne, h5, if_neg (by simp)]
  | [] => exact rdOne_short (by simp)
  | [_] => exact rdOne_short (by simp)
  | [_, _] => exact rdOne_short (by simp)
  | [_, _, _] => exact rdOne_short (by simp)
  | [_, _, _, _] => exact rdOne_short (by simp)
  | [_, _, _, _, _] => exact rdOne_short (by simp)
  | [_, _, _, _, _, _] => exact rdOne_short (by simp)
/-- None earlier than the one ahead. -/
def Rises : Int → List Rc → Prop
  | _, [] => True
  | m, x :: l => m ≤ x.at_ ∧ Rises x.at_ l
/-- Where each ends. -/
def placed : Int → List Rc → List (Int × Rc)
  | _, [] => []
  | p, x :: l => (p + (layRc x).length, x) :: placed (p + (layRc x).length) l
theorem placed_map : ∀ (l : List Rc) (p : Int), (placed p l).map (·.2) = l
  | [], _ => rfl
  | x :: l, p => by simp [placed, placed_map l]
theorem placed_end : ∀ (l : List Rc) (p : Int), ((placed p l).getLast?.map (·.1)).getD p = p + (l.flatMap layRc).length
  | [], p => by simp [placed]
  | x :: l, p => by
    have h := placed_end l (p + (layRc x).length)
    rw [placed, List.getLast?_cons]
    simp only [Option.map_some, Option.getD_some, List.flatMap_cons, List.length_append]
    cases hq : (placed (p + (layRc x).length) l).getLast? with
    | none => rw [hq] at h; simp at h ⊢; omega
    | some y => rw [hq] at h; simp at h ⊢; omega
theorem recs_laid : ∀ (l : List Rc) (f : Nat) (pre post : List UInt8) (least : Int), (∀ x ∈ l, mayRc x = true) → Rises least l → l.length ≤ f → (∀ m, least ≤ m → rdOne (pre ++ (l.flatMap layRc ++ post)) ((pre.length : Int) + (l.flatMap layRc).length) m = none) →
    recs (pre ++ (l.flatMap layRc ++ post)) f (pre.length : Int) least = placed (pre.length : Int) l
  | [], f, pre, post, least, _, _, _, hn => by
    cases f with
    | zero => rfl
    | succ f =>
      have h := hn least (Int.le_refl _)
      simp only [List.flatMap_nil, List.nil_append, List.length_nil] at h ⊢
      rw [show (pre.length : Int) + ((0 : Nat) : Int) = (pre.length : Int) by omega] at h
      rw [recs, h]
      rfl
  | x :: l, f, pre, post, least, hm, hr, hf, hn => by
    cases f with
    | zero => simp at hf
    | succ f =>
      have h1 := rdOne_laid (hm x (by simp)) pre (l.flatMap layRc ++ post) hr.1
      have e1 : pre ++ ((x :: l).flatMap layRc ++ post) = pre ++ (layRc x ++ (l.flatMap layRc ++ post)) := by simp
      have e2 : pre ++ (layRc x ++ (l.flatMap layRc ++ post)) = (pre ++ layRc x) ++ (l.flatMap layRc ++ post) := by simp
      have e3 : ((pre ++ layRc x).length : Int) = (pre.length : Int) + (layRc x).length := by simp
      have h2 := recs_laid l f (pre ++ layRc x) post x.at_ (fun y hy => hm y (by simp [hy])) hr.2 (by simpa using hf) (fun m hm' => by
        have h5 := hn m (Int.le_trans hr.1 hm')
        rw [e1, e2] at h5
        rw [e3]
        simp only [List.flatMap_cons, List.length_append, Int.natCast_add] at h5
        rw [← Int.add_assoc] at h5
        exact h5)
      rw [e1, recs, h1]
      simp only [placed]
      rw [← e2, e3] at h2
      rw [h2]
theorem rdRcs_laid (l : List Rc) (post : List UInt8) (hm : ∀ x ∈ l, mayRc x = true) (hr : Rises 0 l) (hl : l.length ≤ 2000) (hn : ∀ m, rdOne (l.flatMap layRc ++ post) (l.flatMap layRc).length m = none) :
    rdRcs (l.flatMap layRc ++ post) = placed 0 l := by
  have h := recs_laid l 2000 [] post 0 hm hr hl (fun m _ => by simpa using hn m)
  simpa [rdRcs] using h
theorem rdRcs_all (l : List Rc) (hm : ∀ x ∈ l, mayRc x = true) (hr : Rises 0 l) (hl : l.length ≤ 2000) : rdRcs (l.flatMap layRc) = placed 0 l := by
  have h := rdRcs_laid l [] hm hr hl (fun m => rdOne_short (by simp; omega))
  simpa using h
end Go.Proofs.YtjmmmpnpkialjaaDoor
