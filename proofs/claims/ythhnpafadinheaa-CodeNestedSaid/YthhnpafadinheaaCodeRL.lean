/- code.ReadList at texts: what it answers. Conditions: the bytes read as said. -/
import Derived.Test.YthhnpafadinheaaCodeR
import Derived.Test.YthhnpafadinheaaSeqA
namespace Go.Proofs.Ythhnpafadinheaa
open Go.RowKit

/-- n texts, one behind the other, from p on: these, and where they end; or none. -/
def rdAll (b : List UInt8) : Nat → Int → Option (List ByteArray × Int)
  | 0, p => some ([], p)
  | n + 1, p => if (rdText b p).2.2 = true then (rdAll b n (rdText b p).2.1).map (fun r => ((rdText b p).1 :: r.1, r.2)) else none
/-- What ReadList answers: the texts, the place, whether. -/
def rdList (b : List UInt8) (p most : Int) : List ByteArray × Int × Bool :=
  if (rdNum b p).2.2 = true ∧ 0 ≤ (rdNum b p).1 ∧ (rdNum b p).1 ≤ most then
    match rdAll b (rdNum b p).1.toNat (rdNum b p).2.1 with
    | some (l, q) => (l, q, true)
    | none => ([], 0, false)
  else ([], 0, false)

set_option maxHeartbeats 4000000 in
theorem read_ok (w : World) (vb : Value) (b : List UInt8) (p : Int) (hb : Rd w vb b.length (u8s b)) (hm : b.length ≤ 140737488351232) :
    Calls Try.prog 41 #[vb, .int .i64 p] w fun e w' => e = .returned (.tuple #[.string (rdText b p).1, .int .i64 (rdText b p).2.1, .bool (rdText b p).2.2]) ∧ w' = w := by
  have HB := hide hb
  obtain ⟨ab, cb, rfl, -, -⟩ := hb.shape
  clear hb
  go_enter Try.func41, Try.ntmps41
  go_wp2_with fail
  refine (code_ReadText w _ b p HB.out hm).mono ?_
  rintro e w1 ⟨rfl, rfl⟩
  go_wp2_with fail
  go_ret3
  exact ⟨rfl, rfl⟩

set_option maxHeartbeats 4000000 in
set_option maxRecDepth 100000 in
theorem code_ReadList_S (w : World) (vb : Value) (b : List UInt8) (p most : Int) (hb : Rd w vb b.length (u8s b)) (hm : b.length ≤ 140737488351232) (hmo : most ≤ 1000) :
    Calls Try.prog 40 #[vb, .int .i64 p, .int .i64 most, .func (.func 41) #[] #[]] w fun e w' => ∃ ao cap, e = .returned (.tuple #[.slice ao (rdList b p most).1.length cap, .int .i64 (rdList b p most).2.1, .bool (rdList b p most).2.2]) ∧
      w'.ownsRow w.heap.size 9 1 (.slice ao (rdList b p most).1.length cap) (rdList b p most).1.length ((rdList b p most).1.map Value.string) ∧ Below w.heap.size w w' := by
  have HB := hide hb
  obtain ⟨ab, cb, rfl, -, -⟩ := hb.shape
  clear hb
  obtain ⟨N, q0, ok, hrd⟩ : ∃ N q0 ok, rdNum b p = (N, q0, ok) := ⟨_, _, _, rfl⟩
  have hc := code_ReadNum w _ b p HB.out hm
  rw [hrd] at hc
  have HC := hide hc
  have hnn : ∀ w', Sem.run Try.prog (binOp BinOp.eql 44 (.func (.func 41) #[] #[]) .nilFunc) w' = .ok (.bool false) w' := by intro w'; kernel_rfl
  by_cases hyes : ok = true ∧ 0 ≤ N ∧ N ≤ most
  · obtain ⟨rfl, h1, h2⟩ := hyes
    obtain ⟨n, rfl⟩ : ∃ n : Nat, N = n := ⟨N.toNat, by omega⟩
    obtain ⟨R, hR⟩ : ∃ R, R = rdList b p most := ⟨_, rfl⟩
    have hR' : R = match rdAll b n q0 with | some (l, q) => (l, q, true) | none => ([], 0, false) := by
      rw [hR, rdList, hrd, if_pos ⟨rfl, h1, h2⟩, Int.toNat_natCast]
    rw [← hR]
    have HR := hide hR'
    clear hc hrd hR hR'
    go_enter Try.func40, Try.ntmps40
    go_wp2_with fail
    refine HC.out.mono ?_
    rintro e w1 ⟨rfl, rfl⟩
    go_wp2_with fail
    go_loopw [1, 13, 40] (fun pv v i wr => ∃ k : Nat, k ≤ n ∧ i = .int .i64 k ∧ ∃ (q : Int) (l : List ByteArray), pv = .int .i64 q ∧ Hid (l.length = k ∧ rdAll b n q0 = (rdAll b (n - k) q).map (fun r => (l ++ r.1, r.2))) ∧ Hid (Below w1.heap.size w1 wr) ∧
      Hid (∃ ao cap, v = .slice ao l.length cap ∧ wr.ownsRow w1.heap.size 9 1 (.slice ao l.length cap) l.length (l.map Value.string))) (fun _ _ i _ => n - (intOf i).toNat)
    case atStart => exact ⟨0, by omega, rfl, q0, [], rfl, ⟨rfl, by cases rdAll b n q0 <;> simp⟩, Below.refl _ _, none, 0, rfl, World.ownsRow_nil _ _ _ _⟩
    case round =>
      obtain ⟨k, hk, rfl, q, l, rfl, HE, HBW, HV⟩ := hrel
      by_cases hlt : k < n
      · obtain ⟨ao, cap, rfl, ho⟩ := HV.out
        have HO := hide ho
        obtain ⟨s, q2, ok, hrt⟩ : ∃ s q2 ok, rdText b q = (s, q2, ok) := ⟨_, _, _, rfl⟩
        have hcall := read_ok wr _ b q (HB.out.chg (Chg.of_below0 (S := fun _ => False) HBW.out) (fun _ _ _ h => h)) hm
        rw [hrt] at hcall
        have HCALL := hide hcall
        have HRT := hide hrt
        clear hcall hrt ho HV
        cases ok with
        | true =>
          have hll := HE.out.1
          have HLL := hide hll
          clear hll
          go_wp2_with fail
          refine HCALL.out.mono ?_
          rintro e w2 ⟨rfl, rfl⟩
          go_wp2_with (at_builtin; refine wpl_append rfl _ _ _ rfl seqS_sl w1.heap.size (HO.out.alloc _) (Rd_lit w2 #[.string s] 9 1) rfl rfl rfl (by simp [Value.oneCell']) (by have := HLL.out; unfold maxLen; omega) (by have := HLL.out; omega) (by have := HBW.out.size; simp; omega) ?_; intro ao4 cap4 w4 hown hg _ _; have HO4 := hide hown; have HB4 := hide ((HBW.out.alloc HBW.out.size _).trans (hg.below (by have := HBW.out.size; simp; omega) (fun i hi e => by have := (ownsRow_lt HO.out i e).1; omega))); clear hown hg)
          go_roundw
          case rel =>
            refine ⟨k + 1, by omega, by go_num, q2, l ++ [s], rfl, ⟨by simp [HLL.out], ?_⟩, HB4.out, ao4, cap4, by simp, by simpa using HO4.out⟩
            rw [HE.out.2, show n - k = n - (k + 1) + 1 by omega, rdAll, HRT.out, if_pos rfl, Option.map_map]
            congr 1
            funext r
            simp
          case measure => simp [intOf]; omega
        | false =>
          have hnone : rdAll b n q0 = none := by
            rw [HE.out.2, show n - k = n - (k + 1) + 1 by omega, rdAll, HRT.out]
            simp
          have hR : Hid (R = ([], 0, false)) := by rw [Hid, HR.out, hnone]
          clear hnone
          go_wp2_with fail
          refine HCALL.out.mono ?_
          rintro e w2 ⟨rfl, rfl⟩
          go_wp2_with fail
          go_ret3
          rw [hR.out]
          exact ⟨none, 0, rfl, World.ownsRow_nil _ _ _ _, HBW.out⟩
      · obtain rfl : k = n := by omega
        obtain ⟨ao, cap, rfl, ho⟩ := HV.out
        have HO := hide ho
        have hR : Hid (R = (l, q, true)) := by
          rw [Hid, HR.out, HE.out.2, Nat.sub_self, rdAll]
          simp
        clear ho HV
        go_wp2_with fail
        go_ret3
        rw [hR.out]
        exact ⟨ao, cap, rfl, HO.out, HBW.out⟩
  · have hR : rdList b p most = ([], 0, false) := by rw [rdList, hrd, if_neg hyes]
    rw [hR]
    clear hc hR
    go_enter Try.func40, Try.ntmps40
    go_wp2_with fail
    refine HC.out.mono ?_
    rintro e w1 ⟨rfl, rfl⟩
    go_wp2_with fail
    all_goals first
      | (go_ret3; exact ⟨none, 0, rfl, World.ownsRow_nil _ _ _ _, Below.refl _ _⟩)
      | (exfalso; exact hyes ⟨by first | rfl | assumption, by omega, by omega⟩)
end Go.Proofs.Ythhnpafadinheaa
