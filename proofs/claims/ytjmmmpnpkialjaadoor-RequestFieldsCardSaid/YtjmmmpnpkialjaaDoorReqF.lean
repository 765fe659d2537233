/- code.ReadList at files. Conditions: the bytes read as said. -/
import Derived.Test.YtjmmmpnpkialjaaDoorReqR
import Derived.Test.YtjmmmpnpkialjaaDoorPileW
namespace Go.Proofs.YtjmmmpnpkialjaaDoor
open Go.RowKit Go.Shelf

set_option maxHeartbeats 4000000 in
set_option maxRecDepth 100000 in
theorem code_ReadList_F (w : World) (vb : Value) (b : List UInt8) (p most : Int) (hb : Rd w vb b.length (u8s b)) (hm : b.length ≤ 140737488351232) (hmo : most ≤ 1000) :
    Calls Tryd.prog 76 #[vb, .int .i64 p, .int .i64 most, .func (.func 77) #[] #[]] w fun e w' => ∃ ao cap, e = .returned (.tuple #[.slice ao (rdListG rdFile b p most).1.length cap, .int .i64 (rdListG rdFile b p most).2.1, .bool (rdListG rdFile b p most).2.2]) ∧
      w'.ownsRow w.heap.size 68 2 (.slice ao (rdListG rdFile b p most).1.length cap) (rdListG rdFile b p most).1.length (flat fl_enc (rdListG rdFile b p most).1) ∧ Below w.heap.size w w' := by
  have HB := hide hb
  obtain ⟨ab, cb, rfl, -, -⟩ := hb.shape
  clear hb
  obtain ⟨N, q0, ok, hrd⟩ : ∃ N q0 ok, rdNum b p = (N, q0, ok) := ⟨_, _, _, rfl⟩
  have hc := code_ReadNum w _ b p HB.out hm
  rw [hrd] at hc
  have HC := hide hc
  have hnn : ∀ w', Sem.run Tryd.prog (binOp BinOp.eql 114 (.func (.func 77) #[] #[]) .nilFunc) w' = .ok (.bool false) w' := by intro w'; kernel_rfl
  by_cases hyes : ok = true ∧ 0 ≤ N ∧ N ≤ most
  · obtain ⟨rfl, h1, h2⟩ := hyes
    obtain ⟨n, rfl⟩ : ∃ n : Nat, N = n := ⟨N.toNat, by omega⟩
    obtain ⟨R, hR⟩ : ∃ R, R = rdListG rdFile b p most := ⟨_, rfl⟩
    have hR' : R = match rdAllG rdFile b n q0 with | some (l, q) => (l, q, true) | none => ([], 0, false) := by
      rw [hR, rdListG, hrd, if_pos ⟨rfl, h1, h2⟩, Int.toNat_natCast]; cases rdAllG rdFile b n q0 <;> simp
    rw [← hR]
    have HR := hide hR'
    clear hc hrd hR hR'
    go_enter Tryd.func76, Tryd.ntmps76
    go_wp2_with fail
    refine HC.out.mono ?_
    rintro e w1 ⟨rfl, rfl⟩
    go_wp2_with fail
    go_loopw [1, 13, 40] (fun pv v i wr => ∃ k : Nat, k ≤ n ∧ i = .int .i64 k ∧ ∃ (q : Int) (l : List Fl), pv = .int .i64 q ∧ Hid (l.length = k ∧ rdAllG rdFile b n q0 = (rdAllG rdFile b (n - k) q).map (fun r => (l ++ r.1, r.2))) ∧ Hid (Below w1.heap.size w1 wr) ∧
      Hid (∃ ao cap, v = .slice ao l.length cap ∧ wr.ownsRow w1.heap.size 68 2 (.slice ao l.length cap) l.length (flat fl_enc l))) (fun _ _ i _ => n - (intOf i).toNat)
    case atStart => exact ⟨0, by omega, rfl, q0, [], rfl, ⟨rfl, by cases rdAllG rdFile b n q0 <;> simp⟩, Below.refl _ _, none, 0, rfl, World.ownsRow_nil _ _ _ _⟩
    case round =>
      obtain ⟨k, hk, rfl, q, l, rfl, HE, HBW, HV⟩ := hrel
      by_cases hlt : k < n
      · obtain ⟨ao, cap, rfl, ho⟩ := HV.out
        have HO := hide ho
        obtain ⟨s, q2, ok, hrt⟩ : ∃ s q2 ok, rdFile b q = (s, q2, ok) := ⟨_, _, _, rfl⟩
        have hcall := readFile_ok wr _ b q (HB.out.chg (Chg.of_below0 (S := fun _ => False) HBW.out) (fun _ _ _ h => h)) hm
        rw [hrt] at hcall
        have HCALL := hide hcall
        have HRT := hide hrt
        clear hcall hrt ho HV
        cases ok with
        | true =>
          have hll := HE.out.1
          have HLL := hide hll
          clear hll
          unfold flV at HCALL
          go_wp2_with fail
          refine HCALL.out.mono ?_
          rintro e w2 ⟨rfl, hb2⟩
          have HO2 := hide ((Chg.of_below0 (S := fun _ => False) hb2).owns HO.out (fun _ _ h => h))
          have HBW2 := hide (HBW.out.trans (hb2.mono HBW.out.size))
          clear hb2
          have h4 := Rd_lit (w2.alloc (.cells #[.string s.path, .string s.data] 68)) #[.string s.path, .string s.data] 68 1
          rw [World.size_alloc] at h4
          go_wp2_with (at_builtin; refine wpl_append rfl _ _ _ rfl fl_slT w1.heap.size ((HO2.out.alloc _).alloc _) h4 rfl rfl rfl (by simp [Value.oneCell']) (by have := HLL.out; unfold maxLen; omega) (by have := HLL.out; omega) (by have := HBW2.out.size; simp; omega) ?_; intro ao4 cap4 w4 hown hg _ _; have HO4 := hide hown; have HB4 := hide (((HBW2.out.alloc HBW2.out.size _).alloc (by have := HBW2.out.size; simp; omega) _).trans (hg.below (by have := HBW2.out.size; simp; omega) (fun i hi e => by have := (ownsRow_lt HO2.out i e).1; omega))); clear hown hg)
          go_roundw
          case rel =>
            refine ⟨k + 1, by omega, by go_num, q2, l ++ [s], rfl, ⟨by simp [HLL.out], ?_⟩, HB4.out, ao4, cap4, by simp, by have h := HO4.out; simp only [flat_append, List.length_append] at h ⊢; exact h⟩
            rw [HE.out.2, show n - k = n - (k + 1) + 1 by omega, rdAllG, HRT.out, if_pos rfl, Option.map_map]
            congr 1
            funext r
            simp
          case measure => simp [intOf]; omega
        | false =>
          have hnone : rdAllG rdFile b n q0 = none := by
            rw [HE.out.2, show n - k = n - (k + 1) + 1 by omega, rdAllG, HRT.out]
            simp
          have hR : Hid (R = ([], 0, false)) := by rw [Hid, HR.out, hnone]
          clear hnone
          unfold flV at HCALL
          go_wp2_with fail
          refine HCALL.out.mono ?_
          rintro e w2 ⟨rfl, hb2⟩
          have HBW2 := hide (HBW.out.trans (hb2.mono HBW.out.size))
          clear hb2
          go_wp2_with fail
          go_ret3
          rw [hR.out]
          exact ⟨none, 0, rfl, World.ownsRow_nil _ _ _ _, HBW2.out.alloc HBW2.out.size _⟩
      · obtain rfl : k = n := by omega
        obtain ⟨ao, cap, rfl, ho⟩ := HV.out
        have HO := hide ho
        have hR : Hid (R = (l, q, true)) := by
          rw [Hid, HR.out, HE.out.2, Nat.sub_self, rdAllG]
          simp
        clear ho HV
        go_wp2_with fail
        go_ret3
        rw [hR.out]
        exact ⟨ao, cap, rfl, HO.out, HBW.out⟩
  · have hR : rdListG rdFile b p most = ([], 0, false) := by rw [rdListG, hrd, if_neg hyes]
    rw [hR]
    clear hc hR
    go_enter Tryd.func76, Tryd.ntmps76
    go_wp2_with fail
    refine HC.out.mono ?_
    rintro e w1 ⟨rfl, rfl⟩
    go_wp2_with fail
    all_goals first
      | (go_ret3; exact ⟨none, 0, rfl, World.ownsRow_nil _ _ _ _, Below.refl _ _⟩)
      | (exfalso; exact hyes ⟨by first | rfl | assumption, by omega, by omega⟩)

end Go.Proofs.YtjmmmpnpkialjaaDoor
