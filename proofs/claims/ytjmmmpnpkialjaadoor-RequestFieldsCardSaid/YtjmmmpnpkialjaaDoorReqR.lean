/- code.ReadList at numbers. Conditions: the bytes read as said. -/
import Derived.Test.YtjmmmpnpkialjaaDoorRqL
import Derived.Test.YtjmmmpnpkialjaaDoorSeqA
import Derived.Test.YtjmmmpnpkialjaaDoorReqA
namespace Go.Proofs.YtjmmmpnpkialjaaDoor
open Go.RowKit Go.Shelf

set_option maxHeartbeats 4000000 in
set_option maxRecDepth 100000 in
theorem code_ReadList_I (w : World) (vb : Value) (b : List UInt8) (p most : Int) (hb : Rd w vb b.length (u8s b)) (hm : b.length ≤ 140737488351232) (hmo : most ≤ 1000) :
    Calls Tryd.prog 75 #[vb, .int .i64 p, .int .i64 most, .func (.func 54) #[] #[]] w fun e w' => ∃ ao cap, e = .returned (.tuple #[.slice ao (rdListG rdNum b p most).1.length cap, .int .i64 (rdListG rdNum b p most).2.1, .bool (rdListG rdNum b p most).2.2]) ∧
      w'.ownsRow w.heap.size 3 1 (.slice ao (rdListG rdNum b p most).1.length cap) (rdListG rdNum b p most).1.length ((rdListG rdNum b p most).1.map (Value.int .i64)) ∧ Below w.heap.size w w' := by
  have HB := hide hb
  obtain ⟨ab, cb, rfl, -, -⟩ := hb.shape
  clear hb
  obtain ⟨N, q0, ok, hrd⟩ : ∃ N q0 ok, rdNum b p = (N, q0, ok) := ⟨_, _, _, rfl⟩
  have hc := code_ReadNum w _ b p HB.out hm
  rw [hrd] at hc
  have HC := hide hc
  have hnn : ∀ w', Sem.run Tryd.prog (binOp BinOp.eql 84 (.func (.func 54) #[] #[]) .nilFunc) w' = .ok (.bool false) w' := by intro w'; kernel_rfl
  by_cases hyes : ok = true ∧ 0 ≤ N ∧ N ≤ most
  · obtain ⟨rfl, h1, h2⟩ := hyes
    obtain ⟨n, rfl⟩ : ∃ n : Nat, N = n := ⟨N.toNat, by omega⟩
    obtain ⟨R, hR⟩ : ∃ R, R = rdListG rdNum b p most := ⟨_, rfl⟩
    have hR' : R = match rdAllG rdNum b n q0 with | some (l, q) => (l, q, true) | none => ([], 0, false) := by
      rw [hR, rdListG, hrd, if_pos ⟨rfl, h1, h2⟩, Int.toNat_natCast]; cases rdAllG rdNum b n q0 <;> simp
    rw [← hR]
    have HR := hide hR'
    clear hc hrd hR hR'
    go_enter Tryd.func75, Tryd.ntmps75
    go_wp2_with fail
    refine HC.out.mono ?_
    rintro e w1 ⟨rfl, rfl⟩
    go_wp2_with fail
    go_loopw [1, 13, 40] (fun pv v i wr => ∃ k : Nat, k ≤ n ∧ i = .int .i64 k ∧ ∃ (q : Int) (l : List Int), pv = .int .i64 q ∧ Hid (l.length = k ∧ rdAllG rdNum b n q0 = (rdAllG rdNum b (n - k) q).map (fun r => (l ++ r.1, r.2))) ∧ Hid (Below w1.heap.size w1 wr) ∧
      Hid (∃ ao cap, v = .slice ao l.length cap ∧ wr.ownsRow w1.heap.size 3 1 (.slice ao l.length cap) l.length (l.map (Value.int .i64)))) (fun _ _ i _ => n - (intOf i).toNat)
    case atStart => exact ⟨0, by omega, rfl, q0, [], rfl, ⟨rfl, by cases rdAllG rdNum b n q0 <;> simp⟩, Below.refl _ _, none, 0, rfl, World.ownsRow_nil _ _ _ _⟩
    case round =>
      obtain ⟨k, hk, rfl, q, l, rfl, HE, HBW, HV⟩ := hrel
      by_cases hlt : k < n
      · obtain ⟨ao, cap, rfl, ho⟩ := HV.out
        have HO := hide ho
        obtain ⟨s, q2, ok, hrt⟩ : ∃ s q2 ok, rdNum b q = (s, q2, ok) := ⟨_, _, _, rfl⟩
        have hcall := code_ReadNum wr _ b q (HB.out.chg (Chg.of_below0 (S := fun _ => False) HBW.out) (fun _ _ _ h => h)) hm
        rw [hrt] at hcall
        have HCALL := hide hcall
        have HRT := hide hrt
        clear hcall hrt ho HV
        cases ok with
        | true =>
          have hll := HE.out.1
          have HLL := hide hll
          clear hll
          go_wp2_with fail
          refine HCALL.out.mono ?_
          rintro e w2 ⟨rfl, rfl⟩
          go_wp2_with (at_builtin; refine wpl_append rfl _ _ _ rfl seqI_sl w1.heap.size (HO.out.alloc _) (Rd_lit w2 #[.int .i64 s] 3 1) rfl rfl rfl (by simp [Value.oneCell']) (by have := HLL.out; unfold maxLen; omega) (by have := HLL.out; omega) (by have := HBW.out.size; simp; omega) ?_; intro ao4 cap4 w4 hown hg _ _; have HO4 := hide hown; have HB4 := hide ((HBW.out.alloc HBW.out.size _).trans (hg.below (by have := HBW.out.size; simp; omega) (fun i hi e => by have := (ownsRow_lt HO.out i e).1; omega))); clear hown hg)
          go_roundw
          case rel =>
            refine ⟨k + 1, by omega, by go_num, q2, l ++ [s], rfl, ⟨by simp [HLL.out], ?_⟩, HB4.out, ao4, cap4, by simp, by simpa using HO4.out⟩
            rw [HE.out.2, show n - k = n - (k + 1) + 1 by omega, rdAllG, HRT.out, if_pos rfl, Option.map_map]
            congr 1
            funext r
            simp
          case measure => simp [intOf]; omega
        | false =>
          have hnone : rdAllG rdNum b n q0 = none := by
            rw [HE.out.2, show n - k = n - (k + 1) + 1 by omega, rdAllG, HRT.out]
            simp
          have hR : Hid (R = ([], 0, false)) := by rw [Hid, HR.out, hnone]
          clear hnone
          go_wp2_with fail
          refine HCALL.out.mono ?_
          rintro e w2 ⟨rfl, rfl⟩
          go_wp2_with fail
          go_ret3
          rw [hR.out]
          exact ⟨none, 0, rfl, World.ownsRow_nil _ _ _ _, HBW.out⟩
      · obtain rfl : k = n := by omega
        obtain ⟨ao, cap, rfl, ho⟩ := HV.out
        have HO := hide ho
        have hR : Hid (R = (l, q, true)) := by
          rw [Hid, HR.out, HE.out.2, Nat.sub_self, rdAllG]
          simp
        clear ho HV
        go_wp2_with fail
        go_ret3
        rw [hR.out]
        exact ⟨ao, cap, rfl, HO.out, HBW.out⟩
  · have hR : rdListG rdNum b p most = ([], 0, false) := by rw [rdListG, hrd, if_neg hyes]
    rw [hR]
    clear hc hR
    go_enter Tryd.func75, Tryd.ntmps75
    go_wp2_with fail
    refine HC.out.mono ?_
    rintro e w1 ⟨rfl, rfl⟩
    go_wp2_with fail
    all_goals first
      | (go_ret3; exact ⟨none, 0, rfl, World.ownsRow_nil _ _ _ _, Below.refl _ _⟩)
      | (exfalso; exact hyes ⟨by first | rfl | assumption, by omega, by omega⟩)

theorem results_ctt {P : Program} {fn : Func} {p u v : Tmp} {ty : TypeId} (h : fn.results = #[.cell p ty, .tmp u, .tmp v]) (tmps : Array Value) (w : World) (g : Nat) (t : TypeId) (cs : Array Value) (fr : Nat × Nat) (d : TypeDesc)
    (hp : tmps.getD p undef = .pointer (some ⟨g, 0, none⟩)) (hg : w.heap[g]? = some (.cells cs t fr)) (hu : P.underlying ty = some d) (hd : (match d with | .struct _ | .array _ _ => true | _ => false) = true) (hi : (P.info? ty).map (·.size) = some cs.size) :
    (results fn tmps).run P w = .ok (.tuple #[.agg cs, tmps.getD u undef, tmps.getD v undef]) w := by
  have hp' : tmps[p]?.getD undef = .pointer (some ⟨g, 0, none⟩) := by simpa using hp
  simp [results, h, hp', asAddr, Result.andThen, run_loadVar_row w g t ty cs fr d hg hu hd hi]
set_option maxHeartbeats 4000000 in
theorem readFile_ok (w : World) (vb : Value) (b : List UInt8) (p : Int) (hb : Rd w vb b.length (u8s b)) (hm : b.length ≤ 140737488351232) :
    Calls Tryd.prog 77 #[vb, .int .i64 p] w fun e w' => e = .returned (.tuple #[flV (rdFile b p).1, .int .i64 (rdFile b p).2.1, .bool (rdFile b p).2.2]) ∧ Below w.heap.size w w' := by
  have HB := hide hb
  obtain ⟨ab, cb, rfl, -, -⟩ := hb.shape
  clear hb
  obtain ⟨R, hR⟩ : ∃ R, R = rdFile b p := ⟨_, rfl⟩
  rw [← hR]
  obtain ⟨s, q, o1, h1⟩ : ∃ s q o1, rdText b p = (s, q, o1) := ⟨_, _, _, rfl⟩
  obtain ⟨s2, q2, o2, h2⟩ : ∃ s2 q2 o2, rdText b q = (s2, q2, o2) := ⟨_, _, _, rfl⟩
  have hb0 := (Below.refl w.heap.size w).alloc (Nat.le_refl _) (Obj.cells #[.string ⟨#[]⟩, .string ⟨#[]⟩] 68)
  have hc1 := code_ReadText (w.alloc (Obj.cells #[.string ⟨#[]⟩, .string ⟨#[]⟩] 68)) _ b p (HB.out.chg (Chg.of_below0 (S := fun _ => False) hb0) (fun _ _ _ h => h)) hm
  have hc2 := code_ReadText (w.alloc (Obj.cells #[.string ⟨#[]⟩, .string ⟨#[]⟩] 68)) _ b q (HB.out.chg (Chg.of_below0 (S := fun _ => False) hb0) (fun _ _ _ h => h)) hm
  rw [h1] at hc1
  rw [h2] at hc2
  have hR' : R = if o1 = true ∧ o2 = true then (⟨s, s2⟩, q2, true) else (⟨ByteArray.empty, ByteArray.empty⟩, 0, false) := by
    rw [hR]
    simp only [rdFile, h1, h2]
  have HR := hide hR'
  have HC1 := hide hc1
  have HC2 := hide hc2
  have HB0 := hide hb0
  clear hR hR' hc1 hc2 h1 h2 hb0
  unfold flV
  cases o1 with
  | false =>
    go_enter Tryd.func77, Tryd.ntmps77
    go_wp2_with fail
    refine HC1.out.mono ?_
    rintro e w1 ⟨rfl, rfl⟩
    go_wp2_with fail
    refine HC2.out.mono ?_
    rintro e w1 ⟨rfl, rfl⟩
    go_wp2_with fail
    have hy := heap_alloc_new w (Obj.cells #[.string ⟨#[]⟩, .string ⟨#[]⟩] 68)
    refine bodyPost_ret (results_ctt rfl _ _ w.heap.size _ _ _ _ rfl hy Tryd.underlying68 rfl (by kernel_rfl)) rfl ?_
    refine ⟨?_, (Below.refl w.heap.size w).alloc (Nat.le_refl _) _⟩
    rw [HR.out]
    rfl
  | true =>
  cases o2 with
  | false =>
    go_enter Tryd.func77, Tryd.ntmps77
    go_wp2_with fail
    refine HC1.out.mono ?_
    rintro e w1 ⟨rfl, rfl⟩
    go_wp2_with fail
    refine HC2.out.mono ?_
    rintro e w1 ⟨rfl, rfl⟩
    go_wp2_with fail
    have hy := heap_alloc_new w (Obj.cells #[.string ⟨#[]⟩, .string ⟨#[]⟩] 68)
    refine bodyPost_ret (results_ctt rfl _ _ w.heap.size _ _ _ _ rfl hy Tryd.underlying68 rfl (by kernel_rfl)) rfl ?_
    refine ⟨?_, (Below.refl w.heap.size w).alloc (Nat.le_refl _) _⟩
    rw [HR.out]
    rfl
  | true =>
    go_enter Tryd.func77, Tryd.ntmps77
    go_wp2_with fail
    refine HC1.out.mono ?_
    rintro e w1 ⟨rfl, rfl⟩
    go_wp2_with fail
    refine HC2.out.mono ?_
    rintro e w1 ⟨rfl, rfl⟩
    go_wp2_with fail
    have hy := heap_alloc_new w (Obj.cells #[.string s, .string s2] 68)
    refine bodyPost_ret (results_ctt rfl _ _ w.heap.size _ _ _ _ rfl hy Tryd.underlying68 rfl (by kernel_rfl)) rfl ?_
    refine ⟨?_, (Below.refl w.heap.size w).alloc (Nat.le_refl _) _⟩
    rw [HR.out]
    rfl
end Go.Proofs.YtjmmmpnpkialjaaDoor
