/- code.ReadList at numbers. code.ReadList at files. request.readCommit. Conditions: the bytes read as said. -/
import Derived.Test.YtjmmmpnpkialjaaDoorRqL
import Derived.Test.YtjmmmpnpkialjaaDoorSeqA
import Derived.Test.YtjmmmpnpkialjaaDoorReqA
import Derived.Test.YtjmmmpnpkialjaaDoorPileW
import Derived.Test.YtjmmmpnpkialjaaDoorCmO
namespace Go.Proofs.YtjmmmpnpkialjaaDoor
open Go.RowKit Go.Shelf

set_option maxHeartbeats 4000000 in
set_option maxRecDepth 100000 in
theorem code_ReadList_I (w : World) (vb : Value) (b : List UInt8) (p most : Int) (hb : Rd w vb b.length (u8s b)) (hm : b.length ≤ 140737488351232) (hmo : most ≤ 1000) :
    Calls Tryd.prog 75 #[vb, .int .i64 p, .int .i64 most, .func (.func 54) #[] #[]] w fun e w' => ∃ ao cap, e = .returned (.tuple #[.slice ao (rdListG rdNum b p most).1.length cap, .int .i64 (rdListG rdNum b p most).2.1, .bool (rdListG rdNum b p most).2.2]) ∧
      w'.ownsRow w.heap.size 3 1 (.slice ao (rdListG rdNum b p most).1.length cap) (rdListG rdNum b p most).1.length ((rdListG rdNum b p most).1.map (Value.int .i64)) ∧ Below w.heap.size w w' := by
  have HB := hide hb
  obtain ⟨ab, cb, rfl, -, -⟩ := hb.shape
  clear hb
  obtain ⟨N, q0, ok, hrd⟩ : ∃ N q0 ok, rdNum b p = (N, q0, ok) := ⟨_, _, _, rfl⟩
  have hc := code_ReadNum w _ b p HB.out hm
  rw [hrd] at hc
  have HC := hide hc
  have hnn : ∀ w', Sem.run Tryd.prog (binOp BinOp.eql 84 (.func (.func 54) #[] #[]) .nilFunc) w' = .ok (.bool false) w' := by intro w'; kernel_rfl
  by_cases hyes : ok = true ∧ 0 ≤ N ∧ N ≤ most
  · obtain ⟨rfl, h1, h2⟩ := hyes
    obtain ⟨n, rfl⟩ : ∃ n : Nat, N = n := ⟨N.toNat, by omega⟩
    obtain ⟨R, hR⟩ : ∃ R, R = rdListG rdNum b p most := ⟨_, rfl⟩
    have hR' : R = match rdAllG rdNum b n q0 with | some (l, q) => (l, q, true) | none => ([], 0, false) := by
      rw [hR, rdListG, hrd, if_pos ⟨rfl, h1, h2⟩, Int.toNat_natCast]; cases rdAllG rdNum b n q0 <;> simp
    rw [← hR]
    have HR := hide hR'
    clear hc hrd hR hR'
    go_enter Tryd.func75, Tryd.ntmps75
    go_wp2_with fail
    refine HC.out.mono ?_
    rintro e w1 ⟨rfl, rfl⟩
    go_wp2_with fail
    go_loopw [1, 13, 40] (fun pv v i wr => ∃ k : Nat, k ≤ n ∧ i = .int .i64 k ∧ ∃ (q : Int) (l : List Int), pv = .int .i64 q ∧ Hid (l.length = k ∧ rdAllG rdNum b n q0 = (rdAllG rdNum b (n - k) q).map (fun r => (l ++ r.1, r.2))) ∧ Hid (Below w1.heap.size w1 wr) ∧
      Hid (∃ ao cap, v = .slice ao l.length cap ∧ wr.ownsRow w1.heap.size 3 1 (.slice ao l.length cap) l.length (l.map (Value.int .i64)))) (fun _ _ i _ => n - (intOf i).toNat)
    case atStart => exact ⟨0, by omega, rfl, q0, [], rfl, ⟨rfl, by cases rdAllG rdNum b n q0 <;> simp⟩, Below.refl _ _, none, 0, rfl, World.ownsRow_nil _ _ _ _⟩
    case round =>
      obtain ⟨k, hk, rfl, q, l, rfl, HE, HBW, HV⟩ := hrel
      by_cases hlt : k < n
      · obtain ⟨ao, cap, rfl, ho⟩ := HV.out
        have HO := hide ho
        obtain ⟨s, q2, ok, hrt⟩ : ∃ s q2 ok, rdNum b q = (s, q2, ok) := ⟨_, _, _, rfl⟩
        have hcall := code_ReadNum wr _ b q (HB.out.chg (Chg.of_below0 (S := fun _ => False) HBW.out) (fun _ _ _ h => h)) hm
        rw [hrt] at hcall
        have HCALL := hide hcall
        have HRT := hide hrt
        clear hcall hrt ho HV
        cases ok with
        | true =>
          have hll := HE.out.1
          have HLL := hide hll
          clear hll
          go_wp2_with fail
          refine HCALL.out.mono ?_
          rintro e w2 ⟨rfl, rfl⟩
          go_wp2_with (at_builtin; refine wpl_append rfl _ _ _ rfl seqI_sl w1.heap.size (HO.out.alloc _) (Rd_lit w2 #[.int .i64 s] 3 1) rfl rfl rfl (by simp [Value.oneCell']) (by have := HLL.out; unfold maxLen; omega) (by have := HLL.out; omega) (by have := HBW.out.size; simp; omega) ?_; intro ao4 cap4 w4 hown hg _ _; have HO4 := hide hown; have HB4 := hide ((HBW.out.alloc HBW.out.size _).trans (hg.below (by have := HBW.out.size; simp; omega) (fun i hi e => by have := (ownsRow_lt HO.out i e).1; omega))); clear hown hg)
          go_roundw
          case rel =>
            refine ⟨k + 1, by omega, by go_num, q2, l ++ [s], rfl, ⟨by simp [HLL.out], ?_⟩, HB4.out, ao4, cap4, by simp, by simpa using HO4.out⟩
            rw [HE.out.2, show n - k = n - (k + 1) + 1 by omega, rdAllG, HRT.out, if_pos rfl, Option.map_map]
            congr 1
            funext r
            simp
          case measure => simp [intOf]; omega
        | false =>
          have hnone : rdAllG rdNum b n q0 = none := by
            rw [HE.out.2, show n - k = n - (k + 1) + 1 by omega, rdAllG, HRT.out]
            simp
          have hR : Hid (R = ([], 0, false)) := by rw [Hid, HR.out, hnone]
          clear hnone
          go_wp2_with fail
          refine HCALL.out.mono ?_
          rintro e w2 ⟨rfl, rfl⟩
          go_wp2_with fail
          go_ret3
          rw [hR.out]
          exact ⟨none, 0, rfl, World.ownsRow_nil _ _ _ _, HBW.out⟩
      · obtain rfl : k = n := by omega
        obtain ⟨ao, cap, rfl, ho⟩ := HV.out
        have HO := hide ho
        have hR : Hid (R = (l, q, true)) := by
          rw [Hid, HR.out, HE.out.2, Nat.sub_self, rdAllG]
          simp
        clear ho HV
        go_wp2_with fail
        go_ret3
        rw [hR.out]
        exact ⟨ao, cap, rfl, HO.out, HBW.out⟩
  · have hR : rdListG rdNum b p most = ([], 0, false) := by rw [rdListG, hrd, if_neg hyes]
    rw [hR]
    clear hc hR
    go_enter Tryd.func75, Tryd.ntmps75
    go_wp2_with fail
    refine HC.out.mono ?_
    rintro e w1 ⟨rfl, rfl⟩
    go_wp2_with fail
    all_goals first
      | (go_ret3; exact ⟨none, 0, rfl, World.ownsRow_nil _ _ _ _, Below.refl _ _⟩)
      | (exfalso; exact hyes ⟨by first | rfl | assumption, by omega, by omega⟩)

theorem results_ctt {P : Program} {fn : Func} {p u v : Tmp} {ty : TypeId} (h : fn.results = #[.cell p ty, .tmp u, .tmp v]) (tmps : Array Value) (w : World) (g : Nat) (t : TypeId) (cs : Array Value) (fr : Nat × Nat) (d : TypeDesc)
    (hp : tmps.getD p undef = .pointer (some ⟨g, 0, none⟩)) (hg : w.heap[g]? = some (.cells cs t fr)) (hu : P.underlying ty = some d) (hd : (match d with | .struct _ | .array _ _ => true | _ => false) = true) (hi : (P.info? ty).map (·.size) = some cs.size) :
    (results fn tmps).run P w = .ok (.tuple #[.agg cs, tmps.getD u undef, tmps.getD v undef]) w := by
  have hp' : tmps[p]?.getD undef = .pointer (some ⟨g, 0, none⟩) := by simpa using hp
  simp [results, h, hp', asAddr, Result.andThen, run_loadVar_row w g t ty cs fr d hg hu hd hi]
set_option maxHeartbeats 4000000 in
theorem readFile_ok (w : World) (vb : Value) (b : List UInt8) (p : Int) (hb : Rd w vb b.length (u8s b)) (hm : b.length ≤ 140737488351232) :
    Calls Tryd.prog 77 #[vb, .int .i64 p] w fun e w' => e = .returned (.tuple #[flV (rdFile b p).1, .int .i64 (rdFile b p).2.1, .bool (rdFile b p).2.2]) ∧ Below w.heap.size w w' := by
  have HB := hide hb
  obtain ⟨ab, cb, rfl, -, -⟩ := hb.shape
  clear hb
  obtain ⟨R, hR⟩ : ∃ R, R = rdFile b p := ⟨_, rfl⟩
  rw [← hR]
  obtain ⟨s, q, o1, h1⟩ : ∃ s q o1, rdText b p = (s, q, o1) := ⟨_, _, _, rfl⟩
  obtain ⟨s2, q2, o2, h2⟩ : ∃ s2 q2 o2, rdText b q = (s2, q2, o2) := ⟨_, _, _, rfl⟩
  have hb0 := (Below.refl w.heap.size w).alloc (Nat.le_refl _) (Obj.cells #[.string ⟨#[]⟩, .string ⟨#[]⟩] 68)
  have hc1 := code_ReadText (w.alloc (Obj.cells #[.string ⟨#[]⟩, .string ⟨#[]⟩] 68)) _ b p (HB.out.chg (Chg.of_below0 (S := fun _ => False) hb0) (fun _ _ _ h => h)) hm
  have hc2 := code_ReadText (w.alloc (Obj.cells #[.string ⟨#[]⟩, .string ⟨#[]⟩] 68)) _ b q (HB.out.chg (Chg.of_below0 (S := fun _ => False) hb0) (fun _ _ _ h => h)) hm
  rw [h1] at hc1
  rw [h2] at hc2
  have hR' : R = if o1 = true ∧ o2 = true then (⟨s, s2⟩, q2, true) else (⟨ByteArray.empty, ByteArray.empty⟩, 0, false) := by
    rw [hR]
    simp only [rdFile, h1, h2]
  have HR := hide hR'
  have HC1 := hide hc1
  have HC2 := hide hc2
  have HB0 := hide hb0
  clear hR hR' hc1 hc2 h1 h2 hb0
  unfold flV
  cases o1 with
  | false =>
    go_enter Tryd.func77, Tryd.ntmps77
    go_wp2_with fail
    refine HC1.out.mono ?_
    rintro e w1 ⟨rfl, rfl⟩
    go_wp2_with fail
    refine HC2.out.mono ?_
    rintro e w1 ⟨rfl, rfl⟩
    go_wp2_with fail
    have hy := heap_alloc_new w (Obj.cells #[.string ⟨#[]⟩, .string ⟨#[]⟩] 68)
    refine bodyPost_ret (results_ctt rfl _ _ w.heap.size _ _ _ _ rfl hy Tryd.underlying68 rfl (by kernel_rfl)) rfl ?_
    refine ⟨?_, (Below.refl w.heap.size w).alloc (Nat.le_refl _) _⟩
    rw [HR.out]
    rfl
  | true =>
  cases o2 with
  | false =>
    go_enter Tryd.func77, Tryd.ntmps77
    go_wp2_with fail
    refine HC1.out.mono ?_
    rintro e w1 ⟨rfl, rfl⟩
    go_wp2_with fail
    refine HC2.out.mono ?_
    rintro e w1 ⟨rfl, rfl⟩
    go_wp2_with fail
    have hy := heap_alloc_new w (Obj.cells #[.string ⟨#[]⟩, .string ⟨#[]⟩] 68)
    refine bodyPost_ret (results_ctt rfl _ _ w.heap.size _ _ _ _ rfl hy Tryd.underlying68 rfl (by kernel_rfl)) rfl ?_
    refine ⟨?_, (Below.refl w.heap.size w).alloc (Nat.le_refl _) _⟩
    rw [HR.out]
    rfl
  | true =>
    go_enter Tryd.func77, Tryd.ntmps77
    go_wp2_with fail
    refine HC1.out.mono ?_
    rintro e w1 ⟨rfl, rfl⟩
    go_wp2_with fail
    refine HC2.out.mono ?_
    rintro e w1 ⟨rfl, rfl⟩
    go_wp2_with fail
    have hy := heap_alloc_new w (Obj.cells #[.string s, .string s2] 68)
    refine bodyPost_ret (results_ctt rfl _ _ w.heap.size _ _ _ _ rfl hy Tryd.underlying68 rfl (by kernel_rfl)) rfl ?_
    refine ⟨?_, (Below.refl w.heap.size w).alloc (Nat.le_refl _) _⟩
    rw [HR.out]
    rfl
end Go.Proofs.YtjmmmpnpkialjaaDoor
namespace Go.Proofs.YtjmmmpnpkialjaaDoor
open Go.RowKit Go.Shelf

set_option maxHeartbeats 4000000 in
set_option maxRecDepth 100000 in
theorem code_ReadList_F (w : World) (vb : Value) (b : List UInt8) (p most : Int) (hb : Rd w vb b.length (u8s b)) (hm : b.length ≤ 140737488351232) (hmo : most ≤ 1000) :
    Calls Tryd.prog 76 #[vb, .int .i64 p, .int .i64 most, .func (.func 77) #[] #[]] w fun e w' => ∃ ao cap, e = .returned (.tuple #[.slice ao (rdListG rdFile b p most).1.length cap, .int .i64 (rdListG rdFile b p most).2.1, .bool (rdListG rdFile b p most).2.2]) ∧
      w'.ownsRow w.heap.size 68 2 (.slice ao (rdListG rdFile b p most).1.length cap) (rdListG rdFile b p most).1.length (flat fl_enc (rdListG rdFile b p most).1) ∧ Below w.heap.size w w' := by
  have HB := hide hb
  obtain ⟨ab, cb, rfl, -, -⟩ := hb.shape
  clear hb
  obtain ⟨N, q0, ok, hrd⟩ : ∃ N q0 ok, rdNum b p = (N, q0, ok) := ⟨_, _, _, rfl⟩
  have hc := code_ReadNum w _ b p HB.out hm
  rw [hrd] at hc
  have HC := hide hc
  have hnn : ∀ w', Sem.run Tryd.prog (binOp BinOp.eql 114 (.func (.func 77) #[] #[]) .nilFunc) w' = .ok (.bool false) w' := by intro w'; kernel_rfl
  by_cases hyes : ok = true ∧ 0 ≤ N ∧ N ≤ most
  · obtain ⟨rfl, h1, h2⟩ := hyes
    obtain ⟨n, rfl⟩ : ∃ n : Nat, N = n := ⟨N.toNat, by omega⟩
    obtain ⟨R, hR⟩ : ∃ R, R = rdListG rdFile b p most := ⟨_, rfl⟩
    have hR' : R = match rdAllG rdFile b n q0 with | some (l, q) => (l, q, true) | none => ([], 0, false) := by
      rw [hR, rdListG, hrd, if_pos ⟨rfl, h1, h2⟩, Int.toNat_natCast]; cases rdAllG rdFile b n q0 <;> simp
    rw [← hR]
    have HR := hide hR'
    clear hc hrd hR hR'
    go_enter Tryd.func76, Tryd.ntmps76
    go_wp2_with fail
    refine HC.out.mono ?_
    rintro e w1 ⟨rfl, rfl⟩
    go_wp2_with fail
    go_loopw [1, 13, 40] (fun pv v i wr => ∃ k : Nat, k ≤ n ∧ i = .int .i64 k ∧ ∃ (q : Int) (l : List Fl), pv = .int .i64 q ∧ Hid (l.length = k ∧ rdAllG rdFile b n q0 = (rdAllG rdFile b (n - k) q).map (fun r => (l ++ r.1, r.2))) ∧ Hid (Below w1.heap.size w1 wr) ∧
      Hid (∃ ao cap, v = .slice ao l.length cap ∧ wr.ownsRow w1.heap.size 68 2 (.slice ao l.length cap) l.length (flat fl_enc l))) (fun _ _ i _ => n - (intOf i).toNat)
    case atStart => exact ⟨0, by omega, rfl, q0, [], rfl, ⟨rfl, by cases rdAllG rdFile b n q0 <;> simp⟩, Below.refl _ _, none, 0, rfl, World.ownsRow_nil _ _ _ _⟩
    case round =>
      obtain ⟨k, hk, rfl, q, l, rfl, HE, HBW, HV⟩ := hrel
      by_cases hlt : k < n
      · obtain ⟨ao, cap, rfl, ho⟩ := HV.out
        have HO := hide ho
        obtain ⟨s, q2, ok, hrt⟩ : ∃ s q2 ok, rdFile b q = (s, q2, ok) := ⟨_, _, _, rfl⟩
        have hcall := readFile_ok wr _ b q (HB.out.chg (Chg.of_below0 (S := fun _ => False) HBW.out) (fun _ _ _ h => h)) hm
        rw [hrt] at hcall
        have HCALL := hide hcall
        have HRT := hide hrt
        clear hcall hrt ho HV
        cases ok with
        | true =>
          have hll := HE.out.1
          have HLL := hide hll
          clear hll
          unfold flV at HCALL
          go_wp2_with fail
          refine HCALL.out.mono ?_
          rintro e w2 ⟨rfl, hb2⟩
          have HO2 := hide ((Chg.of_below0 (S := fun _ => False) hb2).owns HO.out (fun _ _ h => h))
          have HBW2 := hide (HBW.out.trans (hb2.mono HBW.out.size))
          clear hb2
          have h4 := Rd_lit (w2.alloc (.cells #[.string s.path, .string s.data] 68)) #[.string s.path, .string s.data] 68 1
          rw [World.size_alloc] at h4
          go_wp2_with (at_builtin; refine wpl_append rfl _ _ _ rfl fl_slT w1.heap.size ((HO2.out.alloc _).alloc _) h4 rfl rfl rfl (by simp [Value.oneCell']) (by have := HLL.out; unfold maxLen; omega) (by have := HLL.out; omega) (by have := HBW2.out.size; simp; omega) ?_; intro ao4 cap4 w4 hown hg _ _; have HO4 := hide hown; have HB4 := hide (((HBW2.out.alloc HBW2.out.size _).alloc (by have := HBW2.out.size; simp; omega) _).trans (hg.below (by have := HBW2.out.size; simp; omega) (fun i hi e => by have := (ownsRow_lt HO2.out i e).1; omega))); clear hown hg)
          go_roundw
          case rel =>
            refine ⟨k + 1, by omega, by go_num, q2, l ++ [s], rfl, ⟨by simp [HLL.out], ?_⟩, HB4.out, ao4, cap4, by simp, by have h := HO4.out; simp only [flat_append, List.length_append] at h ⊢; exact h⟩
            rw [HE.out.2, show n - k = n - (k + 1) + 1 by omega, rdAllG, HRT.out, if_pos rfl, Option.map_map]
            congr 1
            funext r
            simp
          case measure => simp [intOf]; omega
        | false =>
          have hnone : rdAllG rdFile b n q0 = none := by
            rw [HE.out.2, show n - k = n - (k + 1) + 1 by omega, rdAllG, HRT.out]
            simp
          have hR : Hid (R = ([], 0, false)) := by rw [Hid, HR.out, hnone]
          clear hnone
          unfold flV at HCALL
          go_wp2_with fail
          refine HCALL.out.mono ?_
          rintro e w2 ⟨rfl, hb2⟩
          have HBW2 := hide (HBW.out.trans (hb2.mono HBW.out.size))
          clear hb2
          go_wp2_with fail
          go_ret3
          rw [hR.out]
          exact ⟨none, 0, rfl, World.ownsRow_nil _ _ _ _, HBW2.out.alloc HBW2.out.size _⟩
      · obtain rfl : k = n := by omega
        obtain ⟨ao, cap, rfl, ho⟩ := HV.out
        have HO := hide ho
        have hR : Hid (R = (l, q, true)) := by
          rw [Hid, HR.out, HE.out.2, Nat.sub_self, rdAllG]
          simp
        clear ho HV
        go_wp2_with fail
        go_ret3
        rw [hR.out]
        exact ⟨ao, cap, rfl, HO.out, HBW.out⟩
  · have hR : rdListG rdFile b p most = ([], 0, false) := by rw [rdListG, hrd, if_neg hyes]
    rw [hR]
    clear hc hR
    go_enter Tryd.func76, Tryd.ntmps76
    go_wp2_with fail
    refine HC.out.mono ?_
    rintro e w1 ⟨rfl, rfl⟩
    go_wp2_with fail
    all_goals first
      | (go_ret3; exact ⟨none, 0, rfl, World.ownsRow_nil _ _ _ _, Below.refl _ _⟩)
      | (exfalso; exact hyes ⟨by first | rfl | assumption, by omega, by omega⟩)

end Go.Proofs.YtjmmmpnpkialjaaDoor
namespace Go.Proofs.YtjmmmpnpkialjaaDoor
open Go.RowKit Go.Shelf

set_option maxHeartbeats 4000000 in
set_option maxRecDepth 100000 in
theorem readCommit_ok (w : World) (vb : Value) (b : List UInt8) (p : Int) (hb : Rd w vb b.length (u8s b)) (hm : b.length ≤ 140737488351232) :
    Calls Tryd.prog 55 #[vb, .int .i64 p] w fun e w' => ∃ x : CmV, x.c = (rdCommit b p).1 ∧ e = .returned (.tuple #[x.val, .int .i64 (rdCommit b p).2.1, .bool (rdCommit b p).2.2]) ∧ Own w' w.heap.size x ∧ Below w.heap.size w w' := by
  have HB := hide hb
  obtain ⟨ab, cb, rfl, -, -⟩ := hb.shape
  clear hb
  obtain ⟨R, hR⟩ : ∃ R, R = rdCommit b p := ⟨_, rfl⟩
  rw [← hR]
  obtain ⟨l1, q1, o1, h1⟩ : ∃ l q o, rdListG rdNum b p 2 = (l, q, o) := ⟨_, _, _, rfl⟩
  obtain ⟨l2, q2, o2, h2⟩ : ∃ l q o, rdListG rdFile b q1 12 = (l, q, o) := ⟨_, _, _, rfl⟩
  obtain ⟨s, q3, o3, h3⟩ : ∃ s q o, rdText b q2 = (s, q, o) := ⟨_, _, _, rfl⟩
  have HC1 := fun W (c : Below w.heap.size w W) => hide (code_ReadList_I W _ b p 2 (HB.out.chg (Chg.of_below0 (S := fun _ => False) c) (fun _ _ _ h => h)) hm (by omega))
  have HC2 := fun W (c : Below w.heap.size w W) => hide (code_ReadList_F W _ b q1 12 (HB.out.chg (Chg.of_below0 (S := fun _ => False) c) (fun _ _ _ h => h)) hm (by omega))
  have HC3 := fun W (c : Below w.heap.size w W) => hide (code_ReadText W _ b q2 (HB.out.chg (Chg.of_below0 (S := fun _ => False) c) (fun _ _ _ h => h)) hm)
  rw [h1] at HC1
  rw [h2] at HC2
  rw [h3] at HC3
  have hR' : R = if o1 = true then (if o2 = true then (⟨l1, l2, s⟩, q3, o3) else (cmZ, 0, false)) else (cmZ, 0, false) := by
    rw [hR]
    simp only [rdCommit, h1, h2, h3]
  have HR := hide hR'
  have hb0 := (Below.refl w.heap.size w).alloc (Nat.le_refl _) (Obj.cells #[.slice none 0 0, .slice none 0 0, .string ⟨#[]⟩] 25)
  have hh := heap_alloc_new w (.cells #[.slice none 0 0, .slice none 0 0, .string ⟨#[]⟩] 25)
  have hz := World.size_alloc w (.cells #[.slice none 0 0, .slice none 0 0, .string ⟨#[]⟩] 25)
  have HB0 := hide hb0
  have HH := hide hh
  have HZ := hide hz
  clear hR hR' h1 h2 h3 hb0 hh hz
  go_enter Tryd.func55, Tryd.ntmps55
  go_wp2_with fail
  refine (HC1 _ HB0.out).out.mono ?_
  rintro e w1 ⟨a1, k1, rfl, ho1, hb1⟩
  have HH := hide ((Chg.of_below0 (S := fun _ => False) hb1).heap HH.out (fun h => h))
  have HO1 := hide ho1
  have HB1 := hide (HB0.out.trans (hb1.mono HB0.out.size))
  have HW1 := hide (show w.heap.size < w1.heap.size from by have h5 := hb1.size; have h6 := HZ.out; omega)
  clear ho1 hb1
  cases o1 with
  | false =>
    have f0 := free_of_heap HH.out 0
    have f1 := free_of_heap HH.out 1
    have f2 := free_of_heap HH.out 2
    have g0 := cell_of_heap HH.out 0
    have g1 := cell_of_heap HH.out 1
    have g2 := cell_of_heap HH.out 2
    simp at f0 f1 f2 g0 g1 g2
    go_wp2_with fail
    have hy := heap_setCell_same (heap_setCell_same (heap_setCell_same HH.out (i := 0) (.slice none 0 0)) (i := 1) (.slice none 0 0)) (i := 2) (.string ⟨#[]⟩)
    simp only [Array.setIfInBounds, List.size_toArray] at hy
    refine bodyPost_ret (results_ctt rfl _ _ w.heap.size _ _ _ _ rfl hy Tryd.underlying25 rfl (by kernel_rfl)) rfl ?_
    refine ⟨⟨cmZ, .slice none 0 0, .slice none 0 0⟩, by rw [HR.out]; rfl, by rw [HR.out]; rfl, ⟨World.ownsRow_nil _ _ _ _, World.ownsRow_nil _ _ _ _⟩, ((HB1.out.setCell (Nat.le_refl _) _).setCell (Nat.le_refl _) _).setCell (Nat.le_refl _) _⟩
  | true =>
  go_wp2_with fail
  refine (HC2 _ HB1.out).out.mono ?_
  rintro e w2 ⟨a2, k2, rfl, ho2, hb2⟩
  have HH := hide ((Chg.of_below0 (S := fun _ => False) hb2).heap HH.out (fun h => h))
  have HO1 := hide ((Chg.of_below0 (S := fun _ => False) hb2).owns HO1.out (fun _ _ h => h))
  have HO2 := hide ho2
  have HB2 := hide (HB1.out.trans (hb2.mono HB1.out.size))
  clear ho2 hb2
  cases o2 with
  | false =>
    have f0 := free_of_heap HH.out 0
    have f1 := free_of_heap HH.out 1
    have f2 := free_of_heap HH.out 2
    have g0 := cell_of_heap HH.out 0
    have g1 := cell_of_heap HH.out 1
    have g2 := cell_of_heap HH.out 2
    simp at f0 f1 f2 g0 g1 g2
    go_wp2_with fail
    have hy := heap_setCell_same (heap_setCell_same (heap_setCell_same HH.out (i := 0) (.slice none 0 0)) (i := 1) (.slice none 0 0)) (i := 2) (.string ⟨#[]⟩)
    simp only [Array.setIfInBounds, List.size_toArray] at hy
    refine bodyPost_ret (results_ctt rfl _ _ w.heap.size _ _ _ _ rfl hy Tryd.underlying25 rfl (by kernel_rfl)) rfl ?_
    refine ⟨⟨cmZ, .slice none 0 0, .slice none 0 0⟩, by rw [HR.out]; rfl, by rw [HR.out]; rfl, ⟨World.ownsRow_nil _ _ _ _, World.ownsRow_nil _ _ _ _⟩, ((HB2.out.setCell (Nat.le_refl _) _).setCell (Nat.le_refl _) _).setCell (Nat.le_refl _) _⟩
  | true =>
  go_wp2_with fail
  refine (HC3 _ HB2.out).out.mono ?_
  rintro e w3 ⟨rfl, rfl⟩
  have f0 := free_of_heap HH.out 0
  have f1 := free_of_heap HH.out 1
  have f2 := free_of_heap HH.out 2
  have g0 := cell_of_heap HH.out 0
  have g1 := cell_of_heap HH.out 1
  have g2 := cell_of_heap HH.out 2
  simp at f0 f1 f2 g0 g1 g2
  go_wp2_with fail
  have hy := heap_setCell_same (heap_setCell_same (heap_setCell_same HH.out (i := 0) (.slice a1 l1.length k1)) (i := 1) (.slice a2 l2.length k2)) (i := 2) (.string s)
  simp only [Array.setIfInBounds, List.size_toArray] at hy
  refine bodyPost_ret (results_ctt rfl _ _ w.heap.size _ _ _ _ rfl hy Tryd.underlying25 rfl (by kernel_rfl)) rfl ?_
  have hch := ((Chg.setCell w3 ⟨w.heap.size, 0, none⟩ (.slice a1 l1.length k1)).trans (Chg.setCell _ ⟨w.heap.size, 1, none⟩ (.slice a2 l2.length k2)) (S'' := fun k => k = w.heap.size) (fun _ _ h => h) (fun _ _ h => h)).trans (Chg.setCell _ ⟨w.heap.size, 2, none⟩ (.string s)) (S'' := fun k => k = w.heap.size) (fun _ _ h => h) (fun _ _ h => h)
  have hz := HZ.out
  refine ⟨⟨⟨l1, l2, s⟩, .slice a1 l1.length k1, .slice a2 l2.length k2⟩, by rw [HR.out]; rfl, by rw [HR.out]; rfl, ⟨?_, ?_⟩, ((HB2.out.setCell (Nat.le_refl _) _).setCell (Nat.le_refl _) _).setCell (Nat.le_refl _) _⟩
  · refine hch.owns (ownsRow_base (base := (w.alloc (.cells #[.slice none 0 0, .slice none 0 0, .string ⟨#[]⟩] 25)).heap.size) ?_ (fun j hj => ?_)) (fun j hj e => ?_)
    · rw [show flat int_enc l1 = l1.map (Value.int .i64) from flat_int l1]; exact HO1.out
    · have := (ownsRow_lt HO1.out j hj).1
      omega
    · have := (ownsRow_lt HO1.out j hj).1
      omega
  · have hb1 := HB1.out.size
    refine hch.owns (ownsRow_base HO2.out (fun j hj => ?_)) (fun j hj e => ?_)
    · have := (ownsRow_lt HO2.out j hj).1
      omega
    · have h5 := (ownsRow_lt HO2.out j hj).1
      have h6 := HW1.out
      omega
end Go.Proofs.YtjmmmpnpkialjaaDoor
