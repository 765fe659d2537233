/- LaneOrder: who waits is told by lanes, of one lane by numbers. Conditions: none. -/
import Derived.Test.YtjgcicpclojfgaaRows
import Derived.WalkKit
import Derived.ProofKit
import Derived.OpenShut
import Derived.ShutString
import Derived.ChangeOld
import Derived.Below
import Derived.Test.YtjgcicpclojfgaaLaneO
import Derived.Test.YtjgcicpclojfgaaLaneS
namespace Go.Proofs.Ytjgcicpclojfgaa
open Go.ChangeShapes Go.WideShapes Go.ChangeAt Go.RowKit
open Go.ChangeMaps (open_string shut_string)
set_option linter.unusedVariables false

theorem law_own : ownKnob Try.prog.godebug = none := by kernel_rfl
theorem law_laid : laidOutB Try.prog = true := by kernel_rfl
open Go.Shelf

def OrdAt (W : World) (lp n : Nat) (wt : List En) (wr : World) : Prop :=
  ∃ aa acap all p ao cap, LaneAt W.heap.size wr lp 8 4 aa acap all p ao cap wt ∧ all.length = n ∧ Below W.heap.size W wr

theorem rdI {w : World} {ao : Option Addr} {n c : Nat} {cs : List Value} (h : Rd w (.slice ao n c) n cs) (hn : 0 < n) : ∃ b off, ao = some ⟨b, off, none⟩ ∧ CellsAt w b off cs := by
  obtain ⟨ao', cap, e, -, h⟩ := h.shape
  cases e
  exact h hn

/-- A call of a Go function as one step of a region that draws, whatever its guard. -/
theorem step_callg {P : Program} {ops : Array Oper} {o : Oper} {a : Act} {w : World} {K : Act → World → Prop} {Q : Exit → Act → World → Prop} {E : Prop} (hw : Region.wanted o (yielded ops a.tmps) = true) {f : FuncId} {xs : Array Operand} {ts : Array TypeId}
    (ho : o.op = .call { callee := .value (.func f), args := xs, argTypes := ts }) (eg : ∀ args w, (callFunc f args).run P w = .ok (.enter f args) w) {vals : Array Value} (hv : xs.map a.eval = vals) {R : Value → World → Prop}
    (hc : Calls P f vals w fun e w' => ∃ v, e = .returned v ∧ R v w') (hK : ∀ v w', R v w' → K (a.put o.dst v) w') :
    if Region.wanted o (yielded ops a.tmps) = true then Oper.wp P o a w K Q else E := by
  rw [if_pos hw]
  unfold Oper.wp
  have he : (execOp a.eval o).run P w = .ok (.enter f vals) w := by
    rw [← hv]
    simp [execOp, ho, resolve, invoke, Act.eval, eg, Deferred.ofValue]
  rw [he]
  refine hc.mono ?_
  rintro e w' ⟨v, rfl, hr⟩
  exact hK v w' hr
theorem low_small (i : Nat) (h : i < 64) : low (i : Int) 64 = i := by
  unfold low
  rw [IntWalk.u64_in _ (by omega)]
  omega

set_option maxRecDepth 100000 in
set_option maxHeartbeats 8000000 in
theorem LaneOrder_walk {H : Type} {enc : TypeId × Value → H} (W : World) (a0 : Option Addr) (n0 c0 : Nat) (hv : Readable enc Try.prog W 22 [.slice a0 n0 c0]) (bits : Int) (hwb : (Lit.int .i64 bits).wf = true) (early : Int) (hwe : (Lit.int .i64 early).wf = true) :
    Calls Try.prog 8 #[.slice a0 n0 c0, .int .i64 bits, .int .i64 early] W fun e W' => e = .returned (.bool true) ∧ Below W.heap.size W W' := by
  obtain ⟨v', xs, hv', hr, hl, hwf, hbl⟩ := hv.ints Try.underlying22 Try.underlying3 (by kernel_rfl)
  obtain rfl : .slice a0 n0 c0 = v' := by simpa using hv'
  obtain ⟨ao', cap', e, -, -⟩ := hr.shape
  cases e
  have HR := hide hr
  have HBL := hide hbl
  have hmx : xs.length ≤ 9223372036854775807 := hl
  clear hr hbl hv hv' hwf hwe hl
  obtain ⟨f, hf⟩ : ∃ f : Nat → Nat, f = fun i => low (xs.getD i 0) 4 := ⟨_, rfl⟩
  have HFF := hide hf
  clear hf
  obtain ⟨b, hb⟩ : ∃ b : Nat → Bool, b = fun i => Go.bits BinOp.and IntKind.i64 (bits / 2 ^ i) 1 == 1 := ⟨_, rfl⟩
  have HBIT := hide hb
  clear hb
  by_cases hlen : xs.length ≤ 8
  · have d8 : decide ((xs.length : Int) > 8) = false := decide_eq_false (by omega)
    go_enter Try.func8, Try.ntmps8
    go_wp2_with fail
    refine (lane_New W 8 4 (by omega) (by omega) (by omega) (by omega)).mono ?_
    rintro e w1 ⟨lp, p, rfl, h1, hb1⟩
    have H0 : Hid (OrdAt W lp 0 (wtN f 0) w1) := ⟨_, _, [], _, _, _, h1, rfl, hb1⟩
    clear h1 hb1
    go_wp2_with fail
    go_loopw [9] (fun i wr => ∃ k : Nat, k ≤ xs.length ∧ i = .int .i64 k ∧ Hid (OrdAt W lp k (wtN f k) wr)) (fun i _ => xs.length - (intOf i).toNat)
    case atStart => exact ⟨0, by omega, rfl, H0.out⟩
    case round =>
      obtain ⟨k, hk, rfl, HO⟩ := hrel
      obtain ⟨aa, acap, all, p, ao, cap, h, hal, hb⟩ := HO.out
      have H := hide h
      have HAL := hide hal
      have HB := hide hb
      by_cases hlt : k < xs.length
      · have hxr := HR.out.chg (Chg.of_below hb) (fun b hb' hne => by have := HBL.out b hb' (by rintro rfl; simp at hlt); omega)
        obtain ⟨a, oa, rfl, hx⟩ := rdI hxr (by omega)
        have hx' := hx k (.int .i64 xs[k]) (by simp [i64s, hlt])
        obtain ⟨x, hxx⟩ : ∃ x, x = xs[k] := ⟨_, rfl⟩
        have hfx : low x 4 = f k := by rw [HFF.out, hxx]; show _ = low (xs.getD k 0) 4; rw [List.getD_eq_getElem?_getD, List.getElem?_eq_getElem hlt]; rfl
        rw [← hxx] at hx'
        have HFX := hide hfx
        have hf4 := low_lt x 4 (by omega)
        have HF4 := hide hf4
        have a1 : IntKind.i64.wrap (10 + (k : Int)) = 10 + k := IntWalk.i64_in _ (by omega)
        have hA := lane_Add wr (10 + k) (low x 4) H.out (by omega) (by rw [wtN_length]; omega) (by omega) (by rw [HAL.out]; omega)
        rw [HAL.out, hfx] at hA
        have hA' : Hid (Calls Try.prog 40 #[.pointer (some ⟨lp, 0, none⟩), .int .i64 (10 + k), .int .i64 (f k)] wr fun e w' => e = .returned (.tuple #[.int .i64 (k + 1), .int .i64 0]) ∧ LGrew W.heap.size wr lp 8 4 aa p ao (all ++ [eN f k]) (wtN f (k + 1)) w') := by
          rw [wtN_succ]; exact hA
        clear h hal hb hxr hx hfx hA hf4 hxx HO
        go_wp2_with fail
        refine (Low_ok _ x 4 (by omega) (by omega)).mono ?_
        rintro e w2 ⟨rfl, hw⟩
        subst w2
        rw [HFX.out]
        go_wp2_with fail
        refine hA'.out.mono ?_
        rintro e w2 ⟨rfl, hg⟩
        obtain ⟨aa2, acap2, p2, ao2, cap2, h2, hb2⟩ := hg.at HB.out.size (fun k hk => (H.out.lt k hk).1)
        have H2 := hide h2
        have HB2 := hide (HB.out.trans hb2)
        clear h2 hb2 hg hA'
        go_wp2_with fail
        go_roundw
        case rel => exact ⟨k + 1, by omega, by go_num, aa2, acap2, _, p2, ao2, cap2, H2.out, by rw [List.length_append, HAL.out]; rfl, HB2.out⟩
        case measure => simp [intOf]; omega
      · obtain rfl : k = xs.length := by omega
        clear h hal hb HAL HB H aa acap all p ao cap
        go_wp2_with fail
        have H1 : Hid (OrdAt W lp xs.length (leftN f xs.length b 0) wr) := by
          show OrdAt W lp xs.length (leftN f xs.length b 0) wr
          rw [leftN_zero]; exact HO.out
        go_loopw [12, 8] (fun i o wr => ∃ k : Nat, k ≤ xs.length ∧ i = .int .i64 k ∧ ∃ q : Nat, o = .int .i64 q ∧ Hid (q = openN b k) ∧ q ≤ k ∧ Hid (OrdAt W lp xs.length (leftN f xs.length b k) wr)) (fun i _ _ => xs.length - (intOf i).toNat)
        case atStart => exact ⟨0, by omega, rfl, 0, rfl, rfl, Nat.le_refl _, H1.out⟩
        case round =>
          obtain ⟨k, hk, rfl, q, rfl, HQ, hqk, HO⟩ := hrel
          obtain ⟨aa, acap, all, p, ao, cap, h, hal, hb⟩ := HO.out
          have H := hide h
          have HAL := hide hal
          have HB := hide hb
          clear h hal hb
          by_cases hlt : k < xs.length
          · have a1 : IntKind.i64.wrap (10 + (k : Int)) = 10 + k := IntWalk.i64_in _ (by omega)
            have a2 : IntKind.i64.wrap ((k : Int) + 1) = k + 1 := IntWalk.i64_in _ (by omega)
            have a3 : IntKind.i64.wrap ((q : Int) + 1) = q + 1 := IntWalk.i64_in _ (by omega)
            cases hbk : b k with
            | true =>
              have HBK := hide hbk
              have hbit : (Go.bits BinOp.and IntKind.i64 (bits / 2 ^ k) 1 == 1) = true := by rw [HBIT.out] at hbk; exact hbk
              have hC := lane_Close wr k 11 H.out (by omega) (by rw [HAL.out]; exact hlt) (leftN_any f xs.length b k hlt)
              rw [leftN_yes f xs.length b k hbk] at hC
              have HC := hide hC
              clear hC hbk
              go_wp2_with fail
              refine HC.out.mono ?_
              rintro e w2 ⟨rfl, hg⟩
              obtain ⟨aa2, acap2, p2, ao2, cap2, h2, hb2⟩ := hg.at HB.out.size (fun k hk => (H.out.lt k hk).1)
              have H2 := hide h2
              have HB2 := hide (HB.out.trans hb2)
              clear h2 hb2 hg HC
              go_wp2_with fail
              refine (lane_Close_no w2 (k + 1) 8 H2.out (by omega) (leftN_none f xs.length b k HBK.out).1).mono ?_
              rintro e w3 ⟨rfl, hg⟩
              obtain ⟨aa3, acap3, p3, ao3, cap3, h3, hb3⟩ := hg.at HB2.out.size (fun k hk => (H2.out.lt k hk).1)
              have H3 := hide h3
              have HB3 := hide (HB2.out.trans hb3)
              clear h3 hb3 hg
              go_wp2_with fail
              have hW := lane_Waits w3 (10 + k) H3.out
              rw [(leftN_none f xs.length b k HBK.out).2] at hW
              refine hW.mono ?_
              clear hW
              rintro e w4 ⟨rfl, hb4⟩
              have H4 := hide (H3.out.chg (Chg.of_below0 (S := fun _ => False) hb4) (fun _ _ h => h))
              have HB4 := hide (HB3.out.trans (hb4.mono HB3.out.size))
              clear hb4
              go_wp2_with fail
              go_roundw
              case rel => exact ⟨k + 1, by omega, by go_num, q, rfl, by show q = openN b (k + 1); rw [openN_succ, HBK.out, ← HQ.out]; rfl, by omega, aa3, acap3, _, p3, ao3, cap3, H4.out, by rw [setCode_length, HAL.out], HB4.out⟩
              case measure => simp [intOf]; omega
            | false =>
              have HBK := hide hbk
              have hbit : (Go.bits BinOp.and IntKind.i64 (bits / 2 ^ k) 1 == 1) = false := by rw [HBIT.out] at hbk; exact hbk
              clear hbk
              go_wp2_with fail
              go_roundw
              case rel => exact ⟨k + 1, by omega, by go_num, q + 1, by go_num, by show q + 1 = openN b (k + 1); rw [openN_succ, HBK.out, ← HQ.out]; rfl, by omega, by rw [leftN_no f xs.length b k HBK.out]; exact HO.out⟩
              case measure => simp [intOf]; omega
          · obtain rfl : k = xs.length := by omega
            obtain ⟨L, hL⟩ : ∃ L, L = leftN f xs.length b xs.length := ⟨_, rfl⟩
            have hLL : L.length = q := by rw [hL, leftN_length, ← HQ.out]
            rw [← hL] at H
            have HL := hide hL
            have HLL := hide hLL
            clear hL hLL HO HQ H1
            go_wp2_with fail
            refine (lane_pending_tells (fun _ => False) wr H.out (fun _ h => h.elim)).mono ?_
            rintro e w4 ⟨v, rfl, ht, hb4⟩
            have HT := hide ht
            have HB4 := hide hb4
            clear ht hb4
            go_wp2_with fail
            refine (entries_told w4 L v HT.out (by rw [HLL.out]; omega) 99 (by omega)).mono ?_
            rintro e w5 ⟨ao5, cap5, rfl, ho5, hb5⟩
            rw [List.take_of_length_le (by rw [HLL.out]; simp; omega), HLL.out] at ho5 ⊢
            have HO5 := hide ho5
            have H5 := hide (H.out.chg ((Chg.of_below0 (S := fun _ => False) HB4.out).trans (Chg.of_below0 hb5) (fun _ _ h => h) (fun _ _ h => h)) (fun _ _ h => h))
            have HB5 := hide ((HB.out.trans (HB4.out.mono HB.out.size)).trans (hb5.mono (HB.out.trans (HB4.out.mono HB.out.size)).size))
            clear ho5 hb5
            have hLn := lane_Len w5 H5.out
            rw [HLL.out] at hLn
            have HLN := hide hLn
            clear hLn
            go_wp2_with fail
            refine HLN.out.mono ?_
            rintro e w6 ⟨rfl, rfl⟩
            go_wp2_with fail
            go_loopw [14] (fun i wr => ∃ k : Nat, k ≤ q ∧ i = .int .i64 k ∧ ∃ n, wr = w6.drewN n) (fun i _ => q - (intOf i).toNat)
            case atStart => exact ⟨0, by omega, rfl, 0, rfl⟩
            case round =>
              obtain ⟨k, hk, rfl, n, rfl⟩ := hrel
              by_cases hkq : k < q
              · obtain ⟨ao', cap', e0, -, hcs0⟩ := (Rd.of_owns HO5.out).shape
                obtain ⟨bb, off, e1, hcs⟩ := hcs0 (by omega)
                cases e0
                subst e1
                have hkL : k < L.length := by rw [HLL.out]; exact hkq
                obtain ⟨hx0, hx1, hx2, hx3⟩ := pe_cells w6 bb off L hcs k hkL
                obtain ⟨x, hxx⟩ : ∃ x, x = L[k] := ⟨_, rfl⟩
                rw [← hxx] at hx0 hx1 hx2 hx3
                obtain ⟨i, hin, hie, hib⟩ := (leftN_mem f xs.length b xs.length x).1 (by rw [← HL.out, hxx]; exact List.getElem_mem _)
                have hcode : x.code = 7 := by rw [← hie]; rfl
                have hnum : x.number = (i : Int) + 1 := by rw [← hie]; rfl
                have hbi : b i = false := hib.resolve_left (by omega)
                have a4 : IntKind.i64.wrap (x.number - 1) = (i : Int) := by rw [hnum, Int.add_sub_cancel]; exact IntWalk.i64_in _ (by omega)
                have hbit : (Go.bits BinOp.and IntKind.i64 (bits / 2 ^ i) 1 == 1) = false := by rw [HBIT.out] at hbi; exact hbi
                have hlo := low_small i (by omega)
                have HLO := hide hlo
                rw [hcode] at hx3
                clear hie hib hbi hnum hcode hlo hcs0
                have hlow : ∀ w, Calls Try.prog 21 #[.int .i64 i, .int .i64 64] w fun e w' => e = .returned (.int .i64 i) ∧ w' = w := fun w => by
                  have := Low_ok w i 64 (by omega) (by omega)
                  rwa [HLO.out] at this
                have HLOW := hide hlow
                clear hlow HLO
                cases k with
                | zero =>
                  clear hcs hxx hkL
                  simp only [Nat.zero_mul, Nat.add_zero] at hx0 hx1 hx2 hx3
                  go_wp2_with fail
                  simp only [List.append_eq, List.cons_append, List.nil_append]
                  refine wp_region_quiet_lit (by kernel_rfl) (by kernel_rfl) ?_
                  repeat (go_big_quiet_step (((go_at_call 21; exact (HLOW.out _).mono (fun e w7 h => ⟨h.1, _, h.2⟩)))))
                  refine wpQuiet_nil ?_
                  intro _ hw'
                  obtain ⟨nq, hw''⟩ := hw'
                  subst hw''
                  go_wp2_with fail
                  go_roundw
                  case rel => exact ⟨0 + 1, by omega, by go_num, n + nq, by simp⟩
                  case measure => simp [intOf]; omega
                | succ m =>
                  obtain ⟨hy0, hy1, hy2, hy3⟩ := pe_cells w6 bb off L hcs m (by omega)
                  have hpair := leftN_pair f xs.length b xs.length m (by rw [← HL.out]; exact hkL)
                  simp only [← HL.out] at hpair
                  rw [← hxx] at hpair
                  obtain ⟨y, hyy⟩ : ∃ y, y = L[m] := ⟨_, rfl⟩
                  rw [← hyy] at hy0 hy1 hy2 hy3 hpair
                  clear hcs hxx hkL hyy
                  have a5 : IntKind.i64.wrap ((m : Int) + 1 - 1) = m := by rw [Int.add_sub_cancel]; exact IntWalk.i64_in _ (by omega)
                  have a6 : IntKind.i64.wrap (m : Int) = m := IntWalk.i64_in _ (by omega)
                  have d1 : decide (y.lane > x.lane) = false := decide_eq_false (by omega)
                  have d0 : decide ((m : Int) + 1 > 0) = true := decide_eq_true (by omega)
                  by_cases hll : y.lane = x.lane
                  · have d2 : (y.lane == x.lane) = true := by simp [hll]
                    have d3 : decide (y.number ≥ x.number) = false := decide_eq_false (by omega)
                    clear hpair hll
                    go_wp2_with fail
                    simp only [List.append_eq, List.cons_append, List.nil_append]
                    refine wp_region_quiet_lit (by kernel_rfl) (by kernel_rfl) ?_
                    repeat (go_big_quiet_step (((go_at_call 21; exact (HLOW.out _).mono (fun e w7 h => ⟨h.1, _, h.2⟩)))))
                    refine wpQuiet_nil ?_
                    intro _ hw'
                    obtain ⟨nq, hw''⟩ := hw'
                    subst hw''
                    go_wp2_with fail
                    go_roundw
                    case rel => exact ⟨m + 1 + 1, by omega, by go_num, n + nq, by simp⟩
                    case measure => simp [intOf]; omega
                  · have d2 : (y.lane == x.lane) = false := by simp [hll]
                    clear hpair hll
                    go_wp2_with fail
                    simp only [List.append_eq, List.cons_append, List.nil_append]
                    refine wp_region_quiet_lit (by kernel_rfl) (by kernel_rfl) ?_
                    repeat (go_big_quiet_step (((go_at_call 21; exact (HLOW.out _).mono (fun e w7 h => ⟨h.1, _, h.2⟩)))))
                    refine wpQuiet_nil ?_
                    intro _ hw'
                    obtain ⟨nq, hw''⟩ := hw'
                    subst hw''
                    go_wp2_with fail
                    go_roundw
                    case rel => exact ⟨m + 1 + 1, by omega, by go_num, n + nq, by simp⟩
                    case measure => simp [intOf]; omega
              · obtain rfl : k = q := by omega
                go_wp2_with fail
                refine (Low_ok _ early 10 (by omega) (by omega)).mono ?_
                rintro e w7 ⟨rfl, hw⟩
                subst w7
                have hlow := low_lt early 10 (by omega)
                obtain ⟨t, ht⟩ : ∃ t, t = low early 10 := ⟨_, rfl⟩
                rw [← ht] at hlow ⊢
                clear ht
                go_wp2_with fail
                have h5 := H5.out.drewN n
                have hb5 := bdrewN HB5.out n
                have ho5 := (Chg.drewN (fun _ => False) w6 n).owns HO5.out (fun _ _ h => h)
                generalize w6.drewN n = wv at h5 hb5 ho5 ⊢
                have hc5 := ownsRow_cap ho5
                obtain ⟨m, hm⟩ : ∃ m, m = min t k := ⟨_, rfl⟩
                have hmin : min (t : Int) (k : Int) = (m : Int) := by omega
                have hmk : m ≤ k := by omega
                have hmc : m ≤ cap5 := by omega
                have hml : (L.take t).length = m := by rw [List.length_take, HLL.out, hm]
                have htk : L.take m = L.take t := by rw [hm, ← HLL.out, List.take_eq_take_iff]; omega
                have hcut := ownsRow_take ho5 m hmk
                rw [(flat_split pe_len L m (by rw [HLL.out]; exact hmk)).1, htk] at hcut
                have hS : ∀ w r, Rd w r (L.take t).length (flat pe_enc (L.take t)) → Chg (fun _ => False) wv w → Calls Try.prog 46 #[r, .slice ao5 m cap5] w fun e w' => ∃ v, e = .returned v ∧ (v = .bool true ∧ Chg (fun _ => False) wv w') := fun w r h c =>
                  (SameEntries_same w r _ (L.take t) h (by rw [hml]; exact Rd.of_owns (c.owns hcut (fun _ _ h => h))) (by rw [hml]; omega)).mono (fun e w' h => by
                    obtain ⟨h1, n1, rfl⟩ := h
                    exact ⟨_, h1, rfl, c.trans (Chg.drewN (fun _ => False) w n1) (fun _ _ h => h) (fun _ _ h => h)⟩)
                have hAw : ∀ w, Chg (fun _ => False) wv w → Calls Try.prog 38 #[] w fun e w' => ∃ v, e = .returned v ∧ (v = .bool true ∧ Chg (fun _ => False) wv w') := fun w c =>
                  (awake20 w).mono (fun e w' h => ⟨_, h.1, rfl, c.trans (Chg.of_below0 (S := fun _ => False) h.2) (fun _ _ h => h) (fun _ _ h => h)⟩)
                have HS5 := hide hS
                have HA5 := hide hAw
                clear hS hAw hcut htk hml hm
                have hP : ∀ w, Chg (fun _ => False) wv w → Calls Try.prog 44 #[.pointer (some ⟨lp, 0, none⟩)] w fun e w' => ∃ v, e = .returned v ∧ (Tells (fun _ => False) L v w' ∧ Chg (fun _ => False) wv w') := fun w c =>
                  (lane_pending_tells (fun _ => False) w (h5.chg c (fun _ _ h => h)) (fun _ h => h.elim)).mono (fun e w' h => by
                    obtain ⟨v, h1, h2, h3⟩ := h
                    exact ⟨v, h1, h2, c.trans (Chg.of_below0 (S := fun _ => False) h3) (fun _ _ h => h) (fun _ _ h => h)⟩)
                have hE : ∀ w v, Tells (fun _ => False) L v w → Chg (fun _ => False) wv w → Calls Try.prog 43 #[v, .int .i64 t] w fun e w' => ∃ r, e = .returned r ∧ (Rd w' r (L.take t).length (flat pe_enc (L.take t)) ∧ Chg (fun _ => False) wv w') := fun w v h c =>
                  (entries_told w L v h (by rw [HLL.out]; omega) t (by omega)).mono (fun e w' h => by
                    obtain ⟨ao, cap, h1, h2, h3⟩ := h
                    rw [Int.toNat_natCast] at h1 h2
                    exact ⟨_, h1, Rd.of_owns h2, c.trans (Chg.of_below0 (S := fun _ => False) h3) (fun _ _ h => h) (fun _ _ h => h)⟩)
                have HP5 := hide hP
                have HE5 := hide hE
                have HB6 := hide hb5
                have HO6 := hide ho5
                have HT10 := hide hlow
                clear hP hE h5 hb5 ho5 hlow H5 HB5 HO5 HLN
                go_region_law (first
                  | (refine step_callg (by rfl) (f := 44) (by rfl) (enters_of Try.func44 (by kernel_rfl) rfl) (by simp [Act.eval, Act.put]) (HP5.out _ (by first | exact Chg.refl _ _ | exact Chg.drew _ _)) ?_; rintro v1 w1 ⟨ht1, hc1⟩; have HT1 := hide ht1; have HC1 := hide hc1; clear ht1 hc1)
                  | (refine step_callg (by rfl) (f := 43) (by rfl) (enters_of Try.func43 (by kernel_rfl) rfl) (by simp [Act.eval, Act.put]) (HE5.out _ _ HT1.out HC1.out) ?_; rintro v2 w2 ⟨hr2, hc2⟩; have HR2 := hide hr2; have HC2 := hide hc2; clear hr2 hc2)
                  | (refine step_callg (by rfl) (f := 46) (by rfl) (enters_of Try.func46 (by kernel_rfl) rfl) (by simp [Act.eval, Act.put]) (HS5.out _ _ HR2.out HC2.out) ?_; rintro v3 w3 ⟨rfl, hc3⟩; have HC3 := hide hc3; clear hc3)
                  | (refine step_callg (by rfl) (f := 38) (by rfl) (enters_of Try.func38 (by kernel_rfl) rfl) (by simp [Act.put]) (HA5.out _ HC3.out) ?_; rintro v4 w4 ⟨rfl, hc4⟩; have HC4 := hide hc4; clear hc4))
                all_goals
                  go_wp2_with fail
                  go_ret
                  exact ⟨rfl, HB6.out.trans (HC4.out.below HB6.out.size (fun _ _ h => h))⟩
  · have d8 : decide ((xs.length : Int) > 8) = true := decide_eq_true (by omega)
    go_enter Try.func8, Try.ntmps8
    go_wp2_with fail
    refine (awake20 _).mono ?_
    rintro e w10 ⟨rfl, hb10⟩
    have HB10 := hide hb10
    clear hb10
    go_wp2_with fail
    go_ret
    exact ⟨rfl, HB10.out⟩

set_option maxRecDepth 100000 in
theorem LaneOrder_lifted (os : Os) (started : os.Started) (H : Type) (enc : TypeId × Value → H) :
    ReturnsInHanded {} Try.checked os 8 .any (Rows.laneOrderSpec.pre6 enc Try.prog Try.f8 Rows.laneOrderRow.domain false) (Rows.laneOrderSpec.post enc Try.prog Try.f8 false true false false) := by
  refine returnsInHanded_of_change (C := Try.checked) law_own started (by kernel_rfl) Try.func8
    (ChangeSpec.witness6 (enc := enc) (C := Try.checked) false ⟨#[], #[.slice none 0 0, .int .i64 0, .int .i64 0], []⟩ 8 (by kernel_rfl) (by kernel_rfl) (by kernel_rfl) (by kernel_rfl)) ?_
  intro W base args ds gs before hval0 hW hcnd _
  have hval : ∀ (j : Nat) t v, Try.f8.params[j]? = some t → args[j]? = some v → Value.okWide Try.prog W .any base t v := hval0
  have hW' := hW
  obtain ⟨p, q, hA0, hV, rfl, hfz, hnd⟩ := hW
  have hA : DataW.TrodAll enc Try.prog W 0 (fun _ => true) true Try.f8.params.toList args.toList ds p := hA0
  rw [Try.params8] at hA hval
  obtain ⟨v0, vs0, d0, ds0, p0, q0, hargs, rfl, rfl, h0, r0⟩ := trodAll_cons hA
  obtain ⟨v1, vs1, d1, ds1, p1, q1, rfl, rfl, rfl, h1, r1⟩ := trodAll_cons r0
  obtain ⟨v2, vs2, d2, ds2, p2, q2, rfl, rfl, rfl, h2, r2⟩ := trodAll_cons r1
  obtain ⟨rfl, rfl, rfl⟩ := trodAll_nil r2
  obtain rfl : args = #[v0, v1, v2] := by cases args; simp_all
  obtain ⟨rfl, rfl⟩ := trodVars_none hV
  have k0 := h0
  have lt0 : ∀ x ∈ p0, x.block < W.heap.size := by obtain ⟨m, hm⟩ := k0; exact DataW.trod_lt m _ _ _ hm
  obtain ⟨a0, len0, cap0, rfl⟩ := okWide_slice Try.underlying22 (hval 0 22 v0 rfl rfl)
  have k1 := h1
  have lt1 : ∀ x ∈ p1, x.block < W.heap.size := by obtain ⟨m, hm⟩ := k1; exact DataW.trod_lt m _ _ _ hm
  obtain ⟨a1, rfl, rfl, rfl, w1⟩ := open_int Try.underlying3 (hval 1 3 v1 rfl rfl) h1
  have k2 := h2
  have lt2 : ∀ x ∈ p2, x.block < W.heap.size := by obtain ⟨m, hm⟩ := k2; exact DataW.trod_lt m _ _ _ hm
  obtain ⟨a2, rfl, rfl, rfl, w2⟩ := open_int Try.underlying3 (hval 2 3 v2 rfl rfl) h2
  clear hA0 hval0
  refine (LaneOrder_walk (enc := enc) W a0 len0 cap0 (Readable.of_trod h0) a1 w1 a2 w2).mono fun e W' ⟨he, bel⟩ => ?_
  subst he
  exact ⟨_, rfl, _, _, _, [], _, [], hW', trodAll_mk1 (shut_bool Try.underlying4 _), (trodAll_cons_mk (Below.trod law_laid (by kernel_rfl) (of_decide_eq_true (by kernel_rfl)) k0 bel lt0) (trodAll_cons_mk (Below.trod law_laid (by kernel_rfl) (of_decide_eq_true (by kernel_rfl)) k1 bel lt1) (trodAll_cons_mk (Below.trod law_laid (by kernel_rfl) (of_decide_eq_true (by kernel_rfl)) k2 bel lt2) trodAll_mk0))), rfl, bel.frame _, fun h => by cases h⟩

theorem LaneOrder_over : Rows.laneOrderRow.holds Try.pinned (OpenSpec.ofChange Rows.laneOrderSpec) :=
  OpenClaim.holds_of_wide 8 Try.f8 rfl rfl rfl rfl rfl rfl rfl ⟨rfl, rfl, rfl, rfl, rfl⟩ rfl rfl rfl rfl rfl (by kernel_rfl) Try.func8 (by kernel_rfl)
    (of_decide_eq_true (by kernel_rfl)) (by unfold Func.isWrapper; first | (rw [if_pos (by decide +kernel)]; kernel_rfl) | (rw [if_neg (by decide +kernel)]; exact ⟨rfl, rfl⟩))
    (fun os started H enc _ => LaneOrder_lifted os started H enc)

theorem LaneOrder_holds : Rows.LaneOrderSaid := LaneOrder_over
#print axioms LaneOrder_holds

end Go.Proofs.Ytjgcicpclojfgaa
