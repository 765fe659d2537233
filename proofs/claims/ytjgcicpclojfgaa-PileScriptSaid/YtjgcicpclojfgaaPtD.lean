/- A pile of cortegelaw2.Thing: Remove. -/
import Derived.Test.YtjgcicpclojfgaaPt
import Derived.Test.YtjgcicpclojfgaaSeq
namespace Go.Proofs.Ytjgcicpclojfgaa
open Go.RowKit Go.Shelf

/-- What a function that says which ones are taken answers. -/
def pt_Pred (g : Nat) (lb : Array Value) (pr : Th → Bool) (Q : World → Prop) : Prop := (∀ args w, (callFunc g args).run Try.prog w = .ok (.enter g args) w) ∧ ∀ (W : World) (x : Th), Q W → Calls Try.prog g (#[.agg #[.int .i64 (x).key, .int .i64 (x).which]] ++ lb) W fun e W' => e = .returned (.bool (pr x)) ∧ Below W.heap.size W W'

set_option maxHeartbeats 2000000 in
set_option maxRecDepth 100000 in
/-- slices.IndexFunc. -/
theorem pt_indexFunc (w : World) (va : Value) (l : List Th) (ha : Rd w va l.length (flat pt_enc l)) (hlt : ∀ b, va.ownBlock = some b → l ≠ [] → b < w.heap.size) (hm : l.length ≤ 1000000) (g : Nat) (lb : Array Value) (pr : Th → Bool) (Q : World → Prop) (hp : pt_Pred g lb pr Q) (hQ : ∀ W W', Q W → Below W.heap.size W W' → Q W') (hq : Q w) :
    Calls Try.prog 79 #[va, .func (.func g) #[] lb] w fun e w' => ∃ r : Int, e = .returned (.int .i64 r) ∧ Below w.heap.size w w' ∧
      ((r = -1 ∧ ∀ x ∈ l, pr x = false) ∨ ∃ k : Nat, ∃ h : k < l.length, r = k ∧ pr l[k] = true ∧ ∀ x ∈ l.take k, pr x = false) := by
  obtain ⟨ao, ca, rfl, -, -⟩ := ha.shape
  have HA := hide ha
  have HLT := hide hlt
  have HP := hide hp.2
  have eg := hp.1
  have HQ := hide hQ
  have Hq := hide hq
  clear ha hlt hp hQ hq
  go_enter Try.func79, Try.ntmps79
  go_wp2_with fail
  go_loopw [8] (fun i wr => ∃ k : Nat, k ≤ l.length ∧ i = .int .i64 k ∧ Hid (∀ x ∈ l.take k, pr x = false) ∧ Hid (Below w.heap.size w wr) ∧ Hid (Q wr)) (fun i _ => l.length - (intOf i).toNat)
  case atStart => exact ⟨0, Nat.zero_le _, rfl, (fun x h => by simp at h), Below.refl _ _, Hq⟩
  case round =>
    obtain ⟨k, hk, rfl, HN, HB, HQr⟩ := hrel
    by_cases hkl : k < l.length
    · have hne : l ≠ [] := by rintro rfl; simp at hkl
      obtain ⟨a', c', e, -, hcs0⟩ := (HA.out.chg (Chg.of_below HB.out) (fun b hb _ h => by have := HLT.out b hb hne; omega)).shape
      obtain ⟨b, off, rfl, hcs⟩ := hcs0 (by omega)
      cases e
      obtain ⟨hx0, hx1⟩ := pt_cells wr b off l hcs k hkl
      have hcall := HP.out wr l[k] HQr.out
      have htk : l.take (k + 1) = l.take k ++ [l[k]] := take_succ_get l k hkl
      have HTK := hide htk
      clear hcs hcs0 hne htk
      cases hx : pr l[k] with
      | true =>
        rw [hx] at hcall
        have HX := hide hx
        have HC := hide hcall
        clear hcall hx
        go_wp2_with (go_at_fn g; refine HC.out.mono ?_; rintro e w' ⟨rfl, hb'⟩; have HB' := hide hb'; clear hb')
        go_ret
        exact ⟨_, rfl, HB.out.trans (HB'.out.mono HB.out.size), .inr ⟨k, hkl, rfl, HX.out, HN.out⟩⟩
      | false =>
        rw [hx] at hcall
        have HX := hide hx
        have HC := hide hcall
        clear hcall hx
        go_wp2_with (go_at_fn g; refine HC.out.mono ?_; rintro e w' ⟨rfl, hb'⟩; have HB' := hide hb'; clear hb')
        go_roundw
        case rel =>
          refine ⟨k + 1, by omega, by go_num, fun x hx => ?_, HB.out.trans (HB'.out.mono HB.out.size), HQ.out _ _ HQr.out HB'.out⟩
          rw [HTK.out] at hx
          rcases List.mem_append.1 hx with h | h
          · exact HN.out x h
          · rw [List.mem_singleton.1 h]; exact HX.out
        case measure => simp [intOf]; omega
    · obtain rfl : k = l.length := by omega
      have hn := HN.out
      rw [List.take_length] at hn
      have HN2 := hide hn
      clear hn HN
      go_wp2_with fail
      go_ret
      exact ⟨_, rfl, HB.out, .inl ⟨rfl, HN2.out⟩⟩
set_option maxHeartbeats 4000000 in
set_option maxRecDepth 100000 in
/-- slices.DeleteFunc. -/
theorem pt_deleteFunc {base : Nat} (w : World) (ao : Option Addr) (cap : Nat) (l : List Th) (ho : w.ownsRow base 43 2 (.slice ao l.length cap) l.length (flat pt_enc l)) (hm : l.length ≤ 1000000) (g : Nat) (lb : Array Value) (pr : Th → Bool) (Q : World → Prop) (hp : pt_Pred g lb pr Q)
    (hQ : ∀ W W', Q W → Chg (fun k => (Value.slice ao 0 0).ownBlock = some k) W W' → Q W') (hq : Q w) :
    Calls Try.prog 62 #[.slice ao l.length cap, .func (.func g) #[] lb] w (Delf base 43 2 w ao (l.filter fun x => !pr x).length cap (flat pt_enc (l.filter fun x => !pr x))) := by
  have HO := hide ho
  have HP := hide hp
  have HQ := hide hQ
  have Hq := hide hq
  have hif := pt_indexFunc w _ l (Rd.of_owns ho) (fun b hb _ => (ownsRow_lt ho b hb).2) hm g lb pr Q hp (fun W W' h hb => hQ W W' h (Chg.of_below0 hb)) hq
  have HIF := hide hif
  clear ho hp hQ hq hif
  go_enter Try.func62, Try.ntmps62
  go_wp2_with fail
  refine HIF.out.mono ?_
  rintro e w1 ⟨r, rfl, hb1, ⟨rfl, hall⟩ | ⟨k0, hk0, rfl, hpk, hbef⟩⟩
  · have HALL := hide hall
    have HB1 := hide hb1
    clear hall hb1
    go_wp2_with fail
    go_ret
    have hf : (l.filter fun x => !pr x) = l := List.filter_eq_self.2 (fun x hx => by rw [HALL.out x hx]; rfl)
    refine ⟨?_, ?_, Chg.of_below0 HB1.out⟩
    · rw [hf]; rfl
    · rw [hf]; exact (Chg.of_below0 (S := fun _ => False) HB1.out).owns HO.out (fun _ _ h => h)
  · rcases HO.out.2 with ⟨e0, _⟩ | ⟨gg, cap', cur, e0, hbg, hgg, hnc, hcm, hcs, ht⟩
    · injection e0 with _ e1 _
      omega
    cases e0
    have hx1 : (l.take (k0 + 1)).filter (fun x => !pr x) = l.take k0 := by
      rw [take_succ_get l k0 hk0, List.filter_append, List.filter_eq_self.2 (fun x hx => by rw [hbef x hx]; rfl)]
      simp [hpk]
    have hrel0 : DelRow 43 2 gg cap l.length (k0 + 1) k0 (flat pt_enc (l.take k0)) (flat pt_enc (l.drop (k0 + 1))) w1 := by
      refine ⟨cur.toList, (Chg.of_below0 (S := fun _ => False) hb1).heap hgg (fun h => h), by rw [Array.length_toList, hcs], ?_, ?_⟩
      · rw [← (flat_split pt_len l k0 (by omega)).1, ← ht, List.take_take, Nat.min_eq_left (Nat.mul_le_mul_right _ (by omega))]
      · rw [ht, (flat_split pt_len l (k0 + 1) (by omega)).2]
    have HX1 := hide hx1
    have HREL := hide hrel0
    have HB1 := hide hb1
    have HBG := hide hbg
    have HCM := hide hcm
    have hcm2 : cap ≤ 9223372036854775807 := hcm
    clear hpk hbef hbg hgg hcm hcs ht hx1 hrel0 hb1
    have HPP := hide HP.out.2
    have eg := HP.out.1
    have hd0 : ((k0 : Int) == -1) = false := by rw [beq_eq_false_iff_ne]; omega
    go_wp2_with fail
    clear hd0
    go_loopw [5, 6] (fun i j wr => ∃ (k jj : Nat), k < jj ∧ jj ≤ l.length ∧ i = .int .i64 k ∧ j = .int .i64 jj ∧ Hid (k = ((l.take jj).filter fun x => !pr x).length) ∧ Hid (DelRow 43 2 gg cap l.length jj k (flat pt_enc ((l.take jj).filter fun x => !pr x)) (flat pt_enc (l.drop jj)) wr) ∧ Hid (Q wr) ∧ Hid (Chg (fun k => k = gg) w wr)) (fun _ j _ => l.length - (intOf j).toNat)
    case atStart =>
      refine ⟨k0, k0 + 1, by omega, by omega, rfl, rfl, ?_, ?_, HQ.out _ _ Hq.out (Chg.of_below0 HB1.out), Chg.of_below0 HB1.out⟩
      · show _ = _
        rw [HX1.out, List.length_take]; omega
      · rw [HX1.out]; exact HREL.out
    case round =>
      obtain ⟨k, jj, hkj, hj, rfl, rfl, HK, HD, HQr, HC⟩ := hrel
      by_cases hjl : jj < l.length
      · have hdr : flat pt_enc (l.drop jj) = pt_enc l[jj] ++ flat pt_enc (l.drop (jj + 1)) := by rw [List.drop_eq_getElem_cons hjl]; rfl
        obtain ⟨cur1, d1, d2, d3, d4⟩ := HD.out
        rw [hdr] at d4
        have hget : ∀ i u, i < 2 → (pt_enc l[jj])[i]? = some u → wr.cell? ⟨gg, jj * 2 + i, none⟩ = some u := fun i u hi hu => by
          rw [cell_of_heap d1, List.getElem?_toArray]
          exact delRow_get (pt_len _) d4 hi u hu
        have hcx0 := hget 0 _ (by decide) rfl; have hcx1 := hget 1 _ (by decide) rfl; rw [Nat.add_zero] at hcx0
        have hcall := HPP.out (wr.alloc (.cells #[.int .i64 (l[jj]).key, .int .i64 (l[jj]).which] 43)) l[jj] (HQ.out _ _ HQr.out (Chg.alloc _ wr _))
        have htk : l.take (jj + 1) = l.take jj ++ [l[jj]] := take_succ_get l jj hjl
        have HTK := hide htk
        have D1 := hide d1
        have D2 := hide d2
        have D3 := hide d3
        have D4 := hide d4
        clear d1 d2 d3 d4 hdr htk hget
        cases hx : pr l[jj] with
        | true =>
          rw [hx] at hcall
          have HX := hide hx
          have HCA := hide hcall
          clear hcall hx
          go_wp2_with (go_at_fn g; refine HCA.out.mono ?_; rintro e w' ⟨rfl, hb'⟩; have HB' := hide hb'; clear hb')
          go_roundw
          case rel =>
            have hf : (l.take (jj + 1)).filter (fun x => !pr x) = (l.take jj).filter (fun x => !pr x) := by rw [HTK.out, List.filter_append]; simp [HX.out]
            refine ⟨k, jj + 1, by omega, by omega, rfl, by go_num, ?_, ?_, HQ.out _ _ HQr.out ((Chg.alloc (fun _ => False) wr (.cells #[.int .i64 (l[jj]).key, .int .i64 (l[jj]).which] 43)).trans (Chg.of_below0 (S := fun _ => False) HB'.out) (fun _ _ h => h.elim) (fun _ _ h => h.elim)), HC.out.trans ((Chg.alloc (fun _ => False) wr (.cells #[.int .i64 (l[jj]).key, .int .i64 (l[jj]).which] 43)).trans (Chg.of_below0 (S := fun _ => False) HB'.out) (S'' := fun _ => False) (fun _ _ h => h) (fun _ _ h => h)) (fun _ _ h => h) (fun _ _ h => h.elim)⟩
            · rw [hf]; exact HK.out
            · rw [hf]
              exact ⟨cur1, (Chg.of_below0 (S := fun _ => False) HB'.out).heap ((Chg.alloc (fun _ => False) wr _).heap D1.out (fun h => h)) (fun h => h), D2.out, D3.out, delRow_skip (pt_len _) D4.out⟩
          case measure => simp [intOf]; omega
        | false =>
          rw [hx] at hcall
          have HX := hide hx
          have HCA := hide hcall
          have hkl : k * 2 + (2 - 1) < cur1.length := by have := D2.out; omega
          clear hcall hx
          have hkn : k < l.length := by omega
          go_wp2_with (go_at_fn g; refine HCA.out.mono ?_; rintro e w' ⟨rfl, hb'⟩; have HB' := hide hb'; have hd1 := (Chg.of_below0 (S := fun _ => False) hb').heap ((Chg.alloc (fun _ => False) wr _).heap D1.out (fun h => h)) (fun h => h); have HD1 := hide hd1; have hbx := (Chg.of_below0 (S := fun _ => False) hb').heap (heap_alloc_new wr _) (fun h => h); have hv0 := cell_of_heap hbx 0; have hv1 := cell_of_heap hbx 1; obtain ⟨u0, hu0⟩ := cell_some hd1 (k * 2) (by rw [List.size_toArray]; omega); have hf0 := free_of_heap hd1 (k * 2); obtain ⟨u1, hu1⟩ := cell_some hd1 (k * 2 + 1) (by rw [List.size_toArray]; omega); have hf1 := free_of_heap hd1 (k * 2 + 1); clear hb' hd1 hbx)
          go_roundw
          case rel =>
            have hf : (l.take (jj + 1)).filter (fun x => !pr x) = (l.take jj).filter (fun x => !pr x) ++ [l[jj]] := by rw [HTK.out, List.filter_append]; simp [HX.out]
            have hc2 : Chg (fun k => k = gg) wr (((w'.setCell ⟨gg, k * 2, none⟩ (.int .i64 l[jj].key)).setCell ⟨gg, k * 2 + 1, none⟩ (.int .i64 l[jj].which))) := by
              refine ((Chg.alloc (fun _ => False) wr (.cells #[.int .i64 (l[jj]).key, .int .i64 (l[jj]).which] 43)).trans (Chg.of_below0 (S := fun _ => False) HB'.out) (S'' := fun _ => False) (fun _ _ h => h) (fun _ _ h => h)).trans (S' := fun k => k = gg) ?_ (fun _ _ h => h.elim) (fun _ _ h => h)
              iterate 2 (refine Chg.trans ?_ (Chg.setCell _ ⟨gg, _, none⟩ _) (S := fun k => k = gg) (fun _ _ h => h) (fun _ _ h => h))
              exact Chg.refl _ _
            refine ⟨k + 1, jj + 1, by omega, by omega, by go_num, by go_num, ?_, ?_, HQ.out _ _ HQr.out (hc2.mono (fun _ _ h => by subst h; rfl)), HC.out.trans hc2 (fun _ _ h => h) (fun _ _ h => h)⟩
            · show _ = _
              rw [hf, List.length_append, ← HK.out]; rfl
            · rw [hf, flat_append]
              obtain ⟨e1, e2, e3⟩ := delRow_lay (x := pt_enc l[jj]) (pt_len _) D2.out D3.out D4.out (by omega) hjl (by omega)
              have e4 : flat pt_enc [l[jj]] = pt_enc l[jj] := by simp [flat]
              rw [e4]
              refine ⟨_, ?_, e1, e2, e3⟩
              have := (heap_setCell_same (heap_setCell_same HD1.out (.int .i64 l[jj].key) (i := k * 2)) (.int .i64 l[jj].which) (i := k * 2 + 1)); rwa [List.setIfInBounds_toArray, List.setIfInBounds_toArray, lay_set2 _ _ _ _ (by omega)] at this
          case measure => simp [intOf]; omega
      · obtain rfl : jj = l.length := by omega
        have hk := HK.out
        have hd := HD.out
        rw [List.take_length] at hk hd
        obtain ⟨cur1, d1, d2, d3, d4⟩ := hd
        have D1 := hide d1
        have D2 := hide d2
        have D3 := hide d3
        have HK2 := hide hk
        clear d1 d2 d3 d4 HK HD hk
        go_wp2_with (refine wpl_clear rfl (.tmp 38) 45 rfl pt_slT (m := l.length - k) (cur := cur1) (by exact D1.out) rfl (by omega) (by rw [D2.out]; omega) (by decide) ?_; intro w2 zs hzl hg2 hc2; have HZL := hide hzl; have HG2 := hide hg2; have HC2 := hide hc2; clear hzl hg2 hc2)
        all_goals
          go_ret
          have hg2 := HG2.out
          have hll := lay_length cur1 (k * 2) zs (by rw [HZL.out, D2.out]; omega)
          have hlt2 : (lay cur1 (k * 2) zs).take (k * 2) = flat pt_enc (l.filter fun x => !pr x) := by
            rw [lay, List.take_append_of_le_length (by rw [List.length_take, D2.out]; omega), List.take_take, Nat.min_self, D3.out]
          refine ⟨?_, ⟨flat_length pt_len _, .inr ⟨gg, cap, _, rfl, HBG.out, hg2, by rw [← HK2.out]; omega, HCM.out, ?_, ?_⟩⟩, ?_⟩
          · rw [← HK2.out]; rfl
          · rw [List.size_toArray, hll, D2.out]
          · rw [← HK2.out]; exact hlt2
          · exact (HC.out.trans HC2.out (fun _ _ h => h) (fun _ _ h => h)).mono (fun _ _ h => by subst h; rfl)
set_option maxHeartbeats 1000000 in
theorem pt_Remove {base : Nat} (w : World) (p go : Nat) (ao : Option Addr) (cap : Nat) (l : List Th) (h : pt_At base w p go ao cap l) (g : Nat) (lb : Array Value) (pr : Th → Bool) (Q : World → Prop) (hp : pt_Pred g lb pr Q)
    (hQ : ∀ W W', Q W → Chg (PSet p ao) W W' → Q W') (hq : Q w) :
    Calls Try.prog 27 #[.pointer (some ⟨p, 0, none⟩), .func (.func g) #[] lb] w fun e w' => e = .returned (.int .i64 ((l.length : Int) - ((l.filter fun x => !pr x).length : Int))) ∧ pt_Grew base w p go ao (l.filter fun x => !pr x) w' := by
  have hnn : ∀ w', Sem.run Try.prog (binOp BinOp.eql 53 (.func (.func g) #[] lb) .nilFunc) w' = .ok (.bool false) w' := by intro w'; kernel_rfl
  have h1 := h.c1
  have hm := h.2.2.2
  have HP := hide h
  have hdel := pt_deleteFunc (base := base) w ao cap l h.2.1 (by omega) g lb pr Q hp (fun W W' hh hc => hQ W W' hh (hc.mono (fun _ _ e => .inr e))) hq
  have HDEL := hide hdel
  have hfl : (l.filter fun x => !pr x).length ≤ l.length := List.length_filter_le _ _
  clear h hp hQ hq hdel
  go_enter Try.func27, Try.ntmps27
  go_wp2_with fail
  refine HDEL.out.mono ?_
  obtain ⟨ys, hys⟩ : ∃ ys, ys = l.filter fun x => !pr x := ⟨_, rfl⟩
  rw [← hys] at hfl ⊢
  have HYS := hide hys
  clear hys
  rintro e w1 ⟨rfl, hown, hc⟩
  have hc' : Chg (fun k => (Value.slice ao l.length cap).ownBlock = some k) w w1 := hc.mono (fun k _ e => own_slice ao _ _ _ _ ▸ e)
  have hp1 := hc'.heap HP.out.1 (fun e => ownsRow_ne HP.out.2.1 HP.out.1 (by decide) e)
  have hg := grew_mk (by decide) HP.out hown hc' (fun k hk => .inl (own_slice ao _ _ _ _ ▸ hk)) (by omega)
  have hc1 := cell_of_heap hp1 1
  have hf1 := free_of_heap hp1 1
  have hc2 : (w1.setCell ⟨p, 1, none⟩ (.slice ao ys.length cap)).cell? ⟨p, 1, none⟩ = some (.slice ao ys.length cap) := by
    rw [cell_of_heap (heap_setCell_same hp1 _)]; rfl
  have HG := hide hg
  clear hown hc hc' hp1 hg
  go_wp2_with fail
  go_ret
  have hy := HYS.out
  subst hy
  exact ⟨rfl, HG.out⟩
end Go.Proofs.Ytjgcicpclojfgaa
