/- seq.Of at ints, texts, lists of texts: what it tells. Conditions: none. -/
import Derived.Test.YtjmmmpnpkialjaaDoorSeq
namespace Go.Proofs.YtjmmmpnpkialjaaDoor
open Go.RowKit Go.Shelf
attribute [local go_sem] Oper.semAt_some

theorem seqI_sl : SlT Tryd.prog 22 3 (.int .i64 0) 1 8 := ⟨Tryd.underlying22, by kernel_rfl, rfl, by decide⟩
/-- slices.Clone at this type: nil of nil; else a row of its own. -/
theorem seqI_clone (w : World) (va : Value) (n : Nat) (cs : List Value) (ha : Rd w va n cs) (hl : cs.length = n * 1) (h1 : ∀ u ∈ cs, u.oneCell' = true) (hm : n * 8 ≤ 140737488351232) :
    Calls Tryd.prog 84 #[va] w fun e w' => ∃ ao cap, e = .returned (.slice ao n cap) ∧ w'.ownsRow w.heap.size 3 1 (.slice ao n cap) n cs ∧ Below w.heap.size w w' ∧ (ao = none ↔ va = .slice none 0 0) := by
  have hR := hide ha
  have hn := fun (w : World) (a : Option Addr) (n c n' c' : Nat) => Lib.run_eql_slice_nil (P := Tryd.prog) w 22 3 a n c n' c' seqI_sl.under
  rcases ha with ⟨rfl, rfl, rfl⟩ | ⟨ad, cap, rfl, hc, hcs⟩
  · go_enter Tryd.func84, Tryd.ntmps84
    go_wp2
    go_ret
    exact ⟨none, 0, rfl, World.ownsRow_nil _ _ _ _, Below.refl _ _, by simp⟩
  · clear hcs
    go_enter Tryd.func84, Tryd.ntmps84
    go_wp2_with (at_builtin; refine wpl_append0 rfl _ _ _ rfl seqI_sl w.heap.size (ownsRow_empty 1 (heap_alloc_new w _) (Nat.le_refl _)) (hR.out.chg (Chg.alloc (fun _ => False) w _) (fun _ _ _ => id)) rfl rfl hl h1 (by omega) (by unfold maxLen; omega) (by simp) ?_; intro ao cap' w1 hown hg hat hnil)
    go_ret
    refine ⟨ao, cap', rfl, hown, (Below.alloc (Below.refl _ w) (Nat.le_refl _) _).trans (hg.below (by simp) (fun k hk e => by simp [Value.ownBlock] at e; omega)), ?_⟩
    rw [hnil]; simp
theorem seqI_values (w : World) (a : Option Addr) (n c : Nat) : Calls Tryd.prog 83 #[.slice a n c] w fun e w' => e = .returned (.func (.func 95) #[] #[.pointer (some ⟨w.heap.size, 0, none⟩)]) ∧ w' = w.alloc (.cells #[.slice a n c] 22) := by
  go_enter Tryd.func83, Tryd.ntmps83
  go_wp2
  go_ret
  exact ⟨rfl, rfl⟩
set_option maxRecDepth 100000 in
set_option maxHeartbeats 2000000 in
/-- slices.Values's closure at this type. -/
theorem seqI_go {α : Type} (enc : α → Value) (henc : ∀ x, (enc x).oneCell' = true) (l B n0 n1 : Nat) (v : Value) (zs : List α) (hreach : zs.length * 8 ≤ 140737488351232) (J Jx : List α → World → Prop)
    (hY : ∀ pre x W, J pre W → pre.length < zs.length → YieldAt Fence.wide 7 Tryd.prog l #[enc x] W fun e W' =>
      (e = .returned (.bool true) ∧ J (pre ++ [x]) W' ∧ Keep (fun k => n0 ≤ k ∧ k < n1) W W') ∨ (e = .returned (.bool false) ∧ Jx (pre ++ [x]) W'))
    (W : World) (_ : n0 ≤ B) (_ : B < n1) (hB : W.cell? ⟨B, 0, none⟩ = some v) (hr : Rd W v zs.length (zs.map enc)) (hb : ∀ k, v.ownBlock = some k → n0 ≤ k ∧ k < n1) (h0 : J [] W) :
    CallsIn Fence.wide 8 Tryd.prog 95 #[.func (.yield l) #[] #[], .pointer (some ⟨B, 0, none⟩)] W fun e W' => (∃ v, e = .returned v) ∧
      ((∃ ys, ys = zs ∧ J ys W') ∨ (∃ pre, pre <+: zs ∧ Jx pre W')) := by
  refine callsIn_of_wp Tryd.func95 rfl trivial ?_ rfl
  simp only [Tryd.ntmps95, List.size_toArray, List.length_cons, List.length_nil, Nat.reduceAdd, Nat.reduceSub, Array.replicate_succ, Array.replicate_zero, List.push_toArray, List.append_toArray, List.nil_append, List.cons_append]
  have HR := hide hr
  obtain ⟨ao, cap, rfl, -, -⟩ := hr.shape
  clear hr
  have HB := hide hb
  have HY := hide hY
  clear hb hY
  gi_wp2
  gi_loopw [7] (fun i wr => ∃ k : Nat, k ≤ zs.length ∧ i = .int .i64 k ∧ Hid (J (zs.take k) wr) ∧ Hid (Keep (fun k => n0 ≤ k ∧ k < n1) W wr)) (fun i _ => zs.length - (intOf i).toNat)
  case atStart => exact ⟨0, Nat.zero_le _, rfl, h0, Keep.refl _ _⟩
  case round =>
    obtain ⟨k, hk, rfl, HJ, HK⟩ := hrel
    by_cases hlt : k < zs.length
    · obtain ⟨a, cap', e, -, hcs0⟩ := (HK.out.rd HR.out HB.out).shape
      obtain ⟨b, off, rfl, hcs⟩ := hcs0 (by omega)
      cases e
      have hcx := hcs k (enc zs[k]) (by simp [hlt])
      obtain ⟨fn, tmps, assign, body, hy, hR⟩ := HY.out _ zs[k] wr HJ.out (by simp; omega)
      have hex := henc zs[k]
      clear hcs hcs0
      gi_wp2
      refine hR.mono ?_
      rintro e W3 (⟨rfl, hJ3, hk3⟩ | ⟨rfl, hJx3⟩)
      · gi_wp2
        go_roundw
        case rel => exact ⟨k + 1, by omega, by simp, by rw [take_succ_get zs k hlt]; exact hJ3, keep_t HK.out hk3⟩
        case measure => simp [intOf]; omega
      · gi_wp2
        refine bodyPost_ret (results_none rfl _ _ _) rfl ?_
        exact ⟨⟨_, rfl⟩, .inr ⟨_, by rw [← take_succ_get zs k hlt]; exact List.take_prefix _ _, hJx3⟩⟩
    · obtain rfl : k = zs.length := by omega
      gi_wp2
      go_end0
      exact ⟨⟨_, rfl⟩, .inl ⟨_, rfl, by simpa using HJ.out⟩⟩

theorem seqI_stops {α : Type} (enc : α → Value) (n0 n1 B : Nat) (zs : List α) (henc : ∀ y ∈ zs, (fun x => (enc x).oneCell' = true) y) (hreach : zs.length * 8 ≤ 140737488351232) (w : World) (hn : n1 ≤ w.heap.size) (h : SeqAt n0 n1 w B zs.length (zs.map enc)) :
    SeqStopsK Fence.wide 8 Tryd.prog 95 #[.pointer (some ⟨B, 0, none⟩)] (fun x : {x // x ∈ zs} => #[enc x.1]) (Keep (fun k => n0 ≤ k ∧ k < n1)) (fun ys => ys = zs.attach) (fun pre => pre <+: zs.attach) zs.length w := by
  intro l J Jx W hW _ _ hY h0
  obtain ⟨h1, h2, v, hc, hr, hb⟩ := h.chg (Chg.of_below hW) (fun k _ h2 h3 => by omega)
  refine (seqI_go (fun x : {x // x ∈ zs} => enc x.1) (fun x => henc x.1 x.2) l B n0 n1 v zs.attach (by simpa using hreach) J Jx (by simpa using hY) W h1 h2 hc (by simpa using hr) hb h0)

/-- seq.Of at this type. -/
theorem seqI_of (w : World) (va : Value) (n : Nat) (cs : List Value) (ha : Rd w va n cs) (hl : cs.length = n) (h1 : ∀ u ∈ cs, u.oneCell' = true) (hm : n * 8 ≤ 140737488351232) :
    Calls Tryd.prog 66 #[va] w fun e w' => ∃ B, e = .returned (.func (.func 95) #[] #[.pointer (some ⟨B, 0, none⟩)]) ∧ SeqAt w.heap.size w'.heap.size w' B n cs ∧ Below w.heap.size w w' := by
  obtain ⟨ao, cap, rfl, -, -⟩ := ha.shape
  have HA := hide ha
  clear ha
  go_enter Tryd.func66, Tryd.ntmps66
  go_wp2_with fail
  refine (seqI_clone w _ n cs HA.out (by omega) h1 (by omega)).mono ?_
  rintro e w1 ⟨ao1, cap1, rfl, ho, hb, -⟩
  have HO := hide ho
  have HB := hide hb
  clear ho hb
  go_wp2_with fail
  refine (seqI_values w1 _ _ _).mono ?_
  rintro e w2 ⟨rfl, rfl⟩
  go_wp2_with fail
  go_ret
  refine ⟨_, rfl, ⟨HB.out.size, by simp, _, cell_of_heap (heap_alloc_new w1 _) 0, (Rd.of_owns HO.out).chg (Chg.alloc (fun _ => False) w1 _) (fun _ _ _ h => h), fun k hk => ?_⟩, HB.out.alloc HB.out.size _⟩
  have := ownsRow_lt HO.out k hk
  simp
  omega
theorem seqS_sl : SlT Tryd.prog 75 9 (.string ByteArray.empty) 1 16 := ⟨Tryd.underlying75, by kernel_rfl, rfl, by decide⟩
/-- slices.Clone at this type: nil of nil; else a row of its own. -/
theorem seqS_clone (w : World) (va : Value) (n : Nat) (cs : List Value) (ha : Rd w va n cs) (hl : cs.length = n * 1) (h1 : ∀ u ∈ cs, u.oneCell' = true) (hm : n * 16 ≤ 140737488351232) :
    Calls Tryd.prog 88 #[va] w fun e w' => ∃ ao cap, e = .returned (.slice ao n cap) ∧ w'.ownsRow w.heap.size 9 1 (.slice ao n cap) n cs ∧ Below w.heap.size w w' ∧ (ao = none ↔ va = .slice none 0 0) := by
  have hR := hide ha
  have hn := fun (w : World) (a : Option Addr) (n c n' c' : Nat) => Lib.run_eql_slice_nil (P := Tryd.prog) w 75 9 a n c n' c' seqS_sl.under
  rcases ha with ⟨rfl, rfl, rfl⟩ | ⟨ad, cap, rfl, hc, hcs⟩
  · go_enter Tryd.func88, Tryd.ntmps88
    go_wp2
    go_ret
    exact ⟨none, 0, rfl, World.ownsRow_nil _ _ _ _, Below.refl _ _, by simp⟩
  · clear hcs
    go_enter Tryd.func88, Tryd.ntmps88
    go_wp2_with (at_builtin; refine wpl_append0 rfl _ _ _ rfl seqS_sl w.heap.size (ownsRow_empty 1 (heap_alloc_new w _) (Nat.le_refl _)) (hR.out.chg (Chg.alloc (fun _ => False) w _) (fun _ _ _ => id)) rfl rfl hl h1 (by omega) (by unfold maxLen; omega) (by simp) ?_; intro ao cap' w1 hown hg hat hnil)
    go_ret
    refine ⟨ao, cap', rfl, hown, (Below.alloc (Below.refl _ w) (Nat.le_refl _) _).trans (hg.below (by simp) (fun k hk e => by simp [Value.ownBlock] at e; omega)), ?_⟩
    rw [hnil]; simp
theorem seqS_values (w : World) (a : Option Addr) (n c : Nat) : Calls Tryd.prog 87 #[.slice a n c] w fun e w' => e = .returned (.func (.func 97) #[] #[.pointer (some ⟨w.heap.size, 0, none⟩)]) ∧ w' = w.alloc (.cells #[.slice a n c] 75) := by
  go_enter Tryd.func87, Tryd.ntmps87
  go_wp2
  go_ret
  exact ⟨rfl, rfl⟩
set_option maxRecDepth 100000 in
set_option maxHeartbeats 2000000 in
/-- slices.Values's closure at this type. -/
theorem seqS_go {α : Type} (enc : α → Value) (henc : ∀ x, (enc x).oneCell' = true) (l B n0 n1 : Nat) (v : Value) (zs : List α) (hreach : zs.length * 16 ≤ 140737488351232) (J Jx : List α → World → Prop)
    (hY : ∀ pre x W, J pre W → pre.length < zs.length → YieldAt Fence.wide 7 Tryd.prog l #[enc x] W fun e W' =>
      (e = .returned (.bool true) ∧ J (pre ++ [x]) W' ∧ Keep (fun k => n0 ≤ k ∧ k < n1) W W') ∨ (e = .returned (.bool false) ∧ Jx (pre ++ [x]) W'))
    (W : World) (_ : n0 ≤ B) (_ : B < n1) (hB : W.cell? ⟨B, 0, none⟩ = some v) (hr : Rd W v zs.length (zs.map enc)) (hb : ∀ k, v.ownBlock = some k → n0 ≤ k ∧ k < n1) (h0 : J [] W) :
    CallsIn Fence.wide 8 Tryd.prog 97 #[.func (.yield l) #[] #[], .pointer (some ⟨B, 0, none⟩)] W fun e W' => (∃ v, e = .returned v) ∧
      ((∃ ys, ys = zs ∧ J ys W') ∨ (∃ pre, pre <+: zs ∧ Jx pre W')) := by
  refine callsIn_of_wp Tryd.func97 rfl trivial ?_ rfl
  simp only [Tryd.ntmps97, List.size_toArray, List.length_cons, List.length_nil, Nat.reduceAdd, Nat.reduceSub, Array.replicate_succ, Array.replicate_zero, List.push_toArray, List.append_toArray, List.nil_append, List.cons_append]
  have HR := hide hr
  obtain ⟨ao, cap, rfl, -, -⟩ := hr.shape
  clear hr
  have HB := hide hb
  have HY := hide hY
  clear hb hY
  gi_wp2
  gi_loopw [7] (fun i wr => ∃ k : Nat, k ≤ zs.length ∧ i = .int .i64 k ∧ Hid (J (zs.take k) wr) ∧ Hid (Keep (fun k => n0 ≤ k ∧ k < n1) W wr)) (fun i _ => zs.length - (intOf i).toNat)
  case atStart => exact ⟨0, Nat.zero_le _, rfl, h0, Keep.refl _ _⟩
  case round =>
    obtain ⟨k, hk, rfl, HJ, HK⟩ := hrel
    by_cases hlt : k < zs.length
    · obtain ⟨a, cap', e, -, hcs0⟩ := (HK.out.rd HR.out HB.out).shape
      obtain ⟨b, off, rfl, hcs⟩ := hcs0 (by omega)
      cases e
      have hcx := hcs k (enc zs[k]) (by simp [hlt])
      obtain ⟨fn, tmps, assign, body, hy, hR⟩ := HY.out _ zs[k] wr HJ.out (by simp; omega)
      have hex := henc zs[k]
      clear hcs hcs0
      gi_wp2
      refine hR.mono ?_
      rintro e W3 (⟨rfl, hJ3, hk3⟩ | ⟨rfl, hJx3⟩)
      · gi_wp2
        go_roundw
        case rel => exact ⟨k + 1, by omega, by simp, by rw [take_succ_get zs k hlt]; exact hJ3, keep_t HK.out hk3⟩
        case measure => simp [intOf]; omega
      · gi_wp2
        refine bodyPost_ret (results_none rfl _ _ _) rfl ?_
        exact ⟨⟨_, rfl⟩, .inr ⟨_, by rw [← take_succ_get zs k hlt]; exact List.take_prefix _ _, hJx3⟩⟩
    · obtain rfl : k = zs.length := by omega
      gi_wp2
      go_end0
      exact ⟨⟨_, rfl⟩, .inl ⟨_, rfl, by simpa using HJ.out⟩⟩

theorem seqS_stops {α : Type} (enc : α → Value) (n0 n1 B : Nat) (zs : List α) (henc : ∀ y ∈ zs, (fun x => (enc x).oneCell' = true) y) (hreach : zs.length * 16 ≤ 140737488351232) (w : World) (hn : n1 ≤ w.heap.size) (h : SeqAt n0 n1 w B zs.length (zs.map enc)) :
    SeqStopsK Fence.wide 8 Tryd.prog 97 #[.pointer (some ⟨B, 0, none⟩)] (fun x : {x // x ∈ zs} => #[enc x.1]) (Keep (fun k => n0 ≤ k ∧ k < n1)) (fun ys => ys = zs.attach) (fun pre => pre <+: zs.attach) zs.length w := by
  intro l J Jx W hW _ _ hY h0
  obtain ⟨h1, h2, v, hc, hr, hb⟩ := h.chg (Chg.of_below hW) (fun k _ h2 h3 => by omega)
  refine (seqS_go (fun x : {x // x ∈ zs} => enc x.1) (fun x => henc x.1 x.2) l B n0 n1 v zs.attach (by simpa using hreach) J Jx (by simpa using hY) W h1 h2 hc (by simpa using hr) hb h0)

/-- seq.Of at this type. -/
theorem seqS_of (w : World) (va : Value) (n : Nat) (cs : List Value) (ha : Rd w va n cs) (hl : cs.length = n) (h1 : ∀ u ∈ cs, u.oneCell' = true) (hm : n * 16 ≤ 140737488351232) :
    Calls Tryd.prog 68 #[va] w fun e w' => ∃ B, e = .returned (.func (.func 97) #[] #[.pointer (some ⟨B, 0, none⟩)]) ∧ SeqAt w.heap.size w'.heap.size w' B n cs ∧ Below w.heap.size w w' := by
  obtain ⟨ao, cap, rfl, -, -⟩ := ha.shape
  have HA := hide ha
  clear ha
  go_enter Tryd.func68, Tryd.ntmps68
  go_wp2_with fail
  refine (seqS_clone w _ n cs HA.out (by omega) h1 (by omega)).mono ?_
  rintro e w1 ⟨ao1, cap1, rfl, ho, hb, -⟩
  have HO := hide ho
  have HB := hide hb
  clear ho hb
  go_wp2_with fail
  refine (seqS_values w1 _ _ _).mono ?_
  rintro e w2 ⟨rfl, rfl⟩
  go_wp2_with fail
  go_ret
  refine ⟨_, rfl, ⟨HB.out.size, by simp, _, cell_of_heap (heap_alloc_new w1 _) 0, (Rd.of_owns HO.out).chg (Chg.alloc (fun _ => False) w1 _) (fun _ _ _ h => h), fun k hk => ?_⟩, HB.out.alloc HB.out.size _⟩
  have := ownsRow_lt HO.out k hk
  simp
  omega
end Go.Proofs.YtjmmmpnpkialjaaDoor
