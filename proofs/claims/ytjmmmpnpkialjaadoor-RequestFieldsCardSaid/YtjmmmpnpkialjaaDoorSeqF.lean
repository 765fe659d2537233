/- seq.Of at files: what it tells. Conditions: none. -/
import Derived.Test.YtjmmmpnpkialjaaDoorCmO
import Derived.Test.YtjmmmpnpkialjaaDoorSeq
namespace Go.Proofs.YtjmmmpnpkialjaaDoor
open Go.RowKit Go.Shelf
attribute [local go_sem] Oper.semAt_some

def flV (f : Fl) : Value := .agg #[.string f.path, .string f.data]
theorem seqF_values (w : World) (a : Option Addr) (n c : Nat) : Calls Tryd.prog 85 #[.slice a n c] w fun e w' => e = .returned (.func (.func 96) #[] #[.pointer (some ⟨w.heap.size, 0, none⟩)]) ∧ w' = w.alloc (.cells #[.slice a n c] 23) := by
  go_enter Tryd.func85, Tryd.ntmps85
  go_wp2
  go_ret
  exact ⟨rfl, rfl⟩
set_option maxRecDepth 100000 in
set_option maxHeartbeats 2000000 in
/-- slices.Values's closure at files. -/
theorem seqF_go {α : Type} (f : α → Fl) (l B n0 n1 : Nat) (v : Value) (zs : List α) (hreach : zs.length * 32 ≤ 140737488351232) (J Jx : List α → World → Prop) (hJ : ∀ s W o, J s W → J s (W.alloc o))
    (hY : ∀ pre x W, J pre W → pre.length < zs.length → YieldAt Fence.wide 7 Tryd.prog l #[flV (f x)] W fun e W' =>
      (e = .returned (.bool true) ∧ J (pre ++ [x]) W' ∧ Keep (fun k => n0 ≤ k ∧ k < n1) W W') ∨ (e = .returned (.bool false) ∧ Jx (pre ++ [x]) W'))
    (W : World) (_ : n0 ≤ B) (_ : B < n1) (hB : W.cell? ⟨B, 0, none⟩ = some v) (hr : Rd W v zs.length (flat fl_enc (zs.map f))) (hb : ∀ k, v.ownBlock = some k → n0 ≤ k ∧ k < n1) (h0 : J [] W) :
    CallsIn Fence.wide 8 Tryd.prog 96 #[.func (.yield l) #[] #[], .pointer (some ⟨B, 0, none⟩)] W fun e W' => (∃ v, e = .returned v) ∧
      ((∃ ys, ys = zs ∧ J ys W') ∨ (∃ pre, pre <+: zs ∧ Jx pre W')) := by
  refine callsIn_of_wp Tryd.func96 rfl trivial ?_ rfl
  simp only [Tryd.ntmps96, List.size_toArray, List.length_cons, List.length_nil, Nat.reduceAdd, Nat.reduceSub, Array.replicate_succ, Array.replicate_zero, List.push_toArray, List.append_toArray, List.nil_append, List.cons_append]
  have HR := hide hr
  obtain ⟨ao, cap, rfl, -, -⟩ := hr.shape
  clear hr
  have HB := hide hb
  have HY := hide hY
  have HJA := hide hJ
  clear hb hY hJ
  gi_wp2
  gi_loopw [7] (fun i wr => ∃ k : Nat, k ≤ zs.length ∧ i = .int .i64 k ∧ Hid (J (zs.take k) wr) ∧ Hid (Keep (fun k => n0 ≤ k ∧ k < n1) W wr)) (fun i _ => zs.length - (intOf i).toNat)
  case atStart => exact ⟨0, Nat.zero_le _, rfl, h0, Keep.refl _ _⟩
  case round =>
    obtain ⟨k, hk, rfl, HJ, HK⟩ := hrel
    by_cases hlt : k < zs.length
    · obtain ⟨a, cap', e, -, hcs0⟩ := (HK.out.rd HR.out HB.out).shape
      obtain ⟨b, off, rfl, hcs⟩ := hcs0 (by omega)
      cases e
      obtain ⟨hx0, hx1⟩ := fl_cells wr b off (zs.map f) hcs k (by simpa using hlt)
      simp only [List.getElem_map] at hx0 hx1
      obtain ⟨fn, tmps, assign, body, hy, hR⟩ := HY.out _ zs[k] (wr.alloc (.cells #[.string (f zs[k]).path, .string (f zs[k]).data] 68)) (HJA.out _ _ _ HJ.out) (by simp; omega)
      unfold flV at hy
      clear hcs hcs0
      gi_wp2
      refine hR.mono ?_
      rintro e W3 (⟨rfl, hJ3, hk3⟩ | ⟨rfl, hJx3⟩)
      · gi_wp2
        go_roundw
        case rel => exact ⟨k + 1, by omega, by simp, by rw [take_succ_get zs k hlt]; exact hJ3, keep_t (keep_t HK.out (Keep.of_chg (Chg.alloc (fun _ => False) wr _) (fun _ _ h => h))) hk3⟩
        case measure => simp [intOf]; omega
      · gi_wp2
        refine bodyPost_ret (results_none rfl _ _ _) rfl ?_
        exact ⟨⟨_, rfl⟩, .inr ⟨_, by rw [← take_succ_get zs k hlt]; exact List.take_prefix _ _, hJx3⟩⟩
    · obtain rfl : k = zs.length := by omega
      gi_wp2
      go_end0
      exact ⟨⟨_, rfl⟩, .inl ⟨_, rfl, by simpa using HJ.out⟩⟩
theorem seqF_stops (n0 n1 B : Nat) (zs : List Fl) (hreach : zs.length * 32 ≤ 140737488351232) (w : World) (hn : n1 ≤ w.heap.size) (h : SeqAt n0 n1 w B zs.length (flat fl_enc zs)) :
    SeqStopsK Fence.wide 8 Tryd.prog 96 #[.pointer (some ⟨B, 0, none⟩)] (fun x : {x // x ∈ zs} => #[flV x.1]) (Keep (fun k => n0 ≤ k ∧ k < n1)) (fun ys => ys = zs.attach) (fun pre => pre <+: zs.attach) zs.length w := by
  intro l J Jx W hW hJ _ hY h0
  obtain ⟨h1, h2, v, hc, hr, hb⟩ := h.chg (Chg.of_below hW) (fun k _ h2 h3 => by omega)
  refine (seqF_go (fun x : {x // x ∈ zs} => x.1) l B n0 n1 v zs.attach (by simpa using hreach) J Jx (fun s A o h => hJ s A _ none h (World.grownBy_alloc A o none) (fun r e => by cases e)) (by simpa using hY) W h1 h2 hc (by simpa using hr) hb h0)
/-- seq.Of at files. -/
theorem seqF_of (w : World) (va : Value) (xs : List Fl) (ha : Rd w va xs.length (flat fl_enc xs)) (hm : xs.length * 32 ≤ 140737488351232) :
    Calls Tryd.prog 67 #[va] w fun e w' => ∃ B, e = .returned (.func (.func 96) #[] #[.pointer (some ⟨B, 0, none⟩)]) ∧ SeqAt w.heap.size w'.heap.size w' B xs.length (flat fl_enc xs) ∧ Below w.heap.size w w' := by
  obtain ⟨ao, cap, rfl, -, -⟩ := ha.shape
  have HA := hide ha
  clear ha
  go_enter Tryd.func67, Tryd.ntmps67
  go_wp2_with fail
  refine (Clone_fl w _ xs.length (flat fl_enc xs) HA.out (flat_length fl_len xs) (fun u hu => by obtain ⟨x, _, hu⟩ := List.mem_flatMap.1 hu; exact fl_one x u hu) (by omega)).mono ?_
  rintro e w1 ⟨ao1, cap1, rfl, ho, hb, -⟩
  have HO := hide ho
  have HB := hide hb
  clear ho hb
  go_wp2_with fail
  refine (seqF_values w1 _ _ _).mono ?_
  rintro e w2 ⟨rfl, rfl⟩
  go_wp2_with fail
  go_ret
  refine ⟨_, rfl, ⟨HB.out.size, by simp, _, cell_of_heap (heap_alloc_new w1 _) 0, (Rd.of_owns HO.out).chg (Chg.alloc (fun _ => False) w1 _) (fun _ _ _ h => h), fun k hk => ?_⟩, HB.out.alloc HB.out.size _⟩
  have := ownsRow_lt HO.out k hk
  simp
  omega
end Go.Proofs.YtjmmmpnpkialjaaDoor
