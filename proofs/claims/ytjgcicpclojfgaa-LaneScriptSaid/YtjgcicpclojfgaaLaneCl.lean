/- Lanes: Close. Conditions: none. -/
import Derived.Test.YtjgcicpclojfgaaLaneK
import Derived.Deep.RegionHeld3
namespace Go.Proofs.Ytjgcicpclojfgaa
open Go.RowKit Go.Shelf

def byN (n : Int) (e : En) : Bool := e.number == n
theorem close_pred (B : Nat) (n : Int) : pe_Pred 70 #[.pointer (some ⟨B, 0, none⟩)] (byN n) (fun W => W.heap[B]? = some (.cells #[.int .i64 n] 3 (0, 0))) := by
  refine ⟨enters_of Try.func70 (by kernel_rfl) rfl, fun W x hB => ?_⟩
  have hb := cell_of_heap hB 0
  have hbl := (Array.getElem?_eq_some_iff.1 hB).1
  clear hB
  go_enter Try.func70, Try.ntmps70
  go_wp2
  go_ret
  exact ⟨rfl, (Below.refl _ W).alloc (Nat.le_refl _) _⟩

section
variable {base : Nat} {lp : Nat} {pend lanes : Int} {aa : Option Addr} {acap : Nat} {all : List En} {p : Nat} {ao : Option Addr} {cap : Nat} {wt : List En}
def LClosed (base : Nat) (w : World) (lp : Nat) (pend lanes : Int) (aa : Option Addr) (p : Nat) (ao : Option Addr) (all wt : List En) (w' : World) : Prop := LGrew base w lp pend lanes aa p ao all wt w'
theorem LGrew.alloc {w w' : World} (h : LGrew base w lp pend lanes aa p ao all wt w') (o : Obj) : LGrew base w lp pend lanes aa p ao all wt (w'.alloc o) := by
  obtain ⟨aa', acap', p', ao', cap', h1, h2, h3⟩ := h
  exact ⟨aa', acap', p', ao', cap', h1.chg (Chg.alloc (fun _ => False) w' o) (fun _ _ h => h), h2.trans (Chg.alloc (fun _ => False) w' o) (fun _ _ h => h) (fun _ _ h => h.elim), h3⟩
theorem LGrew.drew {w w' : World} (h : LGrew base w lp pend lanes aa p ao all wt w') : LGrew base w lp pend lanes aa p ao all wt w'.drew := by
  obtain ⟨aa', acap', p', ao', cap', h1, h2, h3⟩ := h
  exact ⟨aa', acap', p', ao', cap', h1.chg (Chg.drew (fun _ => False) w') (fun _ _ h => h), h2.trans (Chg.drew (fun _ => False) w') (fun _ _ h => h) (fun _ _ h => h.elim), h3⟩
theorem LGrew.refl {w : World} (h : LaneAt base w lp pend lanes aa acap all p ao cap wt) : LGrew base w lp pend lanes aa p ao all wt w := ⟨aa, acap, p, ao, cap, h, Chg.refl _ _, fun _ h => .inl h⟩
theorem lane_Close_7 (w : World) (n : Int) (h : LaneAt base w lp pend lanes aa acap all p ao cap wt) :
    Calls Try.prog 41 #[.pointer (some ⟨lp, 0, none⟩), .int .i64 n, .int .i64 7] w fun e w' => e = .returned (.bool false) ∧ LGrew base w lp pend lanes aa p ao all wt w' := by
  have H := hide h
  clear h
  go_enter Try.func41, Try.ntmps41
  go_wp2
  go_ret
  exact ⟨rfl, (LGrew.refl H.out).alloc _⟩
set_option maxHeartbeats 2000000 in
set_option maxRecDepth 100000 in
theorem lane_Close_no (w : World) (n code : Int) (h : LaneAt base w lp pend lanes aa acap all p ao cap wt) (hc : code ≠ 7) (hno : wt.any (byN n) = false) :
    Calls Try.prog 41 #[.pointer (some ⟨lp, 0, none⟩), .int .i64 n, .int .i64 code] w fun e w' => e = .returned (.bool false) ∧ LGrew base w lp pend lanes aa p ao all wt w' := by
  have hcb : (code == 7) = false := by simp [hc]
  have h' := h.chg (Chg.alloc (fun _ => False) w (.cells #[.int .i64 n] 3)) (fun _ _ h => h)
  have hf : (wt.filter fun x => !byN n x) = wt := by
    rw [List.filter_eq_self]; intro x hx; have := List.any_eq_false.1 hno x hx; simpa using this
  have hr := pe_Remove (base := base) (w.alloc (.cells #[.int .i64 n] 3)) p 67 ao cap wt h'.pile 70 #[.pointer (some ⟨w.heap.size, 0, none⟩)] (byN n) _ (close_pred w.heap.size n)
    (fun W W' hq hc => hc.heap hq (fun hk => by have := (PileAt.lt h.pile _ hk).2; omega)) (heap_alloc_new w _)
  rw [hf, Int.sub_self] at hr
  have HR := hide hr
  have H' := hide h'
  have H := hide h
  have h3 := cell_of_heap h'.box 3
  have hl := (h'.lt lp (.inl rfl)).2
  have hlw := (h.lt lp (.inl rfl)).2
  have h3w := cell_of_heap h.box 3
  clear h h' hc hno hf hr
  go_enter Try.func41, Try.ntmps41
  go_wp2_with fail
  refine HR.out.mono ?_
  rintro e w1 ⟨rfl, hg⟩
  have HG := hide hg
  clear hg
  go_wp2_with fail
  go_ret
  exact ⟨rfl, lgrew_trans ((Chg.alloc (fun _ => False) w (.cells #[.int .i64 n] 3)).mono (fun _ _ h => h.elim)) (fun _ h => .inl h) (lane_put H'.out HG.out)⟩

def setCode : List En → Nat → Int → List En
  | [], _, _ => []
  | e :: l, 0, c => { e with code := c } :: l
  | e :: l, m + 1, c => e :: setCode l m c
theorem setCode_length (code : Int) : ∀ (all : List En) (m : Nat), (setCode all m code).length = all.length
  | [], _ => rfl
  | _ :: _, 0 => rfl
  | _ :: l, m + 1 => congrArg (· + 1) (setCode_length code l m)
theorem flat_code (code : Int) : ∀ (all : List En) (m : Nat), (flat pe_enc all).set (m * 4 + 3) (.int .i64 code) = flat pe_enc (setCode all m code)
  | [], _ => by simp [flat, setCode]
  | x :: l, 0 => by rw [flat_cons, setCode, flat_cons]; rfl
  | x :: l, m + 1 => by
    rw [flat_cons, setCode, flat_cons, ← flat_code code l m, show (m + 1) * 4 + 3 = (m * 4 + 3) + 4 by omega]
    rfl
/-- Behind l.all[n-1].Code = code. -/
theorem lane_code {w : World} (h : LaneAt base w lp pend lanes aa acap all p ao cap wt) (m : Nat) (code : Int) (hm : m < all.length) : ∃ b, aa = some ⟨b, 0, none⟩ ∧ (∃ v, w.cell? ⟨b, m * 4 + 3, none⟩ = some v) ∧ w.frozen? ⟨b, m * 4 + 3, none⟩ = false ∧ b < w.heap.size ∧ all.length ≤ acap ∧
    LGrew base w lp pend lanes aa p ao (setCode all m code) wt (w.setCell ⟨b, m * 4 + 3, none⟩ (.int .i64 code)) := by
  obtain ⟨hlen, ⟨e1, hn⟩ | ⟨g, cap', cur, e1, hbg, hg, hcs, hcp, hsz, htk⟩⟩ := h.own
  · omega
  · cases e1
    have hne : lp ≠ g := fun e => h.notr (by rw [e]; rfl)
    have c1 := Chg.setCell w ⟨g, m * 4 + 3, none⟩ (.int .i64 code)
    have hgp : ¬ PSet p ao g := h.far g rfl
    refine ⟨g, rfl, cell_some hg _ (by rw [hsz]; omega), free_of_heap hg _, (Array.getElem?_eq_some_iff.1 hg).1, hcs, _, _, _, _, _, ⟨by rw [setCode_length]; exact c1.heap h.box hne, h.low, ⟨?_, .inr ⟨g, acap, _, rfl, hbg, heap_setCell_same hg _, by rw [setCode_length]; exact hcs, hcp, ?_, ?_⟩⟩, PileAt.chg h.pile c1 (fun k hk e => by subst e; exact hgp hk), fun k hk => h.far k (own_slice (some ⟨g, 0, none⟩) _ _ _ _ ▸ hk), by rw [setCode_length]; exact h.few⟩, c1.mono (fun k _ e => .inr (.inl (by rw [e]; rfl))), fun k hk => .inl hk⟩
    · rw [flat_length pe_len]
    · simp [hsz]
    · rw [setCode_length, ← flat_code, ← htk, Array.toList_setIfInBounds, List.take_set]
set_option maxHeartbeats 2000000 in
set_option maxRecDepth 100000 in
theorem lane_Close (w : World) (m : Nat) (code : Int) (h : LaneAt base w lp pend lanes aa acap all p ao cap wt) (hc : code ≠ 7) (hm : m < all.length) (hy : wt.any (byN (m + 1)) = true) :
    Calls Try.prog 41 #[.pointer (some ⟨lp, 0, none⟩), .int .i64 (m + 1), .int .i64 code] w fun e w' => e = .returned (.bool true) ∧ LGrew base w lp pend lanes aa p ao (setCode all m code) (wt.filter fun x => !byN (m + 1) x) w' := by
  have hcb : (code == 7) = false := by simp [hc]
  have h' := h.chg (Chg.alloc (fun _ => False) w (.cells #[.int .i64 (m + 1)] 3)) (fun _ _ h => h)
  have hr := pe_Remove (base := base) (w.alloc (.cells #[.int .i64 (m + 1)] 3)) p 67 ao cap wt h'.pile 70 #[.pointer (some ⟨w.heap.size, 0, none⟩)] (byN (m + 1)) _ (close_pred w.heap.size (m + 1))
    (fun W W' hq hc => hc.heap hq (fun hk => by have := (PileAt.lt h.pile _ hk).2; omega)) (heap_alloc_new w _)
  have hlt : (wt.filter fun x => !byN (m + 1) x).length < wt.length := by
    obtain ⟨x, hx, hxn⟩ := List.any_eq_true.1 hy
    exact List.length_filter_lt_length_iff_exists.2 ⟨x, hx, by simp [hxn]⟩
  obtain ⟨wt', hwt⟩ : ∃ wt', wt' = wt.filter fun x => !byN (m + 1) x := ⟨_, rfl⟩
  rw [← hwt] at hr hlt ⊢
  obtain ⟨d, hd⟩ : ∃ d : Int, d = (wt.length : Int) - wt'.length := ⟨_, rfl⟩
  rw [← hd] at hr
  have hd0 : (d == 0) = false := by simp; omega
  have hml := h.few
  have a1 : IntKind.i64.wrap (m : Int) = m := IntWalk.i64_in _ (by omega)
  have a2 : IntKind.i64.wrap ((m : Int) + 1 - 1) = m := by rw [Int.add_sub_cancel]; exact a1
  have HR := hide hr
  have H' := hide h'
  have H := hide h
  have h3 := cell_of_heap h'.box 3
  have hl := (h'.lt lp (.inl rfl)).2
  have hlw := (h.lt lp (.inl rfl)).2
  have h3w := cell_of_heap h.box 3
  have HM : Hid (m < all.length) := hm
  clear h h' hc hy hr hd hwt hlt hml hm
  go_enter Try.func41, Try.ntmps41
  go_wp2_with fail
  refine HR.out.mono ?_
  rintro e w1 ⟨rfl, hg⟩
  obtain ⟨aa1, acap1, p1, ao1, cap1, h1, hc1, hs1⟩ := lane_put H'.out hg
  obtain ⟨b, rfl, ⟨v0, hv0⟩, hf0, hbl, hac, hg2⟩ := lane_code h1 m code HM.out
  have hbx := hc1.heap (heap_alloc_new w (.cells #[.int .i64 (m + 1)] 3)) (fun hk => by have := (H.out.lt _ hk).2; omega)
  have hbv := cell_of_heap hbx 0
  have hbxl := (Array.getElem?_eq_some_iff.1 hbx).1
  have k2 := cell_of_heap h1.box 2
  have hlp1 := (h1.lt lp (.inl rfl)).2
  have HC1 := hide hc1
  have HS1 := hide hs1
  have HG2 := hide hg2
  have hm := HM.out
  clear hg h1 hc1 hs1 hg2 hbx
  go_wp2_with fail
  go_region
  all_goals
    go_wp2_with fail
    go_ret
    refine ⟨rfl, lgrew_trans (w1 := w1) (aa1 := some ⟨b, 0, none⟩) (p1 := p1) (ao1 := ao1) ((Chg.alloc (fun _ => False) w _).trans HC1.out (fun _ _ h => h.elim) (fun _ _ h => h)) (fun k hk => ?_) HG2.out.drew⟩
    rcases HS1.out k hk with h | h
    · exact .inl h
    · simp at h; exact .inr (by omega)
end
end Go.Proofs.Ytjgcicpclojfgaa
