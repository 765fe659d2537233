/- repo.All: what it gives, what it promises. Conditions: none. -/
import Derived.Test.YtnnkbicaokckbaaDoorSeqC
import Derived.Test.YtnnkbicaokckbaaDoorIterE
import Derived.Test.YtnnkbicaokckbaaDoorRpA
namespace Go.Proofs.YtnnkbicaokckbaaDoor
open Go.RowKit Go.Shelf
attribute [local go_sem] Oper.semAt_some

variable {base : Nat} {w : World} {p : Nat} {ao : Option Addr} {cap : Nat} {l : List CmV} {room : Int}
theorem repo_All (w : World) (v : Value) (hv : ∃ a, v = .pointer a) : Calls Tryd.prog 67 #[v] w fun e w' => e = .returned (.func (.func 100) #[] #[.pointer (some ⟨w.heap.size, 0, none⟩)]) ∧ w'.cell? ⟨w.heap.size, 0, none⟩ = some v ∧ w'.heap.size = w.heap.size + 1 ∧ Below w.heap.size w w' := by
  obtain ⟨a, rfl⟩ := hv
  have hb := (Below.refl w.heap.size w).alloc (Nat.le_refl _) (.cells #[.pointer a] 25)
  have h1 := heap_alloc_new w (.cells #[.pointer a] 25)
  have hs : (w.alloc (.cells #[.pointer a] 25)).heap.size = w.heap.size + 1 := World.size_alloc _ _
  generalize hw1 : w.alloc (.cells #[.pointer a] 25) = w1 at hb h1 hs
  have HW1 := hide hw1
  have HH := hide (And.intro h1 (And.intro hs hb))
  clear hw1 hb h1 hs
  go_enter Tryd.func67, Tryd.ntmps67
  go_wp2_with (rw [HW1.out])
  go_ret
  obtain ⟨g1, g2, g3⟩ := HH.out
  exact ⟨rfl, cell_of_heap g1 0, g2, g3⟩
theorem val_eq (x : CmV) : x.val = .agg #[x.vp, x.vt, .string x.c.note] := rfl
/-- How a commit is told: its number, and the commit in rows that are no more the iterator's. -/
def CmTold (l : List CmV) (n0 : Nat) (D : Nat → Prop) (k : Nat) (args : Array Value) (W : World) : Prop :=
  ∃ (h : k < l.length) (vp vt : Value), args = #[.int .i64 (1 + (k : Int)), CmV.val ⟨l[k].c, vp, vt⟩] ∧ Own W n0 ⟨l[k].c, vp, vt⟩ ∧ ∀ b, (vp.ownBlock = some b ∨ vt.ownBlock = some b) → ¬ D b
set_option maxRecDepth 100000 in
set_option maxHeartbeats 4000000 in
theorem rp_all_seqe (w : World) (B : Nat) (h : RepoAt base w p ao cap l room) (hB : w.cell? ⟨B, 0, none⟩ = some (.pointer (some ⟨p, 0, none⟩))) :
    SeqE Fence.wide 8 Tryd.prog 100 #[.pointer (some ⟨B, 0, none⟩)] (CmTold l w.heap.size) (fun k => k = B ∨ RB p ao l k) (List.range l.length) w := by
  intro ll J Jx W hW hJ hJx hY h0
  have hBl : B < w.heap.size := World.block_lt_of_cell? w _ hB
  have hBW : W.cell? ⟨B, 0, none⟩ = some (.pointer (some ⟨p, 0, none⟩)) := (World.cell?_of_block (hW.2 B hBl (.inl rfl))).trans hB
  have hP : ∀ Wx, Kpt (fun k => k = B ∨ RB p ao l k) w Wx → RepoAt base Wx p ao cap l room := by
    intro Wx hk
    have hown : ∀ (e : TypeId) (size : Nat) (v : Value) (n : Nat) (xs : List Value), w.ownsRow base e size v n xs → (∀ b, v.ownBlock = some b → RB p ao l b) → Wx.ownsRow base e size v n xs := by
      intro e size v n xs ho hr
      refine ⟨ho.1, ?_⟩
      rcases ho.2 with hn | ⟨gg, cap', cur, e1, hb, hgg, rest⟩
      · exact .inl hn
      · exact .inr ⟨gg, cap', cur, e1, hb, hk.heap hgg (.inr (hr gg (by rw [e1]; rfl))), rest⟩
    exact ⟨hk.heap h.box (.inr (.inl (.inl rfl))), hown _ _ _ _ _ h.row (fun b hb => .inl (.inr (by rw [← own_slice]; exact hb))), fun x hx => ⟨hown _ _ _ _ _ (h.cms x hx).ps (fun b hb => .inr ⟨x, hx, .inl hb⟩), hown _ _ _ _ _ (h.cms x hx).ts (fun b hb => .inr ⟨x, hx, .inr hb⟩)⟩, h.may, h.pb, h.len, h.room0⟩
  have HP := hide hP
  have HW := hide hW
  have hn := h.len
  have HJ := hide hJ
  have HJx := hide hJx
  have HY := hide hY
  have H0 := hide h0
  have HRL : Hid (∀ k, (k = B ∨ RB p ao l k) → k < W.heap.size) := hide (fun k hk => Nat.lt_of_lt_of_le (hk.elim (fun e => e ▸ hBl) (fun hr => (h.rbl hr).2)) hW.1)
  have HBC := hide (fun Wx (hk : Kpt (fun k => k = B ∨ RB p ao l k) w Wx) => (World.cell?_of_block (hk.2 B hBl (.inl rfl))).trans hB)
  have hBl2 : B < W.heap.size := Nat.lt_of_lt_of_le hBl hW.1
  have HCNT := fun Wx => hide (seq_Count Wx 1 ((l.length : Int) + 1))
  clear hJ hJx hY h0 hP hB h hW hBl
  refine callsIn_wide.2 ((callsIn_wide (n := 9)).1 ?_)
  refine callsIn_of_wp_marks Tryd.func100 rfl trivial ?_ rfl
  simp only [Tryd.ntmps100, List.size_toArray, List.length_cons, List.length_nil, Nat.reduceAdd, Nat.reduceSub, Array.replicate_succ, Array.replicate_zero, List.push_toArray, List.append_toArray, List.nil_append, List.cons_append]
  gi_wp2_with (first
    | (refine ⟨trivial, ?_⟩; gi_at_call 20; refine (callsIn_wide.2 (repo_Len (HP.out _ (HW.out.trans (Kpt.of_chg (Chg.alloc (fun _ => False) W _) (fun _ _ _ h => h)))))).mono ?_; rintro e w2 ⟨rfl, rfl⟩)
    | (refine ⟨trivial, ?_⟩; gi_at_call 76; refine (callsIn_wide.2 (HCNT _).out).mono ?_; rintro e w2 ⟨rfl, hs1, hs2, hsz2, hb2⟩; have HS2 := hide (And.intro hs1 hs2); have HZ2 := hide hsz2; have HB2 := hide hb2; clear hs1 hs2 hsz2 hb2))
  have hzA : (W.alloc (.cells #[.func (.yield ll) #[] #[]] 112)).heap.size = W.heap.size + 1 := World.size_alloc _ _
  have hbox : w2.heap[W.heap.size]? = some (.cells #[.func (.yield ll) #[] #[]] 112) := (Chg.of_below0 (S := fun _ => False) HB2.out).heap (heap_alloc_new W _) (fun h => h)
  have hc02 : Chg (fun _ => False) W w2 := (Chg.alloc (fun _ => False) W _).trans (Chg.of_below0 HB2.out) (fun _ _ h => h) (fun _ _ h => h)
  obtain ⟨hs1, hs2⟩ := HS2.out
  have hz2 := HZ2.out
  rw [hzA] at hs1 hs2 hz2
  have HZ := hide hz2
  have HBX := hide hbox
  have HC02 := hide hc02
  have HCS := hide (count_seqd (W.heap.size + 1) (W.heap.size + 1 + 1) 1 ((l.length : Int) + 1) l.length w2 (by omega) (by omega) (by omega) hs1 hs2)
  clear hbox hc02 hzA HS2 HZ2 HB2 hs1 hs2 hBW HCNT
  refine wpIn_range_plain (α := Nat) rfl (by omega) (gf := 105) (lb := #[.pointer (some ⟨W.heap.size + 1, 0, none⟩), .pointer (some ⟨W.heap.size + 1 + 1, 0, none⟩)]) rfl trivial (enters_of Tryd.func105 (by kernel_rfl) rfl)
    HCS.out (Kpt.refl _ _) (fun k hk => by omega) (fun _ => rfl) (fun x t => t.setIfInBounds 3 (.int .i64 (1 + (x : Int))))
    (fun D' pre Wr => ∃ D, J D pre Wr ∧ (∀ k, D' k → D k ∧ w2.heap.size ≤ k) ∧ (∀ k, W.heap.size ≤ k → k < w2.heap.size + 2 → D k) ∧ Wr.heap[W.heap.size]? = some (.cells #[.func (.yield ll) #[] #[]] 112) ∧ w2.heap.size + 2 ≤ Wr.heap.size ∧ (∀ k, D k → W.heap.size ≤ k ∧ k < Wr.heap.size) ∧ Kpt (fun k => k = B ∨ RB p ao l k) W Wr)
    (fun c D' pre Wr => c = .ret ∧ ∃ D, Jx D pre Wr ∧ (∀ k, D' k → D k) ∧ (∀ k, W.heap.size ≤ k → k < w2.heap.size + 2 → D k)) ?hI ?hIx ?h0 ?assign ?body ?done ?stop
  case hI =>
    rintro D' s A A' S ⟨D, hj, hd, hnew, hb, hsz, hdl, hkp⟩ hc hS
    have hsub : ∀ k, k < A.heap.size → S k → D k := fun k hk hs => (hS k hk hs).elim (fun h => (hd k h).1) (fun h => hnew k (by omega) (by omega))
    refine ⟨_, HJ.out D s A A' S _ hj hc hsub (fun _ h => .inl h) (fun _ h => h), ?_, fun k h1 h2 => .inl (hnew k h1 h2), hc.heap hb (fun h => ?_), Nat.le_trans hsz hc.size, ?_, ?_⟩
    · rintro k (h | h)
      · exact ⟨.inl (hd k h).1, (hd k h).2⟩
      · exact ⟨.inr h, by omega⟩
    · rcases hS _ (by omega) h with h1 | h1
      · have := (hd _ h1).2; omega
      · omega
    · rintro k (h | h)
      · exact ⟨(hdl k h).1, Nat.lt_of_lt_of_le (hdl k h).2 hc.size⟩
      · exact ⟨by omega, h.2⟩
    · refine hkp.trans (Kpt.of_chg hc (fun k hk hr hs => ?_))
      have := HRL.out k hr
      rcases hS k hk hs with h1 | h1
      · have := (hd k h1).2; omega
      · omega
  case hIx =>
    rintro c D' s A A' S ⟨rfl, D, hj, hd, hnew⟩ hc hS
    have hsub : ∀ k, k < A.heap.size → S k → D k := fun k hk hs => (hS k hk hs).elim (fun h => hd k h) (fun h => hnew k (by omega) (by omega))
    refine ⟨rfl, _, HJx.out D s A A' S _ hj hc hsub (fun _ h => .inl h) (fun _ h => h), ?_, fun k h1 h2 => .inl (hnew k h1 h2)⟩
    rintro k (h | h)
    · exact .inl (hd k h)
    · exact .inr h
  case h0 =>
    intro W' hc' hz'
    have hc0 := HC02.out.trans hc' (S'' := fun _ => False) (fun _ _ h => h) (fun _ _ h => h)
    refine ⟨_, HJ.out _ [] W W' _ _ H0.out hc0 (fun _ _ h => h.elim) (fun _ h => .inl h) (fun _ h => h), fun _ h => h.elim, fun k h1 h2 => .inr ⟨h1, by omega⟩, hc'.heap HBX.out (fun h => h), by omega, ?_, Kpt.of_chg hc0 (fun _ _ _ h => h)⟩
    rintro k (h | h)
    · exact h.elim
    · exact h
  case assign =>
    intro lr x W1 K hK
    simp only [told_one] at hK ⊢
    gi_wp2
    exact hK
  case body =>
    rintro lr D' pre k W1 hlr ⟨D, hj, hd, hnew, hb, hsz, hdl, hkp⟩ hpre hnd hnd1 hnc hnc1
    have hkl : k < l.length := by have := hpre.subset (show k ∈ pre ++ [k] by simp); simpa using this
    have hat := HP.out W1 (HW.out.trans hkp)
    have hcb := cell_of_heap hb 0
    have hbb := HBC.out W1 (HW.out.trans hkp)
    have hget := repo_Get hat (1 + (k : Int)) k hkl (by omega)
    obtain ⟨xc, hxc⟩ : ∃ xc, xc = l[k].c := ⟨_, rfl⟩
    rw [← hxc] at hget
    have HGET := hide hget
    have HXC : Hid (∃ h : k < l.length, l[k].c = xc) := hide ⟨hkl, hxc.symm⟩
    have HJ1 := hide hj
    have HD := hide hd
    have HNEW := hide hnew
    have HB1 := hide hb
    have HDL := hide hdl
    have HPRE := hide hpre
    have HKP := hide hkp
    have hk1 : k ≤ 1000 := by omega
    clear hj hd hnew hb hdl hkp hpre hnd hnd1 hnc hnc1 hat hget hxc hkl
    simp only [told_one]
    gi_wp2_with fail
    refine ⟨trivial, ?_⟩
    gi_at_call 25
    refine (CallsIn.inRound lr (callsIn_wide.2 HGET.out)).mono ?_
    rintro e W3 ⟨vp, vt, rfl, hown3, hb3⟩
    have hps : W3.ownsRow _ _ _ vp xc.parents.length _ := hown3.ps
    have hts : W3.ownsRow _ _ _ vt xc.tree.length _ := hown3.ts
    obtain ⟨aop, cap1, rfl⟩ := ownsRow_shape hps
    obtain ⟨aot, cap2, rfl⟩ := ownsRow_shape hts
    have hc3 := Chg.of_below0 (S := fun _ => False) hb3
    have hcb3 := hc3.cell hcb (fun h => h)
    have hc4 := hc3.trans (Chg.alloc (fun _ => False) W3 (.cells #[.slice aop xc.parents.length cap1, .slice aot xc.tree.length cap2, .string xc.note] 33)) (S'' := fun _ => False) (fun _ _ h => h) (fun _ _ h => h)
    have hown4 := hown3.chg (Chg.alloc (fun _ => False) W3 (.cells #[.slice aop xc.parents.length cap1, .slice aot xc.tree.length cap2, .string xc.note] 33)) (fun _ _ _ h => h)
    have hcb4 := hc4.cell hcb (fun h => h)
    simp only [val_eq]
    have hn4 := heap_alloc_new W3 (.cells #[.slice aop xc.parents.length cap1, .slice aot xc.tree.length cap2, .string xc.note] 33)
    generalize hw4 : W3.alloc (.cells #[.slice aop xc.parents.length cap1, .slice aot xc.tree.length cap2, .string xc.note] 33) = W4 at hc4 hown4 hcb4 hn4
    have q0 := cell_of_heap hn4 0
    have q1 := cell_of_heap hn4 1
    have q2 := cell_of_heap hn4 2
    simp at q0 q1 q2
    have HW4 := hide hw4
    let D2 : Nat → Prop := fun b => D b ∨ (W1.heap.size ≤ b ∧ b < W4.heap.size ∧ ¬ ((Value.slice aop xc.parents.length cap1).ownBlock = some b ∨ (Value.slice aot xc.tree.length cap2).ownBlock = some b))
    have hj4 : J D2 pre W4 := HJ.out D pre W1 W4 _ D2 HJ1.out hc4 (fun _ _ h => h.elim) (fun _ h => .inl h) (fun b h => h.elim .inl (fun h => .inr ⟨h.1, h.2.1⟩))
    have hct : CmTold l w.heap.size D2 k #[.int .i64 (1 + (k : Int)), .agg #[.slice aop xc.parents.length cap1, .slice aot xc.tree.length cap2, .string xc.note]] W4 := by
      obtain ⟨h1, h2⟩ := HXC.out
      subst h2
      refine ⟨h1, _, _, rfl, hown4.base (by have := HW.out.1; omega), fun b hb hD => ?_⟩
      rcases hD with hD | hD
      · have h3 := (HDL.out b hD).2
        rcases hb with hb | hb
        · have := (ownsRow_lt hown3.ps b hb).1; omega
        · have := (ownsRow_lt hown3.ts b hb).1; omega
      · exact hD.2.2 hb
    obtain ⟨fn, tmps, assign, body, hy, hR⟩ := YieldAt.any rfl 6 (HY.out D2 pre k _ W4 hj4 hct HPRE.out)
    have HR := hide hR
    have HC4 := hide hc4
    have HD2 : Hid (∀ b, D b → D2 b) := hide (fun b h => .inl h)
    have HD3 : Hid (∀ b, D2 b → W.heap.size ≤ b ∧ b < W4.heap.size) := hide (fun b h => by
      rcases h with h | h
      · have := HDL.out b h; exact ⟨this.1, Nat.lt_of_lt_of_le this.2 hc4.size⟩
      · have := h.1; exact ⟨by omega, h.2.1⟩)
    clear hps hts hown3 hb3 hc3 hcb hbb hc4 hown4 hw4 hj4 hct hR hn4
    clear_value D2
    gi_wp2_with (rw [HW4.out])
    refine HR.out.mono ?_
    rintro e W5 (⟨rfl, hj5, hk5⟩ | ⟨rfl, hx5, hk5⟩)
    · have HJ5 := hide hj5
      have HK5 := hide hk5
      clear hj5 hk5
      gi_wp2
      refine ⟨(Kpt.of_chg HC4.out (fun _ _ _ h => h)).trans (HK5.out.mono (fun b h => .inr ?_)), D2, HJ5.out, fun b h => ⟨HD2.out b (HD.out b h).1, (HD.out b h).2⟩, fun b h1 h2 => HD2.out b (HNEW.out b h1 h2), HK5.out.heap (HC4.out.heap HB1.out (fun h => h)) (.inr (HD2.out _ (HNEW.out _ (Nat.le_refl _) (by omega)))), ?_, fun b h => ⟨(HD3.out b h).1, Nat.lt_of_lt_of_le (HD3.out b h).2 HK5.out.1⟩, ?_⟩
      · rcases h with h | h | h | h
        · exact HD2.out b (HNEW.out b (by omega) (by omega))
        · exact HD2.out b (HD.out b h).1
        · exact HD2.out b (HNEW.out b (by omega) (by omega))
        · exact HD2.out b (HNEW.out b (by omega) (by omega))
      · have := HC4.out.size; have := HK5.out.1; omega
      · exact (HKP.out.trans (Kpt.of_chg HC4.out (fun _ _ _ h => h))).trans (HK5.out.mono (fun b h => .inl h))
    · have HX5 := hide hx5
      have HK5 := hide hk5
      clear hx5 hk5
      gi_wp2
      refine ⟨(Kpt.of_chg HC4.out (fun _ _ _ h => h)).trans (HK5.out.mono (fun b h => .inr ?_)), rfl, D2, HX5.out, fun b h => HD2.out b (HD.out b h).1, fun b h1 h2 => HD2.out b (HNEW.out b h1 h2)⟩
      rcases h with h | h | h | h
      · exact HD2.out b (HNEW.out b (by omega) (by omega))
      · exact HD2.out b (HD.out b h).1
      · exact HD2.out b (HNEW.out b (by omega) (by omega))
      · exact HD2.out b (HNEW.out b (by omega) (by omega))
  case done =>
    rintro D' Wd ⟨D, hj, hd, hnew, hb, hsz, hdl, hkp⟩ hdef hnd
    have HJ3 := hide hj
    have HNEW := hide hnew
    clear hj hd hnew hb hdl hkp
    gi_wp2
    refine ⟨by simp, .inl ⟨_, _, rfl, run_takeDeferred hdef, ?_⟩⟩
    exact ⟨_, results_none rfl _ _ _, ⟨_, rfl⟩, .inl ⟨_, HJ.out D _ Wd _ _ D HJ3.out (chg_putObj Wd _ _) (fun k _ e => by subst e; exact HNEW.out _ (by omega) (by omega)) (fun _ h => h) (fun _ h => .inl h)⟩⟩
  case stop =>
    rintro D' c pre Wd hpre ⟨rfl, D, hx, hd, hnew⟩ hdef hnd
    have HX3 := hide hx
    have HNEW := hide hnew
    clear hx hd hnew
    gi_wp2
    refine ⟨by simp, .inl ⟨_, _, rfl, run_takeDeferred hdef, ?_⟩⟩
    exact ⟨_, results_none rfl _ _ _, ⟨_, rfl⟩, .inr ⟨_, pre, hpre, HJx.out D pre Wd _ _ D HX3.out (chg_putObj Wd _ _) (fun k _ e => by subst e; exact HNEW.out _ (by omega) (by omega)) (fun _ h => h) (fun _ h => .inl h)⟩⟩
end Go.Proofs.YtnnkbicaokckbaaDoor
