/- Repos: Copy. Conditions: none. -/
import Derived.Test.YtnnkbicaokckbaaDoorRpF
namespace Go.Proofs.YtnnkbicaokckbaaDoor
open Go.RowKit Go.Shelf

variable {base : Nat} {w : World} {p : Nat} {ao : Option Addr} {cap : Nat} {l : List CmV} {room : Int}
/-- One more commit, laid behind the others: what comes of it. -/
theorem RepoAt.push {w0 W8 W9 : World} {yc : Cm} {yp yt : Value} {ao9 : Option Addr} {cap9 : Nat} (h : RepoAt base w0 p ao cap l room) (hSf : Chg (fun _ => False) w0 W8) (hy : Own W8 w0.heap.size ⟨yc, yp, yt⟩) (hmay : mayC yc = true) (hl : l.length < 1000)
    (hown9 : W9.ownsRow base 33 3 (.slice ao9 (l.length + 1) cap9) (l.length + 1) (flat cv_enc l ++ cv_enc ⟨yc, yp, yt⟩)) (hg9 : Chg (fun k => (Value.slice ao l.length cap).ownBlock = some k) W8 W9)
    (hat9 : (Value.slice ao9 (l.length + 1) cap9).ownBlock = (Value.slice ao l.length cap).ownBlock ∨ (Value.slice ao9 (l.length + 1) cap9).ownBlock = some W8.heap.size) :
    RepoAt base (W9.setCell ⟨p, 0, none⟩ (.slice ao9 (l.length + 1) cap9)) p ao9 cap9 (l ++ [⟨yc, yp, yt⟩]) room ∧ (∀ k, RB p ao9 (l ++ [⟨yc, yp, yt⟩]) k → RB p ao l k ∨ w0.heap.size ≤ k) ∧ Chg (RSet p ao) w0 (W9.setCell ⟨p, 0, none⟩ (.slice ao9 (l.length + 1) cap9)) := by
  have h8 := h.same hSf
  have hbox8 := h8.box
  have n1 : ¬ (Value.slice ao l.length cap).ownBlock = some p := ownsRow_ne h8.row hbox8 (by decide)
  have hbox9 := hg9.heap hbox8 n1
  have hs8 := hSf.size
  have hc10 := Chg.setCell W9 ⟨p, 0, none⟩ (.slice ao9 (l.length + 1) cap9)
  have hx10 := heap_setCell_same hbox9 (i := 0) (.slice ao9 (l.length + 1) cap9)
  have hn9 := ownsRow_ne hown9 hbox9 (by decide)
  have hrow10 := hc10.owns hown9 (fun b hb e => hn9 (by rw [hb]; exact congrArg some e))
  have hdis : ∀ (e : TypeId) (size : Nat) (v : Value) (n : Nat) (cs : List Value), W8.ownsRow base e size v n cs → e ≠ 33 → e ≠ 75 → (W9.setCell ⟨p, 0, none⟩ (.slice ao9 (l.length + 1) cap9)).ownsRow base e size v n cs := fun e size v n cs ho h1 h2 => by
    refine hc10.owns (hg9.owns ho (fun b hb hb' => ownsRow_disj ho h8.row h1 b hb hb')) (fun b hb hb' => ?_)
    have hb'' : b = p := hb'
    subst hb''
    exact ownsRow_ne ho hbox8 (fun e => h2 e.symm) hb
  have hcm : ∀ x : CmV, Own W8 base x → Own (W9.setCell ⟨p, 0, none⟩ (.slice ao9 (l.length + 1) cap9)) base x := fun x hx => ⟨hdis _ _ _ _ _ hx.ps (by decide) (by decide), hdis _ _ _ _ _ hx.ts (by decide) (by decide)⟩
  have hb0 := h.pb
  have hb1 := h.plt
  have hyo := hy.base (show base ≤ w0.heap.size by omega)
  refine ⟨⟨?_, ?_, ?_, ?_, h.pb, by simp; omega, h.room0⟩, ?_, ?_⟩
  · rw [List.length_append]; simpa using hx10
  · rw [List.length_append, flat_append]
    exact hrow10
  · intro x hx
    rcases List.mem_append.1 hx with hx | hx
    · exact hcm x (h8.cms x hx)
    · rw [List.mem_singleton.1 hx]
      exact hcm _ hyo
  · intro x hx
    rcases List.mem_append.1 hx with hx | hx
    · exact h.may x hx
    · rw [List.mem_singleton.1 hx]
      exact hmay
  · intro k hk
    rcases hk with (hk | hk) | ⟨x, hx, hk⟩
    · exact .inl (.inl (.inl hk))
    · rcases hat9 with e | e
      · left; left; right
        rw [← hk, ← own_slice ao l.length cap, ← e, own_slice]
      · right
        rw [own_slice] at e
        rw [e] at hk
        have := Option.some.inj hk
        omega
    · rcases List.mem_append.1 hx with hx | hx
      · exact .inl (.inr ⟨x, hx, hk⟩)
      · right
        rw [List.mem_singleton.1 hx] at hk
        rcases hk with hk | hk
        · have := (ownsRow_lt hy.ps k hk).1; omega
        · have := (ownsRow_lt hy.ts k hk).1; omega
  · refine (hSf.mono (S' := RSet p ao) (fun _ _ h => h.elim)).trans (hg9.trans hc10 (S'' := RSet p ao) (fun k _ h => .inr (by rw [← own_slice]; exact h)) (fun k _ h => .inl h)) (fun _ _ h => h) (fun _ _ h => h)

set_option maxRecDepth 100000 in
set_option maxHeartbeats 4000000 in
theorem repo_Copy (h : RepoAt base w p ao cap l room) (n : Int) (hn : -9223372036854775808 ≤ n ∧ n ≤ 9223372036854775807) :
    Calls Tryd.prog 24 #[.pointer (some ⟨p, 0, none⟩), .int .i64 n] w fun e w' => e = .returned (.pointer (some ⟨w.heap.size, 0, none⟩)) ∧ RepoIs w.heap.size w' w.heap.size (cms l) (min (room + min (max n 0) 120) 120) ∧ Below w.heap.size w w' := by
  have h0 := h.c0
  have h1 := h.c1
  have hr0 := h.room0
  have hll := h.len
  have HH := hide h
  have hm1 : min (max (room + min (max n 0) 120) 0) 120 = min (room + min (max n 0) 120) 120 := by omega
  have hrb : -2147483648 ≤ room + min (max n 0) 120 ∧ room + min (max n 0) 120 ≤ 2147483647 := by omega
  have HN := hide (RepoIs.new w (room + min (max n 0) 120) hrb)
  rw [hm1] at HN
  have hmm : 0 ≤ min (max n 0) 120 ∧ min (max n 0) 120 ≤ 120 := by omega
  clear h hm1 hrb
  generalize hmx : min (max n 0) 120 = m at *
  obtain ⟨r2, hr2⟩ : ∃ r2, r2 = min (room + m) 120 := ⟨_, rfl⟩
  rw [← hr2] at HN ⊢
  clear hr2
  go_enter Tryd.func24, Tryd.ntmps24
  go_wp2_with fail
  refine HN.out.mono ?_
  rintro e w2 ⟨rfl, h2, hb2⟩
  have H2 := hide h2
  have HB2 := hide hb2
  have hc2 := Chg.of_below0 (S := fun _ => False) hb2
  have HR2 := hide ((HH.out.same hc2).rd)
  have HCS := hide (HH.out.cms)
  have HMY := hide (HH.out.may)
  have g0 := hc2.cell h0 (fun h => h)
  clear h2 hb2 hc2 h0 h1 HN
  go_wp2_with fail
  clear g0
  go_loopw [24] (fun i wr => ∃ k : Nat, k ≤ l.length ∧ i = .int .i64 k ∧ Hid (∃ ao' cap' l', RepoAt w.heap.size wr w.heap.size ao' cap' l' r2 ∧ cms l' = cms (l.take k)) ∧ Hid (Below w.heap.size w wr)) (fun i _ => l.length - (intOf i).toNat)
  case atStart =>
    obtain ⟨ao', cap', l', h, e⟩ := H2.out
    exact ⟨0, Nat.zero_le _, rfl, ⟨ao', cap', l', h, by rw [e]; rfl⟩, HB2.out⟩
  case round =>
    obtain ⟨k, hk, rfl, HS, HB⟩ := hrel
    by_cases hkl : k < l.length
    · obtain ⟨aq, cq, lq, hat, hlq⟩ := HS.out
      have hql : lq.length = k := by rw [← cms_length, hlq, cms_length, List.length_take]; omega
      have hcw := Chg.of_below0 (S := fun _ => False) HB.out
      obtain ⟨a', c', e, -, hcs0⟩ := (HH.out.same hcw).rd.shape
      obtain ⟨b, off, rfl, hcs⟩ := hcs0 (by omega)
      cases e
      obtain ⟨hx0, hx1, hx2⟩ := cv_cells wr b off l hcs k hkl
      have hxo := ((HCS.out l[k] (List.getElem_mem hkl)).chg hcw (fun _ _ _ h => h)).at
      have HXM := hide (HMY.out l[k] (List.getElem_mem hkl))
      have htk : cms (l.take (k + 1)) = cms (l.take k) ++ [l[k].c] := by
        have := (List.take_append_getElem hkl).symm
        rw [this]; simp only [cms, List.map_append, List.map_cons, List.map_nil]
      have HTK := hide htk
      have HXO := hide hxo
      have HLQ := hide hlq
      have HAT := hide hat
      have hlqb : lq.length < 1000 := by omega
      have HLQB := hide hlqb
      clear hcs hcs0 htk hxo hcw hlq hql hlqb
      generalize l[k] = x at *
      obtain ⟨xc, xp, xt⟩ := x
      simp only at hx0 hx1 hx2
      have hxo := HXO.out
      have hps1 : Rd wr xp xc.parents.length (flat int_enc xc.parents) := hxo.ps
      have hts1 : Rd wr xt xc.tree.length (flat fl_enc xc.tree) := hxo.ts
      obtain ⟨xa, xcap, rfl, -, -⟩ := hps1.shape
      obtain ⟨xa', xcap', rfl, -, -⟩ := hts1.shape
      clear hps1 hts1 hxo
      go_wp2_with fail
      have hal := Chg.alloc (fun _ => False) wr (.cells #[.slice xa xc.parents.length xcap, .slice xa' xc.tree.length xcap', .string xc.note] 33)
      have hb5 := HB.out.alloc HB.out.size (.cells #[.slice xa xc.parents.length xcap, .slice xa' xc.tree.length xcap', .string xc.note] 33)
      have hh5 := heap_alloc_new wr (.cells #[.slice xa xc.parents.length xcap, .slice xa' xc.tree.length xcap', .string xc.note] 33)
      have hat5 := hat.same hal
      have n2 : ¬ (Value.slice aq lq.length cq).ownBlock = some wr.heap.size := fun h => by have := (ownsRow_lt hat.row _ h).2; omega
      have HXO5 := hide (HXO.out.same hal)
      generalize wr.alloc (.cells #[.slice xa xc.parents.length xcap, .slice xa' xc.tree.length xcap', .string xc.note] 33) = w5 at hal hb5 hh5 hat5 HXO5 ⊢
      generalize wr.heap.size = xb at hh5 n2 ⊢
      have z0 : w5.cell? ⟨w.heap.size, 0, none⟩ = some (.slice aq lq.length cq) := hat5.c0
      have z1 : w5.cell? ⟨xb, 0, none⟩ = some (.slice xa xc.parents.length xcap) := cell_of_heap hh5 0
      have z2 : w5.cell? ⟨xb, 1, none⟩ = some (.slice xa' xc.tree.length xcap') := cell_of_heap hh5 1
      have z3 : w5.cell? ⟨xb, 2, none⟩ = some (.string xc.note) := cell_of_heap hh5 2
      have n1 : ¬ (Value.slice aq lq.length cq).ownBlock = some w.heap.size := ownsRow_ne hat5.row hat5.box (by decide)
      have HAT5 := hide hat5
      have HB5 := hide hb5
      have hlqb := HLQB.out
      clear hal hb5 hh5 hat5 hat hx0 hx1 hx2
      refine reg_start (Chg (fun k => (Value.slice aq lq.length cq).ownBlock = some k) w5) 12 11 (by rfl) (by kernel_rfl) (Chg.drew _ _) ?_
      intro hS0
      have hSc := hS0
      refine reg_take (i := 0) (v := ?g2v) rfl (by kernel_rfl) (by kernel_rfl) (by kernel_rfl) (by kernel_rfl) (fun _ _ _ h => h) (by rfl) ?g2y (by assumption) ?g2r
      case g2y => (intro W hS; first | (go_simp; done) | (go_simp; with_reducible rfl))
      simp only [Act.put, List.setIfInBounds_toArray, List.set_cons_zero, List.set_cons_succ]
      refine reg_take (i := 1) (v := ?g3v) rfl (by kernel_rfl) (by kernel_rfl) (by kernel_rfl) (by kernel_rfl) (fun _ _ _ h => h) (by rfl) ?g3y (by assumption) ?g3r
      case g3y => (intro W hS; first | (go_simp; done) | (go_simp; with_reducible rfl))
      simp only [Act.put, List.setIfInBounds_toArray, List.set_cons_zero, List.set_cons_succ]
      refine reg_take (i := 2) (v := ?g4v) rfl (by kernel_rfl) (by kernel_rfl) (by kernel_rfl) (by kernel_rfl) (fun _ _ _ h => h) (by rfl) ?g4y (by assumption) ?g4r
      case g4y => (intro W hS; first | (go_simp; done) | (go_simp; with_reducible rfl))
      simp only [Act.put, List.setIfInBounds_toArray, List.set_cons_zero, List.set_cons_succ]
      refine reg_take (i := 3) (v := ?g5v) rfl (by kernel_rfl) (by kernel_rfl) (by kernel_rfl) (by kernel_rfl) (fun _ _ _ h => h) (by rfl) ?g5y (by assumption) ?g5r
      case g5y => (intro W hS; first | (go_simp; done) | (go_simp; with_reducible rfl))
      simp only [Act.put, List.setIfInBounds_toArray, List.set_cons_zero, List.set_cons_succ]
      refine reg_take (i := 4) (v := ?g6v) rfl (by kernel_rfl) (by kernel_rfl) (by kernel_rfl) (by kernel_rfl) (fun _ _ _ h => h) (by rfl) ?g6y (by assumption) ?g6r
      case g6y => (intro W hS; have f0 := hS.cell z0 n1; have f1 := hS.cell z1 n2; have f2 := hS.cell z2 n2; have f3 := hS.cell z3 n2; first | (go_simp; done) | (go_simp; with_reducible rfl))
      simp only [Act.put, List.setIfInBounds_toArray, List.set_cons_zero, List.set_cons_succ]
      refine reg_take (i := 5) (v := ?g7v) rfl (by kernel_rfl) (by kernel_rfl) (by kernel_rfl) (by kernel_rfl) (fun _ _ _ h => h) (by rfl) ?g7y (by assumption) ?g7r
      case g7y => (intro W hS; have f0 := hS.cell z0 n1; have f1 := hS.cell z1 n2; have f2 := hS.cell z2 n2; have f3 := hS.cell z3 n2; first | (go_simp; done) | (go_simp; with_reducible rfl))
      simp only [Act.put, List.setIfInBounds_toArray, List.set_cons_zero, List.set_cons_succ]
      refine reg_one (i := 6) (by kernel_rfl) ?_
      refine op_call (i := 6) (#[.agg #[.slice xa xc.parents.length xcap, .slice xa' xc.tree.length xcap', .string xc.note]]) rfl (by rfl) (enters_of Tryd.func58 (by kernel_rfl) rfl) (by first | (simp [Act.eval]; done) | rfl | (simp only [List.map_toArray, List.map_cons, List.map_nil, Act.eval]; rfl) | (simp [Act.eval]; trace_state; done)) ?_
      refine (repo_own _ ⟨xc, .slice xa xc.parents.length xcap, .slice xa' xc.tree.length xcap'⟩ (HXO5.out.same (Chg.drew (fun _ => False) _)) (Few.of_may HXM.out)).mono ?_
      rintro e W7 ⟨vp, vt, rfl, hown, hb7⟩
      have hps : W7.ownsRow _ _ _ vp xc.parents.length _ := hown.ps
      have hts : W7.ownsRow _ _ _ vt xc.tree.length _ := hown.ts
      obtain ⟨aop, cap1, rfl⟩ := ownsRow_shape hps
      obtain ⟨aot, cap2, rfl⟩ := ownsRow_shape hts
      have HO7 := hide (hown.base (show w5.heap.size ≤ _ from Nat.le_refl _))
      have hSf := (Chg.drew (fun _ => False) w5).trans (Chg.of_below0 (S := fun _ => False) hb7) (S'' := fun _ => False) (fun _ _ h => h) (fun _ _ h => h)
      have hSc : Chg (fun k => (Value.slice aq lq.length cq).ownBlock = some k) w5 W7 := hSf.mono (fun _ _ h => h.elim)
      clear hown hps hts hb7
      refine ⟨.agg #[.slice aop xc.parents.length cap1, .slice aot xc.tree.length cap2, .string xc.note], rfl, hSc, ?_⟩
      simp only [Act.put, List.setIfInBounds_toArray, List.set_cons_zero, List.set_cons_succ]
      refine reg_one (i := 7) (by kernel_rfl) ?_
      refine op_val (i := 7) (v := .slice (some ⟨W7.heap.size, 0, none⟩) 1 1) (w' := W7.alloc (.cells #[.slice aop xc.parents.length cap1, .slice aot xc.tree.length cap2, .string xc.note] 33)) rfl (by rfl) (by go_simp) ?_
      have hrl := Rd_lit W7 #[.slice aop xc.parents.length cap1, .slice aot xc.tree.length cap2, .string xc.note] 33 1
      have hal := Chg.alloc (fun _ => False) W7 (.cells #[.slice aop xc.parents.length cap1, .slice aot xc.tree.length cap2, .string xc.note] 33)
      generalize W7.alloc (.cells #[.slice aop xc.parents.length cap1, .slice aot xc.tree.length cap2, .string xc.note] 33) = W8 at hrl hal ⊢
      have HO8 := hide (HO7.out.chg hal (fun _ _ _ h => h))
      have hSf := hSf.trans hal (S'' := fun _ => False) (fun _ _ h => h) (fun _ _ h => h)
      have hSc : Chg (fun k => (Value.slice aq lq.length cq).ownBlock = some k) w5 W8 := hSf.mono (fun _ _ h => h.elim)
      refine ⟨hSc, ?_⟩
      simp only [Act.put, List.setIfInBounds_toArray, List.set_cons_zero, List.set_cons_succ]
      refine reg_one (i := 8) (by kernel_rfl) ?_
      refine op_append (i := 8) rfl (by rfl) cv_slT w.heap.size (HAT5.out.same hSf).row hrl rfl rfl rfl (HO8.out.at.one) (by unfold maxLen; omega) (by omega) (by have := (HAT5.out.same hSf).pb; have := (HAT5.out.same hSf).plt; omega) ?_
      intro ao9 cap9 W9 hown9 hg9 hat9
      have hbox9 := hg9.heap (HAT5.out.same hSf).box n1
      have f9 : W9.cell? ⟨w.heap.size, 0, none⟩ = some (.slice aq lq.length cq) := cell_of_heap hbox9 0
      have e9 := free_of_heap hbox9 0
      have hSc := hSc.trans hg9 (S'' := fun k => (Value.slice aq lq.length cq).ownBlock = some k) (fun _ _ h => h) (fun _ _ h => h)
      refine ⟨hSc, ?_⟩
      simp only [Act.put, List.setIfInBounds_toArray, List.set_cons_zero, List.set_cons_succ]
      refine reg_one (i := 9) (by kernel_rfl) ?_
      refine op_val (i := 9) (v := .pointer (some ⟨w.heap.size, 0, none⟩)) (w' := W9) rfl (by rfl) (by go_simp) ?_
      refine ⟨hSc, ?_⟩
      simp only [Act.put, List.setIfInBounds_toArray, List.set_cons_zero, List.set_cons_succ]
      refine reg_take (i := 10) (v := ?g8v) rfl (by kernel_rfl) (by kernel_rfl) (by kernel_rfl) (by kernel_rfl) (fun _ _ _ h => h) (by rfl) ?g8y (by assumption) ?g8r
      case g8y => (intro W hS; first | (go_simp; done) | (go_simp; with_reducible rfl))
      simp only [Act.put, List.setIfInBounds_toArray, List.set_cons_zero, List.set_cons_succ]
      refine reg_late (i := 11) (by kernel_rfl) (by decide) ?_
      refine op_store (i := 11) rfl (by rfl) (w' := W9.setCell ⟨w.heap.size, 0, none⟩ (.slice ao9 (lq.length + 1) cap9)) (by go_simp) ?_
      simp only [Act.put]
      refine wpAnyG_done (by kernel_rfl) ?_ _
      obtain ⟨hpush, -, hchg⟩ := HAT5.out.push hSf HO8.out HXM.out hlqb hown9 hg9 hat9
      have HPU := hide hpush
      have HBN := hide (HB5.out.trans (hchg.below HB5.out.size (fun k hk hS => by
        rcases hS with rfl | hS
        · omega
        · have := (HAT5.out.rb k hS).1; omega)))
      clear hpush hchg hS0 hSc hSf hown9 hg9 hat9 hbox9 f9 e9 hrl hal z0 z1 z2 z3 n1 n2
      generalize W9.setCell ⟨w.heap.size, 0, none⟩ (.slice ao9 (lq.length + 1) cap9) = W10 at HPU HBN ⊢
      go_wp2_with fail
      go_roundw
      case rel =>
        refine ⟨k + 1, by omega, by go_num, ⟨_, _, _, HPU.out, ?_⟩, HBN⟩
        rw [HTK.out, ← HLQ.out]; simp [cms]
      case measure => simp [intOf]; omega
    · obtain rfl : k = l.length := by omega
      obtain ⟨aq, cq, lq, hat, hlq⟩ := HS.out
      rw [List.take_length] at hlq
      have HRI := hide (show RepoIs w.heap.size wr w.heap.size (cms l) r2 from ⟨aq, cq, lq, hat, hlq⟩)
      clear hat hlq
      go_wp2_with fail
      go_ret
      exact ⟨rfl, HRI.out, HB.out⟩
theorem RepoIs.copy {cs : List Cm} (h : RepoIs base w p cs room) (n : Int) (hn : -9223372036854775808 ≤ n ∧ n ≤ 9223372036854775807) :
    Calls Tryd.prog 24 #[.pointer (some ⟨p, 0, none⟩), .int .i64 n] w fun e w' => e = .returned (.pointer (some ⟨w.heap.size, 0, none⟩)) ∧ RepoIs w.heap.size w' w.heap.size cs (min (room + min (max n 0) 120) 120) ∧ Below w.heap.size w w' := by
  obtain ⟨ao, cap, l, h, rfl⟩ := h
  exact repo_Copy h n hn
end Go.Proofs.YtnnkbicaokckbaaDoor
