/- RepoScript: whatever commits are put in, each call answers as the document says; so does a copy, which goes its own way. Conditions: none. -/
import Derived.Test.YtnnkbicaokckbaaDoorRows
import Derived.Test.YtnnkbicaokckbaaDoorTie
import Derived.Test.YtnnkbicaokckbaaDoorCards
import Derived.Test.YtnnkbicaokckbaaDoorCardB
import Derived.SevenTiedAt
import Derived.Test.YtnnkbicaokckbaaDoorRfT
import Derived.Test.YtnnkbicaokckbaaDoorRpZ
import Derived.Test.YtnnkbicaokckbaaDoorLow
import Derived.Outline
import Derived.Deep.QuietTactic
import Derived.BigQuiet
namespace Go.Proofs.YtnnkbicaokckbaaDoor
open Go.ChangeShapes Go.WideShapes Go.ChangeAt Go.RowKit
open Go.ChangeMaps (open_string shut_string)
set_option linter.unusedVariables false
open Go.Shelf

set_option maxHeartbeats 4000000 in
set_option maxRecDepth 100000 in
theorem RepoScript_walk {H : Type} {enc : TypeId × Value → H} (W : World) (hM : Mx W) (room : Int) (_ : (Lit.int .i64 room).wf = true) (ao : Option Addr) (len cap : Nat) (hv : Readable enc Tryd.prog W 22 (Value.slice ao len cap).cells.toList) (ks : Int) (_ : (Lit.int .i64 ks).wf = true) (more : Int) (_ : (Lit.int .i64 more).wf = true) : Calls Tryd.prog 6 #[.int .i64 room, .slice ao len cap, .int .i64 ks, .int .i64 more] W fun e W' => e = .returned (.bool true) ∧ Below W.heap.size W W' := by
  obtain ⟨l, hl, hlm, hlb, hlx⟩ := commits_of_readable hv rfl
  obtain ⟨a', c', e, -, -⟩ := hl.shape
  cases e
  have HM := hide hM
  have HL := hide hl
  have HLB := hide hlb
  have HLX := hide hlx
  have HG := hide (GreatCommits_ok W (.slice ao l.length cap) l 30 hl hlm hlb hlx (by decide))
  cases hg : greatL 30 (cms l) with
  | true =>
    rw [hg] at HG
    clear hv hl hlm hlb hlx hM hg
    go_enter Tryd.func6, Tryd.ntmps6
    go_wp2_with fail
    refine HG.out.mono ?_
    rintro e w1 ⟨rfl, hb1⟩
    have HB1 := hide hb1
    clear hb1
    go_wp2_with fail
    refine (awake10 _ (HM.out.below HB1.out HM.out.pos)).mono ?_
    rintro e w2 ⟨rfl, hb2⟩
    have HB2 := hide (HB1.out.trans (hb2.mono HB1.out.size))
    clear hb2
    go_wp2_with fail
    go_ret
    exact ⟨rfl, HB2.out⟩
  | false =>
    rw [hg] at HG
    have hg' : (decide (30 < l.length) || l.any (fun x => greatC x.c)) = false := by rw [← hg, greatL, cms_any, cms_length]
    rw [Bool.or_eq_false_iff, decide_eq_false_iff_not] at hg'
    have hl30 : l.length ≤ 30 := by omega
    have hgr : ∀ x ∈ l, greatC x.c = false := fun x hx => by have := List.any_eq_false.1 hg'.2 x hx; simpa using this
    have HFEW := hide (fun x (hx : x ∈ l) => Few.of_great (hgr x hx))
    have HSZ := hide (fun x (hx : x ∈ l) => great_size (hgr x hx))
    clear hv hl hlm hlb hlx hM hg hg' hgr
    go_enter Tryd.func6, Tryd.ntmps6
    go_wp2_with fail
    refine HG.out.mono ?_
    rintro e w1 ⟨rfl, hb1⟩
    have HB1 := hide hb1
    clear hb1
    go_wp2_with fail
    refine (Low_ok _ room 50 (by decide) (by decide)).mono ?_
    rintro e w2 ⟨rfl, hw2⟩
    rw [hw2]
    clear hw2
    have hrl := low_lt room 50 (by decide)
    generalize low room 50 = r at *
    go_wp2_with fail
    refine (Low_ok _ more 50 (by decide) (by decide)).mono ?_
    rintro e w2 ⟨rfl, hw2⟩
    rw [hw2]
    clear hw2
    have hml := low_lt more 50 (by decide)
    generalize low more 50 = m at *
    obtain ⟨rr, hrr⟩ : ∃ rr : Int, rr = (r : Int) - 5 := ⟨_, rfl⟩
    obtain ⟨mm, hmm⟩ : ∃ mm : Int, mm = (m : Int) - 5 := ⟨_, rfl⟩
    have hrb : -5 ≤ rr ∧ rr ≤ 45 := by omega
    have hmb : -5 ≤ mm ∧ mm ≤ 45 := by omega
    go_wp2_with fail
    rw [← hrr, ← hmm]
    clear hrr hmm hrl hml
    refine (repo_New _ rr (by omega)).mono ?_
    rintro e w2 ⟨rfl, h2, hb2⟩
    go_wp2_with fail
    refine (ref10_New _ rr (by omega)).mono ?_
    rintro e w3 ⟨rfl, h3, hb3⟩
    obtain ⟨R, hR⟩ : ∃ R, R = min (max rr 0) 120 := ⟨_, rfl⟩
    rw [← hR] at h2 h3
    have HT := hide (Two.new h2 h3 hb2 hb3)
    have HB3 := hide (HB1.out.trans ((hb2.trans (hb3.mono hb2.size)).mono HB1.out.size))
    have hw1 := HB1.out.size
    clear h2 h3 hb2 hb3 hR
    generalize w2.heap.size = q at HT ⊢
    obtain ⟨p, hp⟩ : ∃ p, p = w1.heap.size := ⟨_, rfl⟩
    have HT : Hid (Two w1.heap.size w3 p q [] [] R R (fun k => k < w1.heap.size)) := hide (by rw [hp]; exact HT.out)
    rw [← hp]
    clear hp
    obtain ⟨B0, hB0⟩ : ∃ B0, B0 = w1.heap.size := ⟨_, rfl⟩
    rw [← hB0] at HT hw1
    clear hB0
    have HCA := hide (show (l.length : Int) + 1 = ((l.length + 1 : Nat) : Int) by omega)
    go_wp2_with fail
    rw [HCA.out]
    refine (Low_ok _ ks (l.length + 1) (by omega) (by omega)).mono ?_
    rintro e w4 ⟨rfl, hw4⟩
    rw [hw4]
    clear hw4 HCA
    have hkl := low_lt ks (l.length + 1) (by omega)
    generalize low ks (l.length + 1) = kk at *
    go_wp2_with fail
    go_loopw [11] (fun i wr => ∃ k : Nat, k ≤ kk ∧ i = .int .i64 k ∧ Hid (∃ cs, Two B0 wr p q cs cs R R (fun k => k < B0) ∧ cs.length ≤ k) ∧ Hid (Below W.heap.size W wr)) (fun i _ => kk - (intOf i).toNat)
    case atStart => exact ⟨0, Nat.zero_le _, rfl, ⟨[], HT.out, Nat.zero_le _⟩, HB3.out⟩
    case round =>
      obtain ⟨k, hk, rfl, HS, HB⟩ := hrel
      obtain ⟨wo, rfl⟩ : ∃ wo : World, wo = wr := ⟨_, rfl⟩
      by_cases hkk : k < kk
      · obtain ⟨cs, ht, hcl⟩ := HS.out
        have hkl' : k < l.length := by omega
        have hne : l ≠ [] := by rintro rfl; simp at hkl'
        obtain ⟨a', c', e, -, hcs0⟩ := (HL.out.chg (Chg.of_below HB.out) (fun b hb' _ h => by have := HLB.out b hb' hne; omega)).shape
        obtain ⟨b, off, rfl, hcs⟩ := hcs0 (by omega)
        cases e
        obtain ⟨hx0, hx1, hx2⟩ := cv_cells wo b off l hcs k hkl'
        have hcm := (HLX.out l[k] (List.getElem_mem hkl')).1
        have hfew := HFEW.out l[k] (List.getElem_mem hkl')
        have hsz := HSZ.out l[k] (List.getElem_mem hkl')
        have HT' := hide ht
        have HCL := hide hcl
        have hbo : b < W.heap.size := HLB.out b rfl hne
        clear hcs hcs0 hne ht hcl
        generalize l[k] = y at *
        obtain ⟨yc, yp, yt⟩ := y
        simp only at hx0 hx1 hx2 hfew hsz
        have hps : Rd W yp yc.parents.length (flat int_enc yc.parents) := hcm.ps
        have hts : Rd W yt yc.tree.length (flat fl_enc yc.tree) := hcm.ts
        obtain ⟨ypo, ypc, rfl, -, -⟩ := hps.shape
        obtain ⟨yto, ytc, rfl, -, -⟩ := hts.shape
        have hyN : ∀ b, YB ⟨yc, .slice ypo yc.parents.length ypc, .slice yto yc.tree.length ytc⟩ b → b < B0 := fun b hb => by
          rcases hb with ⟨h, hn⟩ | ⟨h, hn⟩
          · have := hcm.pb b h hn; omega
          · have := hcm.tb b h hn; omega
        have HCM := hide hcm
        have HF := hide hfew
        have HZ := hide hsz
        have HYN := hide hyN
        have HMW := hide (fun Wx (hb : Below W.heap.size W Wx) => HM.out.below hb HM.out.pos)
        clear hps hts hcm hfew hsz hyN
        obtain ⟨n1, hn1⟩ : ∃ n1, n1 = (addR cs R yc).1 := ⟨_, rfl⟩
        obtain ⟨e1, he1⟩ : ∃ e1, e1 = (addR cs R yc).2 := ⟨_, rfl⟩
        have hb0 : B0 ≤ wo.heap.size := by have := HT'.out.small; omega
        have hadd := HT'.out.putR (fun k hk => by omega) (HMW.out _ HB.out) ⟨yc, .slice ypo yc.parents.length ypc, .slice yto yc.tree.length ytc⟩ (HCM.out.same (Chg.of_below0 HB.out)) HF.out HYN.out (by have := HCL.out; omega)
        simp only [← hn1, ← he1] at hadd
        have HADD : Hid (Calls Tryd.prog 18 #[.pointer (some ⟨p, 0, none⟩), .agg #[.slice ypo yc.parents.length ypc, .slice yto yc.tree.length ytc, .string yc.note]] wo _) := hide hadd
        clear hadd
        go_wp2_with fail
        refine HADD.out.mono ?_
        rintro e w5 ⟨rfl, ht5, hy5, hb5⟩
        have HB5 := hide (HB.out.trans (hb5.mono hw1))
        have hx0 := (World.cell?_of_block (a := ⟨b, off + k * 3, none⟩) (hb5.block b (by omega))).trans hx0
        have hx1 := (World.cell?_of_block (a := ⟨b, off + k * 3 + 1, none⟩) (hb5.block b (by omega))).trans hx1
        have hx2 := (World.cell?_of_block (a := ⟨b, off + k * 3 + 2, none⟩) (hb5.block b (by omega))).trans hx2
        have HT5 := hide ht5
        have hadd := ht5.putQ ⟨yc, .slice ypo yc.parents.length ypc, .slice yto yc.tree.length ytc⟩ hy5 HF.out HZ.out HYN.out (by have := HCL.out; omega)
        simp only [← hn1, ← he1] at hadd
        have HADD : Hid (Calls Tryd.prog 27 #[.pointer (some ⟨q, 0, none⟩), .agg #[.slice ypo yc.parents.length ypc, .slice yto yc.tree.length ytc, .string yc.note]] w5 _) := hide hadd
        have hcsl := addL_len cs R yc
        have HCSL := hide (show (addL cs R yc).length ≤ k + 1 by have := HCL.out; omega)
        clear hadd ht5 hy5 hb5 hcsl hn1 he1
        generalize addL cs R yc = cs2 at *
        go_wp2_with fail
        refine HADD.out.mono ?_
        rintro e w6 ⟨rfl, ht6, hy6, hb6⟩
        have HB6 := hide (HB5.out.trans (hb6.mono hw1))
        have hx0 := (World.cell?_of_block (a := ⟨b, off + k * 3, none⟩) (hb6.block b (by omega))).trans hx0
        have hx1 := (World.cell?_of_block (a := ⟨b, off + k * 3 + 1, none⟩) (hb6.block b (by omega))).trans hx1
        have hx2 := (World.cell?_of_block (a := ⟨b, off + k * 3 + 2, none⟩) (hb6.block b (by omega))).trans hx2
        have HT6 := hide ht6
        have HY6 := hide hy6
        have hq1 : (n1 != n1) = false := by simp
        have hq2 : (e1 != e1) = false := by simp
        have HMY : Hid (∀ Wx, Chg (fun _ => False) w6 Wx → Calls Tryd.prog 29 #[.agg #[.slice ypo yc.parents.length ypc, .slice yto yc.tree.length ytc, .string yc.note]] Wx fun e w' => e = .returned (.bool (mayC yc)) ∧ Below Wx.heap.size Wx w') := hide (fun Wx hW => repo_May Wx _ (HY6.out.same hW) HF.out (HMW.out _ (HB6.out.trans (hW.below HB6.out.size (fun _ _ h => h)))))
        have HMQ : Hid (∀ Wx, Chg (fun _ => False) w6 Wx → Calls Tryd.prog 30 #[.agg #[.slice ypo yc.parents.length ypc, .slice yto yc.tree.length ytc, .string yc.note]] Wx fun e w' => e = .returned (.bool (mayC yc)) ∧ Below Wx.heap.size Wx w') := hide (fun Wx hW => ref10_May Wx _ (HY6.out.same hW) HF.out HZ.out)
        have HFR : Hid (∀ Wx, Chg (fun _ => False) w6 Wx → Calls Tryd.prog 21 #[.pointer (some ⟨p, 0, none⟩), .agg #[.slice ypo yc.parents.length ypc, .slice yto yc.tree.length ytc, .string yc.note]] Wx fun e w' => e = .returned (.int .i64 (idxF (fun x : Cm => cmEq x yc) cs2 + 1)) ∧ Below Wx.heap.size Wx w') := hide (fun Wx hW => (HT6.out.same hW).findR _ (HY6.out.same hW) HF.out)
        have HFQ : Hid (∀ Wx, Chg (fun _ => False) w6 Wx → Calls Tryd.prog 31 #[.pointer (some ⟨q, 0, none⟩), .agg #[.slice ypo yc.parents.length ypc, .slice yto yc.tree.length ytc, .string yc.note]] Wx fun e w' => e = .returned (.int .i64 (idxF (fun x : Cm => cmEq x yc) cs2 + 1)) ∧ Below Wx.heap.size Wx w') := hide (fun Wx hW => (HT6.out.same hW).findQ _ (HY6.out.same hW) HF.out)
        have hwk : IntKind.i64.wrap (k : Int) = k := IntWalk.i64_in _ (by omega)
        have hki : (k : Int) < (l.length : Int) := by omega
        clear ht6 hy6 hb6
        generalize idxF (fun x : Cm => cmEq x yc) cs2 + 1 = i1 at HFR HFQ
        generalize mayC yc = m1 at HMY HMQ
        have hq3 : (i1 != i1) = false := by simp
        have hq4 : (m1 != m1) = false := by simp
        go_wp2_with fail
        refine reg_start (Chg (fun _ => False) w6) 37 37 (by rfl) (by kernel_rfl) (Chg.drew _ _) ?_
        intro hS0
        have hSc := hS0
        refine reg_take (i := 0) (v := ?g2v) rfl (by kernel_rfl) (by kernel_rfl) (by kernel_rfl) (by kernel_rfl) (fun _ _ _ h => h) (by rfl) ?g2y (by assumption) ?g2r
        case g2y => (intro W hS; first | (go_simp; done) | (go_simp; with_reducible rfl))
        simp only [Act.put, List.setIfInBounds_toArray, List.set_cons_zero, List.set_cons_succ]
        refine reg_take (i := 1) (v := ?g3v) rfl (by kernel_rfl) (by kernel_rfl) (by kernel_rfl) (by kernel_rfl) (fun _ _ _ h => h) (by rfl) ?g3y (by assumption) ?g3r
        case g3y => (intro W hS; first | (go_simp; done) | (go_simp; with_reducible rfl))
        simp only [Act.put, List.setIfInBounds_toArray, List.set_cons_zero, List.set_cons_succ]
        refine reg_take (i := 2) (v := ?g4v) rfl (by kernel_rfl) (by kernel_rfl) (by kernel_rfl) (by kernel_rfl) (fun _ _ _ h => h) (by rfl) ?g4y (by assumption) ?g4r
        case g4y => (intro W hS; first | (go_simp; done) | (go_simp; with_reducible rfl))
        simp only [Act.put, List.setIfInBounds_toArray, List.set_cons_zero, List.set_cons_succ]
        refine reg_take (i := 3) (v := ?g5v) rfl (by kernel_rfl) (by kernel_rfl) (by kernel_rfl) (by kernel_rfl) (fun _ _ _ h => h) (by rfl) ?g5y (by assumption) ?g5r
        case g5y => (intro W hS; first | (go_simp; done) | (go_simp; with_reducible rfl))
        simp only [Act.put, List.setIfInBounds_toArray, List.set_cons_zero, List.set_cons_succ]
        refine reg_take (i := 4) (v := ?g6v) rfl (by kernel_rfl) (by kernel_rfl) (by kernel_rfl) (by kernel_rfl) (fun _ _ _ h => h) (by rfl) ?g6y (by assumption) ?g6r
        case g6y => (intro W hS; first | (go_simp; done) | (go_simp; with_reducible rfl))
        simp only [Act.put, List.setIfInBounds_toArray, List.set_cons_zero, List.set_cons_succ]
        refine reg_take (i := 6) (v := ?g7v) rfl (by kernel_rfl) (by kernel_rfl) (by kernel_rfl) (by kernel_rfl) (fun _ _ _ h => h) (by rfl) ?g7y (by assumption) ?g7r
        case g7y => (intro W hS; first | (go_simp; done) | (go_simp; with_reducible rfl))
        simp only [Act.put, List.setIfInBounds_toArray, List.set_cons_zero, List.set_cons_succ]
        refine reg_one (i := 5) (by kernel_rfl) ?_
        refine op_call (i := 5) (#[.int .i64 e1]) rfl (by rfl) (enters_of Tryd.func28 (by kernel_rfl) rfl) (by first | (simp [Act.eval]; done) | rfl | (simp only [List.map_toArray, List.map_cons, List.map_nil, Act.eval]; rfl) | (simp [Act.eval]; trace_state; done)) ?_
        refine (Num_ok _ _).mono ?_
        rintro e W7 ⟨rfl, rfl⟩
        refine ⟨_, rfl, hSc, ?_⟩
        simp only [Act.put, List.setIfInBounds_toArray, List.set_cons_zero, List.set_cons_succ]
        refine reg_take (i := 7) (v := ?g8v) rfl (by kernel_rfl) (by kernel_rfl) (by kernel_rfl) (by kernel_rfl) (fun _ _ _ h => h) (by rfl) ?g8y (by assumption) ?g8r
        case g8y => (intro W hS; first | (go_simp; done) | (go_simp; with_reducible rfl))
        simp only [Act.put, List.setIfInBounds_toArray, List.set_cons_zero, List.set_cons_succ]
        refine reg_take (i := 8) (v := ?g9v) rfl (by kernel_rfl) (by kernel_rfl) (by kernel_rfl) (by kernel_rfl) (fun _ _ _ h => h) (by rfl) ?g9y (by assumption) ?g9r
        case g9y => (intro W hS; first | (go_simp; done) | (go_simp; with_reducible rfl))
        simp only [Act.put, List.setIfInBounds_toArray, List.set_cons_zero, List.set_cons_succ]
        refine reg_take (i := 9) (v := ?g10v) rfl (by kernel_rfl) (by kernel_rfl) (by kernel_rfl) (by kernel_rfl) (fun _ _ _ h => h) (by rfl) ?g10y (by assumption) ?g10r
        case g10y => (intro W hS; first | (go_simp; done) | (go_simp; with_reducible rfl))
        simp only [Act.put, List.setIfInBounds_toArray, List.set_cons_zero, List.set_cons_succ]
        refine reg_take (i := 10) (v := ?g11v) rfl (by kernel_rfl) (by kernel_rfl) (by kernel_rfl) (by kernel_rfl) (fun _ _ _ h => h) (by rfl) ?g11y (by assumption) ?g11r
        case g11y => (intro W hS; first | (go_simp; done) | (go_simp; with_reducible rfl))
        simp only [Act.put, List.setIfInBounds_toArray, List.set_cons_zero, List.set_cons_succ]
        refine reg_take (i := 11) (v := ?g12v) rfl (by kernel_rfl) (by kernel_rfl) (by kernel_rfl) (by kernel_rfl) (fun _ _ _ h => h) (by rfl) ?g12y (by assumption) ?g12r
        case g12y => (intro W hS; first | (go_simp; done) | (go_simp; with_reducible rfl))
        simp only [Act.put, List.setIfInBounds_toArray, List.set_cons_zero, List.set_cons_succ]
        refine reg_take (i := 12) (v := ?g13v) rfl (by kernel_rfl) (by kernel_rfl) (by kernel_rfl) (by kernel_rfl) (fun _ _ _ h => h) (by rfl) ?g13y (by assumption) ?g13r
        case g13y => (intro W hS; first | (go_simp; done) | (go_simp; with_reducible rfl))
        simp only [Act.put, List.setIfInBounds_toArray, List.set_cons_zero, List.set_cons_succ]
        refine reg_take (i := 13) (v := ?g14v) rfl (by kernel_rfl) (by kernel_rfl) (by kernel_rfl) (by kernel_rfl) (fun _ _ _ h => h) (by rfl) ?g14y (by assumption) ?g14r
        case g14y => (intro W hS; have f0 := hS.cell hx0 (fun h => h); have f1 := hS.cell hx1 (fun h => h); have f2 := hS.cell hx2 (fun h => h); first | (go_simp; done) | (go_simp; with_reducible rfl))
        simp only [Act.put, List.setIfInBounds_toArray, List.set_cons_zero, List.set_cons_succ]
        refine reg_take (i := 15) (v := ?g15v) rfl (by kernel_rfl) (by kernel_rfl) (by kernel_rfl) (by kernel_rfl) (fun _ _ _ h => h) (by rfl) ?g15y (by assumption) ?g15r
        case g15y => (intro W hS; first | (go_simp; done) | (go_simp; with_reducible rfl))
        simp only [Act.put, List.setIfInBounds_toArray, List.set_cons_zero, List.set_cons_succ]
        refine reg_take (i := 16) (v := ?g16v) rfl (by kernel_rfl) (by kernel_rfl) (by kernel_rfl) (by kernel_rfl) (fun _ _ _ h => h) (by rfl) ?g16y (by assumption) ?g16r
        case g16y => (intro W hS; first | (go_simp; done) | (go_simp; with_reducible rfl))
        simp only [Act.put, List.setIfInBounds_toArray, List.set_cons_zero, List.set_cons_succ]
        refine reg_take (i := 17) (v := ?g17v) rfl (by kernel_rfl) (by kernel_rfl) (by kernel_rfl) (by kernel_rfl) (fun _ _ _ h => h) (by rfl) ?g17y (by assumption) ?g17r
        case g17y => (intro W hS; first | (go_simp; done) | (go_simp; with_reducible rfl))
        simp only [Act.put, List.setIfInBounds_toArray, List.set_cons_zero, List.set_cons_succ]
        refine reg_take (i := 18) (v := ?g18v) rfl (by kernel_rfl) (by kernel_rfl) (by kernel_rfl) (by kernel_rfl) (fun _ _ _ h => h) (by rfl) ?g18y (by assumption) ?g18r
        case g18y => (intro W hS; have f0 := hS.cell hx0 (fun h => h); have f1 := hS.cell hx1 (fun h => h); have f2 := hS.cell hx2 (fun h => h); first | (go_simp; done) | (go_simp; with_reducible rfl))
        simp only [Act.put, List.setIfInBounds_toArray, List.set_cons_zero, List.set_cons_succ]
        refine reg_one (i := 14) (by kernel_rfl) ?_
        refine op_call (i := 14) (#[.agg #[.slice ypo yc.parents.length ypc, .slice yto yc.tree.length ytc, .string yc.note]]) rfl (by rfl) (enters_of Tryd.func29 (by kernel_rfl) rfl) (by first | (simp [Act.eval]; done) | rfl | (simp only [List.map_toArray, List.map_cons, List.map_nil, Act.eval]; rfl) | (simp [Act.eval]; trace_state; done)) ?_
        refine (HMY.out _ hSc).mono ?_
        rintro e W8 ⟨rfl, hb8⟩
        have hSc := hSc.trans (Chg.of_below0 (S := fun _ => False) hb8) (S'' := fun _ => False) (fun _ _ h => h) (fun _ _ h => h)
        clear hb8
        refine ⟨_, rfl, hSc, ?_⟩
        simp only [Act.put, List.setIfInBounds_toArray, List.set_cons_zero, List.set_cons_succ]
        refine reg_one (i := 19) (by kernel_rfl) ?_
        refine op_call (i := 19) (#[.agg #[.slice ypo yc.parents.length ypc, .slice yto yc.tree.length ytc, .string yc.note]]) rfl (by rfl) (enters_of Tryd.func30 (by kernel_rfl) rfl) (by first | (simp [Act.eval]; done) | rfl | (simp only [List.map_toArray, List.map_cons, List.map_nil, Act.eval]; rfl) | (simp [Act.eval]; trace_state; done)) ?_
        refine (HMQ.out _ hSc).mono ?_
        rintro e W9 ⟨rfl, hb9⟩
        have hSc := hSc.trans (Chg.of_below0 (S := fun _ => False) hb9) (S'' := fun _ => False) (fun _ _ h => h) (fun _ _ h => h)
        clear hb9
        refine ⟨_, rfl, hSc, ?_⟩
        simp only [Act.put, List.setIfInBounds_toArray, List.set_cons_zero, List.set_cons_succ]
        refine reg_take (i := 20) (v := ?g19v) rfl (by kernel_rfl) (by kernel_rfl) (by kernel_rfl) (by kernel_rfl) (fun _ _ _ h => h) (by rfl) ?g19y (by assumption) ?g19r
        case g19y => (intro W hS; first | (go_simp; done) | (go_simp; with_reducible rfl))
        simp only [Act.put, List.setIfInBounds_toArray, List.set_cons_zero, List.set_cons_succ]
        refine reg_take (i := 21) (v := ?g20v) rfl (by kernel_rfl) (by kernel_rfl) (by kernel_rfl) (by kernel_rfl) (fun _ _ _ h => h) (by rfl) ?g20y (by assumption) ?g20r
        case g20y => (intro W hS; first | (go_simp; done) | (go_simp; with_reducible rfl))
        simp only [Act.put, List.setIfInBounds_toArray, List.set_cons_zero, List.set_cons_succ]
        refine reg_take (i := 22) (v := ?g21v) rfl (by kernel_rfl) (by kernel_rfl) (by kernel_rfl) (by kernel_rfl) (fun _ _ _ h => h) (by rfl) ?g21y (by assumption) ?g21r
        case g21y => (intro W hS; first | (go_simp; done) | (go_simp; with_reducible rfl))
        simp only [Act.put, List.setIfInBounds_toArray, List.set_cons_zero, List.set_cons_succ]
        refine reg_take (i := 23) (v := ?g22v) rfl (by kernel_rfl) (by kernel_rfl) (by kernel_rfl) (by kernel_rfl) (fun _ _ _ h => h) (by rfl) ?g22y (by assumption) ?g22r
        case g22y => (intro W hS; first | (go_simp; done) | (go_simp; with_reducible rfl))
        simp only [Act.put, List.setIfInBounds_toArray, List.set_cons_zero, List.set_cons_succ]
        refine reg_take (i := 24) (v := ?g23v) rfl (by kernel_rfl) (by kernel_rfl) (by kernel_rfl) (by kernel_rfl) (fun _ _ _ h => h) (by rfl) ?g23y (by assumption) ?g23r
        case g23y => (intro W hS; first | (go_simp; done) | (go_simp; with_reducible rfl))
        simp only [Act.put, List.setIfInBounds_toArray, List.set_cons_zero, List.set_cons_succ]
        refine reg_take (i := 25) (v := ?g24v) rfl (by kernel_rfl) (by kernel_rfl) (by kernel_rfl) (by kernel_rfl) (fun _ _ _ h => h) (by rfl) ?g24y (by assumption) ?g24r
        case g24y => (intro W hS; first | (go_simp; done) | (go_simp; with_reducible rfl))
        simp only [Act.put, List.setIfInBounds_toArray, List.set_cons_zero, List.set_cons_succ]
        refine reg_take (i := 26) (v := ?g25v) rfl (by kernel_rfl) (by kernel_rfl) (by kernel_rfl) (by kernel_rfl) (fun _ _ _ h => h) (by rfl) ?g25y (by assumption) ?g25r
        case g25y => (intro W hS; first | (go_simp; done) | (go_simp; with_reducible rfl))
        simp only [Act.put, List.setIfInBounds_toArray, List.set_cons_zero, List.set_cons_succ]
        refine reg_take (i := 27) (v := ?g26v) rfl (by kernel_rfl) (by kernel_rfl) (by kernel_rfl) (by kernel_rfl) (fun _ _ _ h => h) (by rfl) ?g26y (by assumption) ?g26r
        case g26y => (intro W hS; have f0 := hS.cell hx0 (fun h => h); have f1 := hS.cell hx1 (fun h => h); have f2 := hS.cell hx2 (fun h => h); first | (go_simp; done) | (go_simp; with_reducible rfl))
        simp only [Act.put, List.setIfInBounds_toArray, List.set_cons_zero, List.set_cons_succ]
        refine reg_take (i := 29) (v := ?g27v) rfl (by kernel_rfl) (by kernel_rfl) (by kernel_rfl) (by kernel_rfl) (fun _ _ _ h => h) (by rfl) ?g27y (by assumption) ?g27r
        case g27y => (intro W hS; first | (go_simp; done) | (go_simp; with_reducible rfl))
        simp only [Act.put, List.setIfInBounds_toArray, List.set_cons_zero, List.set_cons_succ]
        refine reg_take (i := 30) (v := ?g28v) rfl (by kernel_rfl) (by kernel_rfl) (by kernel_rfl) (by kernel_rfl) (fun _ _ _ h => h) (by rfl) ?g28y (by assumption) ?g28r
        case g28y => (intro W hS; first | (go_simp; done) | (go_simp; with_reducible rfl))
        simp only [Act.put, List.setIfInBounds_toArray, List.set_cons_zero, List.set_cons_succ]
        refine reg_take (i := 31) (v := ?g29v) rfl (by kernel_rfl) (by kernel_rfl) (by kernel_rfl) (by kernel_rfl) (fun _ _ _ h => h) (by rfl) ?g29y (by assumption) ?g29r
        case g29y => (intro W hS; first | (go_simp; done) | (go_simp; with_reducible rfl))
        simp only [Act.put, List.setIfInBounds_toArray, List.set_cons_zero, List.set_cons_succ]
        refine reg_take (i := 32) (v := ?g30v) rfl (by kernel_rfl) (by kernel_rfl) (by kernel_rfl) (by kernel_rfl) (fun _ _ _ h => h) (by rfl) ?g30y (by assumption) ?g30r
        case g30y => (intro W hS; first | (go_simp; done) | (go_simp; with_reducible rfl))
        simp only [Act.put, List.setIfInBounds_toArray, List.set_cons_zero, List.set_cons_succ]
        refine reg_take (i := 33) (v := ?g31v) rfl (by kernel_rfl) (by kernel_rfl) (by kernel_rfl) (by kernel_rfl) (fun _ _ _ h => h) (by rfl) ?g31y (by assumption) ?g31r
        case g31y => (intro W hS; have f0 := hS.cell hx0 (fun h => h); have f1 := hS.cell hx1 (fun h => h); have f2 := hS.cell hx2 (fun h => h); first | (go_simp; done) | (go_simp; with_reducible rfl))
        simp only [Act.put, List.setIfInBounds_toArray, List.set_cons_zero, List.set_cons_succ]
        refine reg_one (i := 28) (by kernel_rfl) ?_
        refine op_call (i := 28) (#[.pointer (some ⟨p, 0, none⟩), .agg #[.slice ypo yc.parents.length ypc, .slice yto yc.tree.length ytc, .string yc.note]]) rfl (by rfl) (enters_of Tryd.func21 (by kernel_rfl) rfl) (by first | (simp [Act.eval]; done) | rfl | (simp only [List.map_toArray, List.map_cons, List.map_nil, Act.eval]; rfl) | (simp [Act.eval]; trace_state; done)) ?_
        refine (HFR.out _ hSc).mono ?_
        rintro e W10 ⟨rfl, hb10⟩
        have hSc := hSc.trans (Chg.of_below0 (S := fun _ => False) hb10) (S'' := fun _ => False) (fun _ _ h => h) (fun _ _ h => h)
        clear hb10
        refine ⟨_, rfl, hSc, ?_⟩
        simp only [Act.put, List.setIfInBounds_toArray, List.set_cons_zero, List.set_cons_succ]
        refine reg_one (i := 34) (by kernel_rfl) ?_
        refine op_call (i := 34) (#[.pointer (some ⟨q, 0, none⟩), .agg #[.slice ypo yc.parents.length ypc, .slice yto yc.tree.length ytc, .string yc.note]]) rfl (by rfl) (enters_of Tryd.func31 (by kernel_rfl) rfl) (by first | (simp [Act.eval]; done) | rfl | (simp only [List.map_toArray, List.map_cons, List.map_nil, Act.eval]; rfl) | (simp [Act.eval]; trace_state; done)) ?_
        refine (HFQ.out _ hSc).mono ?_
        rintro e W11 ⟨rfl, hb11⟩
        have hSc := hSc.trans (Chg.of_below0 (S := fun _ => False) hb11) (S'' := fun _ => False) (fun _ _ h => h) (fun _ _ h => h)
        clear hb11
        refine ⟨_, rfl, hSc, ?_⟩
        simp only [Act.put, List.setIfInBounds_toArray, List.set_cons_zero, List.set_cons_succ]
        refine reg_take (i := 35) (v := ?g32v) rfl (by kernel_rfl) (by kernel_rfl) (by kernel_rfl) (by kernel_rfl) (fun _ _ _ h => h) (by rfl) ?g32y (by assumption) ?g32r
        case g32y => (intro W hS; first | (go_simp; done) | (go_simp; with_reducible rfl))
        simp only [Act.put, List.setIfInBounds_toArray, List.set_cons_zero, List.set_cons_succ]
        refine reg_take (i := 36) (v := ?g33v) rfl (by kernel_rfl) (by kernel_rfl) (by kernel_rfl) (by kernel_rfl) (fun _ _ _ h => h) (by rfl) ?g33y (by assumption) ?g33r
        case g33y => (intro W hS; first | (go_simp; done) | (go_simp; with_reducible rfl))
        simp only [Act.put, List.setIfInBounds_toArray, List.set_cons_zero, List.set_cons_succ]
        refine wpAnyG_done (by kernel_rfl) ?_ _
        have HS6 := hide hSc
        clear hS0 hSc hx0 hx1 hx2
        go_wp2_with fail
        go_roundw
        case rel => exact ⟨k + 1, by omega, by go_num, ⟨cs2, HT6.out.same HS6.out, HCSL.out⟩, HB6.out.trans (HS6.out.below HB6.out.size (fun _ _ h => h))⟩
        case measure => simp [intOf]; omega
      · obtain rfl : k = kk := by omega
        obtain ⟨cs, ht, hcl⟩ := HS.out
        have HT1 := hide ht
        have HTL := hide ht.tells
        obtain ⟨ao1, cap1, l1, aq, cq, lq, h1, h2, e1, e2, -, -⟩ := ht
        have hcp := repo_Copy h1 mm (by omega)
        rw [e1] at hcp
        have H2 := hide h2
        have HE2 := hide e2
        obtain ⟨R2, hR2⟩ : ∃ R2, R2 = min (R + min (max mm 0) 120) 120 := ⟨_, rfl⟩
        have HCPQ : Hid (∀ Wx, Chg (fun _ => False) wo Wx → Calls Tryd.prog 32 #[.pointer (some ⟨q, 0, none⟩), .int .i64 mm] Wx fun e w' => ∃ q ao' cap', e = .returned (.pointer (some ⟨q, 0, none⟩)) ∧ RefAt Wx.heap.size w' q ao' cap' lq R2 ∧ (∀ k, NB q ao' lq k → Wx.heap.size ≤ k ∨ ∃ x ∈ lq, YB x k) ∧ Below Wx.heap.size Wx w') := hide (fun Wx hW => by rw [hR2]; exact ref10_Copy (h2.same hW) mm (by omega))
        rw [← hR2] at hcp
        have HCP := hide hcp
        have HCL := hide hcl
        have hwsz := HB.out.size
        clear h1 h2 e1 e2 hcp hR2 hcl HT HS HG
        go_wp2_with fail
        refine HCP.out.mono ?_
        rintro e w5 ⟨rfl, hr5, hb5⟩
        have HR5 := hide hr5
        have HB5 := hide hb5
        have HCQ5 := hide (HCPQ.out w5 (Chg.of_below0 hb5))
        clear hr5 hb5
        go_wp2_with fail
        refine HCQ5.out.mono ?_
        rintro e w6 ⟨q2, aq2, cq2, rfl, hr6, hnb6, hb6⟩
        have HT6 := hide (Two.copy H2.out HE2.out HR5.out HB5.out hr6 hnb6 hb6)
        have HB56 := hide (HB5.out.trans (hb6.mono HB5.out.size))
        obtain ⟨p2, hp2⟩ : ∃ p2, p2 = wo.heap.size := ⟨_, rfl⟩
        have HT6 : Hid (Two wo.heap.size w6 p2 q2 cs cs R2 R2 (fun k => k < wo.heap.size)) := hide (by rw [hp2]; exact HT6.out)
        rw [← hp2]
        have HSM := hide (fun Wx (hW : Below wo.heap.size wo Wx) => (HT1.out.same (Chg.of_below0 hW)).tells)
        obtain ⟨B2, hB2⟩ : ∃ B2, B2 = wo.heap.size := ⟨_, rfl⟩
        rw [← hB2] at HT6 HSM HB56 hwsz
        have HBB := hide hB2
        clear hp2 hr6 hnb6 hb6 HCQ5 HCPQ HCP HR5 HB5 hB2
        go_wp2_with fail
        refine (HSM.out w6 HB56.out).mono ?_
        rintro e w7 ⟨rfl, hb7⟩
        have HT7 := hide (HT6.out.same (Chg.of_below0 hb7))
        have HB7 := hide (HB56.out.trans (hb7.mono (by have := HT6.out.small; omega)))
        clear hb7
        go_wp2_with fail
        go_loopw [18] (fun i wr => ∃ j : Nat, j ≤ l.length ∧ i = .int .i64 j ∧ Hid (∃ cs, Two B2 wr p2 q2 cs cs R2 R2 (fun k => k < B2) ∧ cs.length ≤ j) ∧ Hid (Below B2 wo wr)) (fun i _ => l.length - (intOf i).toNat)
        case atStart => exact ⟨k, by omega, rfl, ⟨cs, HT7.out, HCL.out⟩, HB7.out⟩
        case round =>
          obtain ⟨j, hj, rfl, HS, HBJ⟩ := hrel
          obtain ⟨wi, rfl⟩ : ∃ wi : World, wi = wr := ⟨_, rfl⟩
          have HBW := hide (show Below W.heap.size W wi from HB.out.trans (HBJ.out.mono (by have := HBB.out; have := HB.out.size; omega)))
          by_cases hjl : j < l.length
          · obtain ⟨cs2, ht, hcl⟩ := HS.out
            have hne : l ≠ [] := by rintro rfl; simp at hjl
            obtain ⟨a', c', e, -, hcs0⟩ := (HL.out.chg (Chg.of_below HBW.out) (fun b hb' _ h => by have := HLB.out b hb' hne; omega)).shape
            obtain ⟨b, off, rfl, hcs⟩ := hcs0 (by omega)
            cases e
            obtain ⟨hx0, hx1, hx2⟩ := cv_cells wi b off l hcs j hjl
            have hcm := (HLX.out l[j] (List.getElem_mem hjl)).1
            have hfew := HFEW.out l[j] (List.getElem_mem hjl)
            have hsz := HSZ.out l[j] (List.getElem_mem hjl)
            have HT' := hide ht
            have HCL' := hide hcl
            have hbo : b < W.heap.size := HLB.out b rfl hne
            clear hcs hcs0 hne ht hcl
            generalize l[j] = y at *
            obtain ⟨yc, yp, yt⟩ := y
            simp only at hx0 hx1 hx2 hfew hsz
            have hps : Rd W yp yc.parents.length (flat int_enc yc.parents) := hcm.ps
            have hts : Rd W yt yc.tree.length (flat fl_enc yc.tree) := hcm.ts
            obtain ⟨ypo, ypc, rfl, -, -⟩ := hps.shape
            obtain ⟨yto, ytc, rfl, -, -⟩ := hts.shape
            have hyN : ∀ b, YB ⟨yc, .slice ypo yc.parents.length ypc, .slice yto yc.tree.length ytc⟩ b → b < B2 := fun b hb => by
              rcases hb with ⟨h, hn⟩ | ⟨h, hn⟩
              · have := hcm.pb b h hn; omega
              · have := hcm.tb b h hn; omega
            have HCM := hide hcm
            have HF := hide hfew
            have HZ := hide hsz
            have HYN := hide hyN
            clear hps hts hcm hfew hsz hyN
            obtain ⟨n1, hn1⟩ : ∃ n1, n1 = (addR cs2 R2 yc).1 := ⟨_, rfl⟩
            obtain ⟨e1, he1⟩ : ∃ e1, e1 = (addR cs2 R2 yc).2 := ⟨_, rfl⟩
            have hb0 : B2 ≤ wi.heap.size := by have := HT'.out.small; omega
            have hadd := HT'.out.putR (fun k hk => by omega) (HM.out.below HBW.out HM.out.pos) ⟨yc, .slice ypo yc.parents.length ypc, .slice yto yc.tree.length ytc⟩ (HCM.out.same (Chg.of_below0 HBW.out)) HF.out HYN.out (by have := HCL'.out; omega)
            simp only [← hn1, ← he1] at hadd
            have HADD : Hid (Calls Tryd.prog 18 #[.pointer (some ⟨p2, 0, none⟩), .agg #[.slice ypo yc.parents.length ypc, .slice yto yc.tree.length ytc, .string yc.note]] wi _) := hide hadd
            clear hadd
            go_wp2_with fail
            refine HADD.out.mono ?_
            rintro e w8 ⟨rfl, ht8, hy8, hb8⟩
            have HB8 := hide (HBJ.out.trans hb8)
            have hx0 := (World.cell?_of_block (a := ⟨b, off + j * 3, none⟩) (hb8.block b (by omega))).trans hx0
            have hx1 := (World.cell?_of_block (a := ⟨b, off + j * 3 + 1, none⟩) (hb8.block b (by omega))).trans hx1
            have hx2 := (World.cell?_of_block (a := ⟨b, off + j * 3 + 2, none⟩) (hb8.block b (by omega))).trans hx2
            have hadd := ht8.putQ ⟨yc, .slice ypo yc.parents.length ypc, .slice yto yc.tree.length ytc⟩ hy8 HF.out HZ.out HYN.out (by have := HCL'.out; omega)
            simp only [← hn1, ← he1] at hadd
            have HADD : Hid (Calls Tryd.prog 27 #[.pointer (some ⟨q2, 0, none⟩), .agg #[.slice ypo yc.parents.length ypc, .slice yto yc.tree.length ytc, .string yc.note]] w8 _) := hide hadd
            have hcsl := addL_len cs2 R2 yc
            have HCSL := hide (show (addL cs2 R2 yc).length ≤ j + 1 by have := HCL'.out; omega)
            clear hadd ht8 hy8 hb8 hcsl hn1 he1
            generalize addL cs2 R2 yc = cs3 at *
            go_wp2_with fail
            refine HADD.out.mono ?_
            rintro e w9 ⟨rfl, ht9, hy9, hb9⟩
            have HB9 := hide (HB8.out.trans hb9)
            have HT9 := hide ht9
            have hq1 : (n1 != n1) = false := by simp
            have hq2 : (e1 != e1) = false := by simp
            clear ht9 hy9 hb9 hx0 hx1 hx2
            go_wp2_with fail
            refine (Num_ok _ _).mono ?_
            rintro e w10 ⟨rfl, hw10⟩
            rw [hw10]
            clear hw10
            go_wp2_with fail
            go_roundw
            case rel => exact ⟨j + 1, by omega, by go_num, ⟨cs3, HT9.out, HCSL.out⟩, HB9.out⟩
            case measure => simp [intOf]; omega
          · obtain rfl : j = l.length := by omega
            obtain ⟨cs2, ht, -⟩ := HS.out
            have HTE := hide ht.tells
            try clear ht
            go_wp2_with fail
            refine HTE.out.mono ?_
            rintro e w8 ⟨rfl, hb8⟩
            have HB8 := hide (HBJ.out.trans (hb8.mono (by have := HBJ.out.size; have := HBB.out; omega)))
            clear hb8
            go_wp2_with fail
            refine (HSM.out w8 HB8.out).mono ?_
            rintro e w9 ⟨rfl, hb9⟩
            have HB9 := hide (HB8.out.trans (hb9.mono (by have := HB8.out.size; have := HBB.out; omega)))
            have HBW9 := hide (show Below W.heap.size W w9 from HB.out.trans (HB9.out.mono (by have := HBB.out; have := HB.out.size; omega)))
            clear hb9
            go_wp2_with fail
            refine (awake10 _ (HM.out.below HBW9.out HM.out.pos)).mono ?_
            rintro e w10 ⟨rfl, hb10⟩
            have HB10 := hide (HBW9.out.trans (hb10.mono HBW9.out.size))
            clear hb10
            go_wp2_with fail
            go_ret
            exact ⟨rfl, HB10.out⟩
set_option maxRecDepth 100000 in
theorem RepoScript_lifted (os : Os) (started : os.Started) (H : Type) (enc : TypeId × Value → H) :
    ReturnsInHanded {} Tryd.checked os 6 .any (fun w args => (Rows.repoScriptSpec.pre enc Tryd.prog Tryd.f6 Rows.repoScriptRow.domain false w args ∧ laidMetH Tryd.prog cardLaid w) ∧ sizedMet enc Tryd.prog Tryd.f6 (OpenSpec.ofChange Rows.repoScriptSpec) false w args) (Rows.repoScriptSpec.post enc Tryd.prog Tryd.f6 false true false false) := by
  refine card_wrap (C := Tryd.checked) (X := fun w => laidMetH Tryd.prog cardLaid w) law_own started (by kernel_rfl) Tryd.func6
    (ChangeSpec.witness_at (enc := enc) (C := Tryd.checked) (os := os) (X := fun w _ => laidMetH Tryd.prog cardLaid w) false (laidWorld os) #[.int .i64 0, .slice none 0 0, .int .i64 0, .int .i64 0] 8 rfl (by kernel_rfl) (by kernel_rfl) (by kernel_rfl) (by kernel_rfl) (by kernel_rfl) (laidWorld_met os _)) ?_
  intro W base args ds gs before hval0 hW hsh
  have hM := mx_of_shaped hsh
  have hval : ∀ (j : Nat) t v, Tryd.f6.params[j]? = some t → args[j]? = some v → Value.okWide Tryd.prog W .any base t v := hval0
  have hW' := hW
  obtain ⟨p, q, hA0, hV, rfl, hfz, hnd⟩ := hW
  have hA : DataW.TrodAll enc Tryd.prog W 0 (fun _ => true) true Tryd.f6.params.toList args.toList ds p := hA0
  rw [Tryd.params6] at hA hval
  obtain ⟨v0, vs0, d0, ds0, p0, q0, hargs, rfl, rfl, h0, r0⟩ := trodAll_cons hA
  obtain ⟨v1, vs1, d1, ds1, p1, q1, rfl, rfl, rfl, h1, r1⟩ := trodAll_cons r0
  obtain ⟨v2, vs2, d2, ds2, p2, q2, rfl, rfl, rfl, h2, r2⟩ := trodAll_cons r1
  obtain ⟨v3, vs3, d3, ds3, p3, q3, rfl, rfl, rfl, h3, r3⟩ := trodAll_cons r2
  obtain ⟨rfl, rfl, rfl⟩ := trodAll_nil r3
  obtain rfl : args = #[v0, v1, v2, v3] := by cases args; simp_all
  obtain ⟨rfl, rfl⟩ := trodVars_none hV
  have k0 := h0
  have lt0 : ∀ x ∈ p0, x.block < W.heap.size := by obtain ⟨m, hm⟩ := k0; exact DataW.trod_lt m _ _ _ hm
  obtain ⟨a0, rfl, rfl, rfl, w0⟩ := open_int Tryd.underlying3 (hval 0 3 v0 rfl rfl) h0
  have k1 := h1
  have lt1 : ∀ x ∈ p1, x.block < W.heap.size := by obtain ⟨m, hm⟩ := k1; exact DataW.trod_lt m _ _ _ hm
  obtain ⟨a1, len1, cap1, rfl⟩ := okWide_slice Tryd.underlying22 (hval 1 22 v1 rfl rfl)
  have k2 := h2
  have lt2 : ∀ x ∈ p2, x.block < W.heap.size := by obtain ⟨m, hm⟩ := k2; exact DataW.trod_lt m _ _ _ hm
  obtain ⟨a2, rfl, rfl, rfl, w2⟩ := open_int Tryd.underlying3 (hval 2 3 v2 rfl rfl) h2
  have k3 := h3
  have lt3 : ∀ x ∈ p3, x.block < W.heap.size := by obtain ⟨m, hm⟩ := k3; exact DataW.trod_lt m _ _ _ hm
  obtain ⟨a3, rfl, rfl, rfl, w3⟩ := open_int Tryd.underlying3 (hval 3 3 v3 rfl rfl) h3
  clear hA0 hval0
  refine (RepoScript_walk (enc := enc) W hM a0 w0 a1 len1 cap1 (Readable.of_trod h1) a2 w2 a3 w3).mono fun e W' ⟨he, bel⟩ => ?_
  subst he
  exact ⟨_, rfl, _, _, _, [], _, [], hW', trodAll_mk1 (shut_bool Tryd.underlying4 _), (trodAll_cons_mk (Below.trod law_laid (by kernel_rfl) (of_decide_eq_true (by kernel_rfl)) k0 bel lt0) (trodAll_cons_mk (Below.trod law_laid (by kernel_rfl) (of_decide_eq_true (by kernel_rfl)) k1 bel lt1) (trodAll_cons_mk (Below.trod law_laid (by kernel_rfl) (of_decide_eq_true (by kernel_rfl)) k2 bel lt2) (trodAll_cons_mk (Below.trod law_laid (by kernel_rfl) (of_decide_eq_true (by kernel_rfl)) k3 bel lt3) trodAll_mk0)))), rfl, bel.frame _, fun h => by cases h⟩

theorem RepoScript_over : Rows.repoScriptRow.holds Tryd.pinned (OpenSpec.ofChange Rows.repoScriptSpec) :=
  OpenClaim.holds_of_wide 6 Tryd.f6 rfl rfl rfl rfl rfl rfl rfl ⟨rfl, rfl, rfl, rfl, rfl⟩ rfl rfl rfl rfl rfl (by kernel_rfl) Tryd.func6 (by kernel_rfl)
    (of_decide_eq_true (by kernel_rfl)) (by unfold Func.isWrapper; first | (rw [if_pos (by decide +kernel)]; kernel_rfl) | (rw [if_neg (by decide +kernel)]; exact ⟨rfl, rfl⟩))
    (fun os started H enc _ => RepoScript_lifted os started H enc)

theorem RepoScript_params : ∀ (j : Nat) t, Tryd.f6.params[j]? = some t → Tryd.prog.wantsStandIn t = false := by
  intro j t ht
  rw [Tryd.params6] at ht
  have hm : t ∈ ([3, 22, 3, 3] : List TypeId) := List.mem_of_getElem? (i := j) (by simpa using ht)
  simp only [List.mem_cons, List.not_mem_nil, or_false] at hm
  rcases hm with h | h | h | h
  · subst h; exact (show Tryd.prog.wantsStandIn 3 = false by kernel_rfl)
  · subst h; exact (show Tryd.prog.wantsStandIn 22 = false by kernel_rfl)
  · subst h; exact (show Tryd.prog.wantsStandIn 3 = false by kernel_rfl)
  · subst h; exact (show Tryd.prog.wantsStandIn 3 = false by kernel_rfl)
theorem RepoScript_holds : Rows.RepoScriptCardSaid :=
  Claim7.holds_tied_plain_at .later [] [.data, .pinned] true (true, "b8549941136c75f2c554eaf403c37bf8f3fce9d6a3edd6b504917a752e07b547") false
    RepoScript_over (fun _ h => by cases h) (by kernel_rfl) (fun _ h => by cases h) repoScript_row_tie rfl ⟨rfl, rfl⟩ (by kernel_rfl) rfl
    (fun f fn hf hfn => by
      obtain rfl : f = 6 := Option.some.inj ((show Tryd.prog.funcNamed "cortege/cortegelaw10.RepoScript" = some 6 by kernel_rfl).symm.trans hf) |>.symm
      obtain rfl : fn = Tryd.f6 := (Option.some.inj (Tryd.func6.symm.trans hfn)).symm
      exact ⟨by kernel_rfl, RepoScript_params⟩)
    (by kernel_rfl)
#print axioms RepoScript_holds

end Go.Proofs.YtnnkbicaokckbaaDoor
