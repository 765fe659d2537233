/- RepoNumbers: like commits have one number, unlike ones unlike numbers; parents have lesser ones; put in again none is new. Conditions: none. -/
import Derived.Test.YtnnkbicaokckbaaDoorRows
import Derived.Test.YtnnkbicaokckbaaDoorTie
import Derived.Test.YtnnkbicaokckbaaDoorCards
import Derived.Test.YtnnkbicaokckbaaDoorCardB
import Derived.SevenTiedAt
import Derived.Test.YtnnkbicaokckbaaDoorRpF
import Derived.Test.YtnnkbicaokckbaaDoorRpZ
import Derived.Outline
import Derived.Deep.QuietTactic
import Derived.BigQuiet
namespace Go.Proofs.YtnnkbicaokckbaaDoor
open Go.ChangeShapes Go.WideShapes Go.ChangeAt Go.RowKit
open Go.ChangeMaps (open_string shut_string)
set_option linter.unusedVariables false
open Go.Shelf

theorem addL_pre (cs : List Cm) (room : Int) (c : Cm) : addL cs room c = cs ∨ addL cs room c = cs ++ [c] := by
  unfold addL
  split
  · exact .inl rfl
  split
  · exact .inl rfl
  split
  · exact .inl rfl
  split
  · exact .inl rfl
  · exact .inr rfl
theorem val_eq (x : CmV) : x.val = .agg #[x.vp, x.vt, .string x.c.note] := rfl
theorem cms_take_succ (l : List CmV) (k : Nat) (h : k < l.length) : cms (l.take (k + 1)) = cms (l.take k) ++ [l[k].c] := by
  have := (List.take_append_getElem h).symm
  rw [this]; simp only [cms, List.map_append, List.map_cons, List.map_nil]
theorem Nums.step {cs done : List Cm} {ns : List Int} (h : Nums cs done ns) (c : Cm) (hl : done.length < 40) :
    (∃ e : Int, (e = 6 ∨ e = 7) ∧ addR cs 40 c = (0, e) ∧ Nums (addL cs 40 c) (done ++ [c]) (ns ++ [0])) ∨
    (∃ j, ∃ hj : j < (addL cs 40 c).length, addR cs 40 c = ((j : Int) + 1, 0) ∧ (addL cs 40 c)[j] = c ∧ Nums (addL cs 40 c) (done ++ [c]) (ns ++ [(j : Int) + 1])) := by
  have hcl := h.cl
  cases h.good.adds 40 c with
  | bad e h1 h2 h3 =>
    refine .inl ⟨e, h2, h1, ?_⟩
    rw [h3]
    exact h.snoc h.good (by omega) (fun j hj => ⟨hj, rfl⟩) (.inl rfl)
  | old j hj h1 h2 h3 =>
    refine .inr ⟨j, by rw [h2]; exact hj, h1, by simp only [h2]; exact h3, ?_⟩
    rw [h2]
    exact h.snoc h.good (by omega) (fun j hj => ⟨hj, rfl⟩) (.inr ⟨j, hj, rfl, h3⟩)
  | full h1 h2 h3 => omega
  | new h1 h2 h3 h4 h5 =>
    refine .inr ⟨cs.length, by rw [h2]; simp, h1, by simp [h2], ?_⟩
    rw [h2]
    refine h.snoc h3 (by simp) (fun j hj => ⟨by simp; omega, by simp [hj]⟩) (.inr ⟨cs.length, by simp, rfl, by simp⟩)
/-- What lies in memory in the law's loops. -/
structure NumSt (W w : World) (p : Nat) (cs : List Cm) (vns : Value) (ns : List Int) : Prop where
  rp : RepoOff W.heap.size w p cs 40 (fun k => vns.ownBlock = some k)
  row : w.ownsRow W.heap.size 3 1 vns ns.length (flat int_enc ns)
  bel : Below W.heap.size W w
theorem NumSt.same {W w w' : World} {p : Nat} {cs : List Cm} {vns : Value} {ns : List Int} (h : NumSt W w p cs vns ns) (c : Chg (fun _ => False) w w') : NumSt W w' p cs vns ns :=
  ⟨h.rp.chg c (fun _ _ _ h => h.elim), c.owns h.row (fun _ _ h => h), h.bel.trans (c.below h.bel.size (fun _ _ h => h))⟩
theorem NumSt.added {W w w' : World} {p : Nat} {cs cs' : List Cm} {vns : Value} {ns : List Int} (h : NumSt W w p cs vns ns) (h' : RepoOff W.heap.size w' p cs' 40 (fun k => vns.ownBlock = some k)) (c : Chg (fun k => W.heap.size ≤ k ∧ ¬ vns.ownBlock = some k) w w') : NumSt W w' p cs' vns ns :=
  ⟨h', c.owns h.row (fun b hb h => h.2 hb), h.bel.trans (c.below h.bel.size (fun k hk h => by omega))⟩
theorem NumSt.snoc {W w w' : World} {p : Nat} {cs : List Cm} {vns : Value} {ns : List Int} {n : Int} {ao : Option Addr} {cap : Nat} (h : NumSt W w p cs vns ns) (hown : w'.ownsRow W.heap.size 3 1 (.slice ao (ns.length + 1) cap) (ns.length + 1) (flat int_enc ns ++ [.int .i64 n]))
    (hg : Chg (fun k => vns.ownBlock = some k) w w') (hat : (Value.slice ao (ns.length + 1) cap).ownBlock = vns.ownBlock ∨ (Value.slice ao (ns.length + 1) cap).ownBlock = some w.heap.size) : NumSt W w' p cs (.slice ao (ns.length + 1) cap) (ns ++ [n]) := by
  refine ⟨?_, by rw [List.length_append, flat_append]; exact hown, h.bel.trans (hg.below h.bel.size (fun k hk e => by have := (ownsRow_lt h.row k e).1; omega))⟩
  have hr := (h.rp.off (N' := fun k => (Value.slice ao (ns.length + 1) cap).ownBlock = some k) (fun k _ hlt hk => by
    rcases hat with e | e
    · rw [← e]; exact hk
    · rw [e] at hk; have := Option.some.inj hk; omega))
  obtain ⟨a1, c1, l1, h1, e1, n1⟩ := h.rp
  refine ⟨a1, c1, l1, h1.turn hg (fun k hk hs => n1 k hk hs), e1, fun k hk hs => ?_⟩
  have hk2 := h1.rbl hk
  rcases hat with e | e
  · exact n1 k hk (by rw [← e]; exact hs)
  · rw [e] at hs; have := Option.some.inj hs; omega
set_option maxHeartbeats 4000000 in
set_option maxRecDepth 100000 in
theorem RepoNumbers_walk {H : Type} {enc : TypeId × Value → H} (W : World) (hM : Mx W) (ao : Option Addr) (len cap : Nat) (hv : Readable enc Tryd.prog W 22 (Value.slice ao len cap).cells.toList) : Calls Tryd.prog 3 #[.slice ao len cap] W fun e W' => e = .returned (.bool true) ∧ Below W.heap.size W W' := by
  obtain ⟨l, hl, hlm, hlb, hlx⟩ := commits_of_readable hv rfl
  obtain ⟨a', c', e, -, -⟩ := hl.shape
  cases e
  have HM := hide hM
  have HL := hide hl
  have HLB := hide hlb
  have HLX := hide hlx
  have HG := hide (GreatCommits_ok W (.slice ao l.length cap) l 30 hl hlm hlb hlx (by decide))
  cases hg : greatL 30 (cms l) with
  | true =>
    rw [hg] at HG
    clear hv hl hlm hlb hlx hM hg
    go_enter Tryd.func3, Tryd.ntmps3
    go_wp2_with fail
    refine HG.out.mono ?_
    rintro e w1 ⟨rfl, hb1⟩
    have HB1 := hide hb1
    clear hb1
    go_wp2_with fail
    refine (awake10 _ (HM.out.below HB1.out HM.out.pos)).mono ?_
    rintro e w2 ⟨rfl, hb2⟩
    have HB2 := hide (HB1.out.trans (hb2.mono HB1.out.size))
    clear hb2
    go_wp2_with fail
    go_ret
    exact ⟨rfl, HB2.out⟩
  | false =>
    rw [hg] at HG
    have hg' : (decide (30 < l.length) || l.any (fun x => greatC x.c)) = false := by rw [← hg, greatL, cms_any, cms_length]
    rw [Bool.or_eq_false_iff, decide_eq_false_iff_not] at hg'
    have hl30 : l.length ≤ 30 := by omega
    have HFEW := hide (fun x (hx : x ∈ l) => Few.of_great (by have := List.any_eq_false.1 hg'.2 x hx; simpa using this : greatC x.c = false))
    clear hv hl hlm hlb hlx hM hg hg'
    go_enter Tryd.func3, Tryd.ntmps3
    go_wp2_with fail
    refine HG.out.mono ?_
    rintro e w1 ⟨rfl, hb1⟩
    have HB1 := hide hb1
    clear hb1
    go_wp2_with fail
    refine (RepoIs.new w1 40 (by omega)).mono ?_
    rintro e w2 ⟨rfl, h2, hb2⟩
    have h3 : min (max (40 : Int) 0) 120 = 40 := by decide
    rw [h3] at h2
    have HST := hide (show NumSt W w2 w1.heap.size [] (.slice none 0 0) [] from ⟨RepoOff.of_is (by obtain ⟨a, c, l, h, e⟩ := h2; exact ⟨a, c, l, ⟨h.box, ownsRow_base h.row (fun k hk => by have := (ownsRow_lt h.row k hk).1; have := HB1.out.size; omega), fun x hx => (h.cms x hx).base HB1.out.size, h.may, Nat.le_trans HB1.out.size h.pb, h.len, h.room0⟩, e⟩) (fun k _ _ h => by cases h), World.ownsRow_nil _ _ _ _, HB1.out.trans (hb2.mono HB1.out.size)⟩)
    clear h2 hb2 h3
    generalize w1.heap.size = p at HST ⊢
    go_wp2_with fail
    go_loopw [5, 4] (fun i v wr => ∃ k : Nat, k ≤ l.length ∧ i = .int .i64 k ∧ ∃ (na : Option Addr) (nc : Nat), v = .slice na k nc ∧ Hid (∃ cs ns, Nums cs (cms (l.take k)) ns ∧ ns.length = k ∧ NumSt W wr p cs (.slice na k nc) ns)) (fun i _ _ => l.length - (intOf i).toNat)
    case atStart => exact ⟨0, Nat.zero_le _, rfl, none, 0, rfl, [], [], Nums.nil, rfl, HST.out⟩
    case round =>
      obtain ⟨k, hk, rfl, na, nc, rfl, HS⟩ := hrel
      obtain ⟨wo, rfl⟩ : ∃ wo : World, wo = wr := ⟨_, rfl⟩
      by_cases hkl : k < l.length
      · obtain ⟨cs, ns, hn, hnl, hs⟩ := HS.out
        have hne : l ≠ [] := by rintro rfl; simp at hkl
        have hmx : Mx wo := HM.out.below hs.bel HM.out.pos
        obtain ⟨a', c', e, -, hcs0⟩ := (HL.out.chg (Chg.of_below hs.bel) (fun b hb' _ h => by have := HLB.out b hb' hne; omega)).shape
        obtain ⟨b, off, rfl, hcs⟩ := hcs0 (by omega)
        cases e
        obtain ⟨hx0, hx1, hx2⟩ := cv_cells wo b off l hcs k hkl
        have hdl : (cms (l.take k)).length = k := by rw [cms_length, List.length_take]; omega
        have hcl := hn.cl
        have hcm := (HLX.out l[k] (List.getElem_mem hkl)).1
        have hcmk : ∀ q (hq : q < l.length), CmAt W l[q] := fun q hq => (HLX.out l[q] (List.getElem_mem hq)).1
        have hfew := HFEW.out l[k] (List.getElem_mem hkl)
        have hadd := hs.rp.add (fun b hb => (ownsRow_lt hs.row b hb).2) hmx l[k] (hcm.same (Chg.of_below0 hs.bel)) hfew (by omega)
        have hdone : cms (l.take (k + 1)) = cms (l.take k) ++ [l[k].c] := cms_take_succ l k hkl
        have hstep := hn.step l[k].c (by omega)
        rw [← hdone] at hstep
        have HSO := hide hs
        have HNU := hide hn
        have HNL := hide hnl
        have HKL := hide hkl
        have HBO := hide (show b < W.heap.size from HLB.out b rfl hne)
        rcases hstep with ⟨e, he, hR, hN'⟩ | ⟨j, hj, hR, hcj, hN'⟩
        · simp only [hR] at hadd
          have HADD := hide hadd
          have HN' := hide hN'
          unfold CmV.val at HADD
          clear hadd hR hN' hdone hfew hcm hcmk hdl hcl hcs hcs0 hmx hn hnl hs hne
          go_wp2_with fail
          refine HADD.out.mono ?_
          rintro e2 w3 ⟨rfl, ho3, hc3⟩
          have HS3 := hide (HSO.out.added ho3 hc3)
          have hw4 := (HS3.out.same (Chg.alloc (fun _ => False) w3 (.cells #[.int .i64 0] 3)))
          have HW4 := hide hw4
          have HNL' := hide (show ns.length = k from HNL.out)
          clear ho3 hc3 hw4
          rcases he with rfl | rfl
          all_goals
            go_wp2_with (at_builtin; refine wpl_append rfl _ _ _ rfl int_slT W.heap.size (n := k) (by have := HW4.out.row; rw [HNL'.out] at this; exact this) (Rd_lit w3 #[.int .i64 0] 3 1) rfl rfl rfl (by simp [Value.oneCell']) (by unfold maxLen; omega) (by omega) HW4.out.bel.size ?_; intro ao4 cap4 w4 hown hg hat _; have HOW := hide hown; have HGG := hide hg; have HAT := hide hat; clear hown hg hat)
            go_roundw
            case rel =>
              refine ⟨k + 1, by omega, by go_num, ao4, cap4, rfl, _, _, HN'.out, by rw [List.length_append, HNL'.out]; rfl, ?_⟩
              have := HW4.out.snoc (n := 0) (ao := ao4) (cap := cap4) (w' := w4) (by rw [HNL'.out]; exact HOW.out) HGG.out (by rw [HNL'.out]; exact HAT.out)
              rw [HNL'.out] at this
              exact this
            case measure => simp [intOf]; omega
        · obtain ⟨n, hnj⟩ : ∃ n : Int, n = (j : Int) + 1 := ⟨_, rfl⟩
          rw [← hnj] at hR hN'
          have htell := hN'.tell hj hcj
          rw [← hnj] at htell
          have hjb : j < 40 := by have := hN'.cl; rw [cms_length, List.length_take] at this; omega
          have hn0 : 1 ≤ n ∧ n ≤ 100 := by omega
          simp only [hR] at hadd
          have HADD := hide hadd
          have HN' := hide hN'
          unfold CmV.val at HADD
          have hT2 : ∀ q (hq : q < k) (hql : q < l.length) (hqn : q < ns.length), ns[q] > 0 → ((ns[q] == n) = cmEq l[q].c l[k].c) := fun q hq hql hqn hpos => by
            have q1 : q < (ns ++ [n]).length := by rw [List.length_append]; omega
            have q2 : q < (cms (l.take (k + 1))).length := by rw [cms_length, List.length_take]; omega
            have e1 : (ns ++ [n])[q] = ns[q] := List.getElem_append_left hqn
            have e2 : (cms (l.take (k + 1)))[q] = l[q].c := by simp [cms]
            have := htell.2 q q1 q2 (by rw [e1]; exact hpos)
            rw [e1, e2] at this
            exact this
          have HT1 := hide htell.1
          have HT2 := hide hT2
          have hcsW : CellsAt W b off (flat cv_enc l) := by
            obtain ⟨a2, c2, e2, -, h2⟩ := HL.out.shape
            cases e2
            obtain ⟨b3, off3, e3, h3⟩ := h2 (by omega)
            cases e3
            exact h3
          have HCS := hide hcsW
          have HCM := hide hcmk
          clear hadd hR hN' hdone hcmk hdl hcl hcs hcs0 hmx hn hnl hs hne htell hT2 hcsW hnj hcj hjb
          go_wp2_with fail
          refine HADD.out.mono ?_
          rintro e2 w3 ⟨rfl, ho3, hc3⟩
          have HS3 := hide (HSO.out.added ho3 hc3)
          have hw4 := (HS3.out.same (Chg.alloc (fun _ => False) w3 (.cells #[.int .i64 n] 3)))
          have HW4 := hide hw4
          have HNL' := hide (show ns.length = k from HNL.out)
          clear ho3 hc3 hw4
          go_wp2_with (at_builtin; refine wpl_append rfl _ _ _ rfl int_slT W.heap.size (n := k) (by have := HW4.out.row; rw [HNL'.out] at this; exact this) (Rd_lit w3 #[.int .i64 n] 3 1) rfl rfl rfl (by simp [Value.oneCell']) (by unfold maxLen; omega) (by omega) HW4.out.bel.size ?_; intro ao4 cap4 w4 hown hg hat _; have HOW := hide hown; have HGG := hide hg; have HAT := hide hat; clear hown hg hat)
          have hst4 : NumSt W w4 p (addL cs 40 l[k].c) (.slice ao4 (k + 1) cap4) (ns ++ [n]) := by
            have := HW4.out.snoc (n := n) (ao := ao4) (cap := cap4) (w' := w4) (by rw [HNL'.out]; exact HOW.out) HGG.out (by rw [HNL'.out]; exact HAT.out)
            rw [HNL'.out] at this
            exact this
          have HST4 := hide hst4
          have hc4 : CellsAt w4 b off (flat cv_enc l) := HCS.out.chg (Chg.of_below hst4.bel) (fun _ h => by have := HBO.out; omega)
          have HC4 := hide hc4
          obtain ⟨hy0, hy1, hy2⟩ := cv_cells w4 b off l hc4 k hkl
          have hcm4 := hcm.same (Chg.of_below0 hst4.bel)
          have HCM4 := hide hcm4
          have hT1 := HT1.out
          have hps4 := hcm4.ps
          clear hst4 hc4 hx0 hx1 hx2 hcm HADD HSO HS3 HW4 HOW HGG HAT HT1
          obtain ⟨po, pc, hvp, -, hpsh⟩ := hps4.shape
          have HYV := hide hy0
          rw [hvp] at hy0
          have HT1 := hide hT1
          have HPS := hide hpsh
          have hpl : l[k].c.parents.length ≤ 1000000 := hfew.1
          have HFX := hide hfew
          clear hps4 hcm4 hT1 hpsh hfew hvp
          generalize hpp : l[k].c.parents = ps at *
          go_loop [8] (fun i => ∃ q : Nat, q ≤ ps.length ∧ i = .int .i64 q) (fun i => ps.length - (intOf i).toNat)
          case atStart => exact ⟨0, Nat.zero_le _, rfl⟩
          case round =>
            obtain ⟨q, hq, rfl⟩ := hrel
            by_cases hql : q < ps.length
            · obtain ⟨pb, poff, rfl, hpc⟩ := HPS.out (by omega)
              have hpq := hpc q (.int .i64 ps[q]) (by rw [flat_int]; simp [hql])
              have hbq := HT1.out ps[q] (List.getElem_mem hql)
              have d1 : decide (ps[q] ≥ n) = false := decide_eq_false (by omega)
              have d2 : decide (ps[q] < 1) = false := decide_eq_false (by omega)
              clear hpc hbq
              generalize ps[q] = pq at *
              go_wp2_with fail
              go_round
              case rel => exact ⟨q + 1, by omega, by go_num⟩
              case measure => simp [intOf]; omega
            · obtain rfl : q = ps.length := by omega
              have HY1 := hide hy1
              have HY2 := hide hy2
              go_wp2_with fail
              clear hy0 hy1 hy2
              go_loopw [9] (fun i wr => ∃ q : Nat, q ≤ k ∧ i = .int .i64 q ∧ Hid (Chg (fun _ => False) w4 wr)) (fun i _ => k - (intOf i).toNat)
              case atStart => exact ⟨0, Nat.zero_le _, rfl, Chg.refl _ _⟩
              case round =>
                obtain ⟨q, hq, rfl, HCW⟩ := hrel
                obtain ⟨wi, rfl⟩ : ∃ wi : World, wi = wr := ⟨_, rfl⟩
                by_cases hqk : q < k
                · have hqn : q < ns.length := by rw [HNL'.out]; exact hqk
                  have hql' : q < l.length := by omega
                  have hrow := HST4.out.row
                  rw [show (ns ++ [n]).length = k + 1 by rw [List.length_append, HNL'.out]; rfl] at hrow
                  obtain ⟨a5, c5, e5, -, h5⟩ := (Rd.of_owns hrow).shape
                  cases e5
                  obtain ⟨nb, noff, rfl, hnc⟩ := h5 (by omega)
                  have hcq : w4.cell? ⟨nb, noff + q, none⟩ = some (.int .i64 ns[q]) := hnc q (.int .i64 ns[q]) (by rw [flat_int, List.getElem?_map, List.getElem?_append_left hqn, List.getElem?_eq_getElem hqn]; rfl)
                  have hz := HCW.out.cell hcq (fun h => h)
                  have hcmp := HT2.out q hqk hql' hqn
                  obtain ⟨hu0, hu1, hu2⟩ := cv_cells w4 b off l HC4.out q hql'
                  have hv0 := HCW.out.cell hu0 (fun h => h)
                  have hv1 := HCW.out.cell hu1 (fun h => h)
                  have hv2 := HCW.out.cell hu2 (fun h => h)
                  have hy0 := HCW.out.cell HYV.out (fun h => h)
                  have hqk1 : (q : Int) < (k : Int) + 1 := by omega
                  have hy1 := HCW.out.cell HY1.out (fun h => h)
                  have hy2 := HCW.out.cell HY2.out (fun h => h)
                  have HUM := hide ((HCM.out q hql').same (Chg.of_below0 (HST4.out.bel)))
                  have HUF := hide (HFEW.out l[q] (List.getElem_mem hql'))
                  clear hrow h5 hnc hcq hu0 hu1 hu2
                  generalize ns[q] = m at *
                  by_cases hm : m > 0
                  · have d1 : decide (m > 0) = true := decide_eq_true hm
                    have hcmp' := hcmp hm
                    clear hcmp hm
                    have HSC := hide (fun Wx (hWx : Chg (fun _ => False) w4 Wx) => law_SameCommit Wx l[q] l[k] (HUM.out.same hWx) (HCM4.out.same hWx) HUF.out HFX.out)
                    rw [← hcmp'] at HSC
                    simp only [val_eq] at HSC
                    clear hcmp'
                    go_wp2_with fail
                    refine reg_start (Chg (fun _ => False) wi) 23 23 (by rfl) (by kernel_rfl) (Chg.drew _ _) ?_
                    intro hS0
                    have hSc := hS0
                    refine reg_take (i := 0) (v := ?g2v) rfl (by kernel_rfl) (by kernel_rfl) (by kernel_rfl) (by kernel_rfl) (fun _ _ _ h => h) (by rfl) ?g2y (by assumption) ?g2r
                    case g2y => (intro W hS; first | (go_simp; done) | (go_simp; with_reducible rfl))
                    simp only [Act.put, List.setIfInBounds_toArray, List.set_cons_zero, List.set_cons_succ]
                    refine reg_take (i := 1) (v := ?g3v) rfl (by kernel_rfl) (by kernel_rfl) (by kernel_rfl) (by kernel_rfl) (fun _ _ _ h => h) (by rfl) ?g3y (by assumption) ?g3r
                    case g3y => (intro W hS; first | (go_simp; done) | (go_simp; with_reducible rfl))
                    simp only [Act.put, List.setIfInBounds_toArray, List.set_cons_zero, List.set_cons_succ]
                    refine reg_take (i := 2) (v := ?g4v) rfl (by kernel_rfl) (by kernel_rfl) (by kernel_rfl) (by kernel_rfl) (fun _ _ _ h => h) (by rfl) ?g4y (by assumption) ?g4r
                    case g4y => (intro W hS; first | (go_simp; done) | (go_simp; with_reducible rfl))
                    simp only [Act.put, List.setIfInBounds_toArray, List.set_cons_zero, List.set_cons_succ]
                    refine reg_take (i := 3) (v := ?g5v) rfl (by kernel_rfl) (by kernel_rfl) (by kernel_rfl) (by kernel_rfl) (fun _ _ _ h => h) (by rfl) ?g5y (by assumption) ?g5r
                    case g5y => (intro W hS; have f0 := hS.cell hz (fun h => h); have f1 := hS.cell hv0 (fun h => h); have f2 := hS.cell hv1 (fun h => h); have f3 := hS.cell hv2 (fun h => h); have f4 := hS.cell hy0 (fun h => h); have f5 := hS.cell hy1 (fun h => h); have f6 := hS.cell hy2 (fun h => h); first | (go_simp; done) | (go_simp; with_reducible rfl))
                    simp only [Act.put, List.setIfInBounds_toArray, List.set_cons_zero, List.set_cons_succ]
                    refine reg_take (i := 4) (v := ?g6v) rfl (by kernel_rfl) (by kernel_rfl) (by kernel_rfl) (by kernel_rfl) (fun _ _ _ h => h) (by rfl) ?g6y (by assumption) ?g6r
                    case g6y => (intro W hS; first | (go_simp; done) | (go_simp; with_reducible rfl))
                    simp only [Act.put, List.setIfInBounds_toArray, List.set_cons_zero, List.set_cons_succ]
                    refine reg_take (i := 5) (v := ?g7v) rfl (by kernel_rfl) (by kernel_rfl) (by kernel_rfl) (by kernel_rfl) (fun _ _ _ h => h) (by rfl) ?g7y (by assumption) ?g7r
                    case g7y => (intro W hS; first | (go_simp; done) | (go_simp; with_reducible rfl))
                    simp only [Act.put, List.setIfInBounds_toArray, List.set_cons_zero, List.set_cons_succ]
                    refine reg_take (i := 6) (v := ?g8v) rfl (by kernel_rfl) (by kernel_rfl) (by kernel_rfl) (by kernel_rfl) (fun _ _ _ h => h) (by rfl) ?g8y (by assumption) ?g8r
                    case g8y => (intro W hS; first | (go_simp; done) | (go_simp; with_reducible rfl))
                    simp only [Act.put, List.setIfInBounds_toArray, List.set_cons_zero, List.set_cons_succ]
                    refine reg_take (i := 7) (v := ?g9v) rfl (by kernel_rfl) (by kernel_rfl) (by kernel_rfl) (by kernel_rfl) (fun _ _ _ h => h) (by rfl) ?g9y (by assumption) ?g9r
                    case g9y => (intro W hS; first | (go_simp; done) | (go_simp; with_reducible rfl))
                    simp only [Act.put, List.setIfInBounds_toArray, List.set_cons_zero, List.set_cons_succ]
                    refine reg_take (i := 8) (v := ?g10v) rfl (by kernel_rfl) (by kernel_rfl) (by kernel_rfl) (by kernel_rfl) (fun _ _ _ h => h) (by rfl) ?g10y (by assumption) ?g10r
                    case g10y => (intro W hS; first | (go_simp; done) | (go_simp; with_reducible rfl))
                    simp only [Act.put, List.setIfInBounds_toArray, List.set_cons_zero, List.set_cons_succ]
                    refine reg_take (i := 9) (v := ?g11v) rfl (by kernel_rfl) (by kernel_rfl) (by kernel_rfl) (by kernel_rfl) (fun _ _ _ h => h) (by rfl) ?g11y (by assumption) ?g11r
                    case g11y => (intro W hS; have f0 := hS.cell hz (fun h => h); have f1 := hS.cell hv0 (fun h => h); have f2 := hS.cell hv1 (fun h => h); have f3 := hS.cell hv2 (fun h => h); have f4 := hS.cell hy0 (fun h => h); have f5 := hS.cell hy1 (fun h => h); have f6 := hS.cell hy2 (fun h => h); first | (go_simp; done) | (go_simp; with_reducible rfl))
                    simp only [Act.put, List.setIfInBounds_toArray, List.set_cons_zero, List.set_cons_succ]
                    refine reg_take (i := 10) (v := ?g12v) rfl (by kernel_rfl) (by kernel_rfl) (by kernel_rfl) (by kernel_rfl) (fun _ _ _ h => h) (by rfl) ?g12y (by assumption) ?g12r
                    case g12y => (intro W hS; first | (go_simp; done) | (go_simp; with_reducible rfl))
                    simp only [Act.put, List.setIfInBounds_toArray, List.set_cons_zero, List.set_cons_succ]
                    refine reg_take (i := 11) (v := ?g13v) rfl (by kernel_rfl) (by kernel_rfl) (by kernel_rfl) (by kernel_rfl) (fun _ _ _ h => h) (by rfl) ?g13y (by assumption) ?g13r
                    case g13y => (intro W hS; first | (go_simp; done) | (go_simp; with_reducible rfl))
                    simp only [Act.put, List.setIfInBounds_toArray, List.set_cons_zero, List.set_cons_succ]
                    refine reg_take (i := 12) (v := ?g14v) rfl (by kernel_rfl) (by kernel_rfl) (by kernel_rfl) (by kernel_rfl) (fun _ _ _ h => h) (by rfl) ?g14y (by assumption) ?g14r
                    case g14y => (intro W hS; first | (go_simp; done) | (go_simp; with_reducible rfl))
                    simp only [Act.put, List.setIfInBounds_toArray, List.set_cons_zero, List.set_cons_succ]
                    refine reg_take (i := 13) (v := ?g15v) rfl (by kernel_rfl) (by kernel_rfl) (by kernel_rfl) (by kernel_rfl) (fun _ _ _ h => h) (by rfl) ?g15y (by assumption) ?g15r
                    case g15y => (intro W hS; first | (go_simp; done) | (go_simp; with_reducible rfl))
                    simp only [Act.put, List.setIfInBounds_toArray, List.set_cons_zero, List.set_cons_succ]
                    refine reg_take (i := 14) (v := ?g16v) rfl (by kernel_rfl) (by kernel_rfl) (by kernel_rfl) (by kernel_rfl) (fun _ _ _ h => h) (by rfl) ?g16y (by assumption) ?g16r
                    case g16y => (intro W hS; first | (go_simp; done) | (go_simp; with_reducible rfl))
                    simp only [Act.put, List.setIfInBounds_toArray, List.set_cons_zero, List.set_cons_succ]
                    refine reg_take (i := 15) (v := ?g17v) rfl (by kernel_rfl) (by kernel_rfl) (by kernel_rfl) (by kernel_rfl) (fun _ _ _ h => h) (by rfl) ?g17y (by assumption) ?g17r
                    case g17y => (intro W hS; have f0 := hS.cell hz (fun h => h); have f1 := hS.cell hv0 (fun h => h); have f2 := hS.cell hv1 (fun h => h); have f3 := hS.cell hv2 (fun h => h); have f4 := hS.cell hy0 (fun h => h); have f5 := hS.cell hy1 (fun h => h); have f6 := hS.cell hy2 (fun h => h); first | (go_simp; done) | (go_simp; with_reducible rfl))
                    simp only [Act.put, List.setIfInBounds_toArray, List.set_cons_zero, List.set_cons_succ]
                    refine reg_take (i := 16) (v := ?g18v) rfl (by kernel_rfl) (by kernel_rfl) (by kernel_rfl) (by kernel_rfl) (fun _ _ _ h => h) (by rfl) ?g18y (by assumption) ?g18r
                    case g18y => (intro W hS; first | (go_simp; done) | (go_simp; with_reducible rfl))
                    simp only [Act.put, List.setIfInBounds_toArray, List.set_cons_zero, List.set_cons_succ]
                    refine reg_take (i := 17) (v := ?g19v) rfl (by kernel_rfl) (by kernel_rfl) (by kernel_rfl) (by kernel_rfl) (fun _ _ _ h => h) (by rfl) ?g19y (by assumption) ?g19r
                    case g19y => (intro W hS; first | (go_simp; done) | (go_simp; with_reducible rfl))
                    simp only [Act.put, List.setIfInBounds_toArray, List.set_cons_zero, List.set_cons_succ]
                    refine reg_take (i := 18) (v := ?g20v) rfl (by kernel_rfl) (by kernel_rfl) (by kernel_rfl) (by kernel_rfl) (fun _ _ _ h => h) (by rfl) ?g20y (by assumption) ?g20r
                    case g20y => (intro W hS; first | (go_simp; done) | (go_simp; with_reducible rfl))
                    simp only [Act.put, List.setIfInBounds_toArray, List.set_cons_zero, List.set_cons_succ]
                    refine reg_take (i := 19) (v := ?g21v) rfl (by kernel_rfl) (by kernel_rfl) (by kernel_rfl) (by kernel_rfl) (fun _ _ _ h => h) (by rfl) ?g21y (by assumption) ?g21r
                    case g21y => (intro W hS; have f0 := hS.cell hz (fun h => h); have f1 := hS.cell hv0 (fun h => h); have f2 := hS.cell hv1 (fun h => h); have f3 := hS.cell hv2 (fun h => h); have f4 := hS.cell hy0 (fun h => h); have f5 := hS.cell hy1 (fun h => h); have f6 := hS.cell hy2 (fun h => h); first | (go_simp; done) | (go_simp; with_reducible rfl))
                    simp only [Act.put, List.setIfInBounds_toArray, List.set_cons_zero, List.set_cons_succ]
                    refine reg_one (i := 20) (by kernel_rfl) ?_
                    refine op_call (i := 20) (#[.agg #[l[q].vp, l[q].vt, .string l[q].c.note], .agg #[l[k].vp, l[k].vt, .string l[k].c.note]]) rfl (by rfl) (enters_of Tryd.func19 (by kernel_rfl) rfl) (by first | (simp [Act.eval]; done) | rfl | (simp only [List.map_toArray, List.map_cons, List.map_nil, Act.eval]; rfl) | (simp [Act.eval]; trace_state; done)) ?_
                    refine (HSC.out _ (HCW.out.trans hSc (fun _ _ h => h) (fun _ _ h => h))).mono ?_
                    rintro e w6 ⟨rfl, hb6⟩
                    have hSc := hSc.trans (Chg.of_below0 (S := fun _ => False) hb6) (S'' := fun _ => False) (fun _ _ h => h) (fun _ _ h => h)
                    clear hb6
                    refine ⟨_, rfl, hSc, ?_⟩
                    simp only [Act.put, List.setIfInBounds_toArray, List.set_cons_zero, List.set_cons_succ]
                    refine reg_take (i := 21) (v := ?g22v) rfl (by kernel_rfl) (by kernel_rfl) (by kernel_rfl) (by kernel_rfl) (fun _ _ _ h => h) (by rfl) ?g22y (by assumption) ?g22r
                    case g22y => (intro W hS; first | (go_simp; done) | (go_simp; with_reducible rfl))
                    simp only [Act.put, List.setIfInBounds_toArray, List.set_cons_zero, List.set_cons_succ]
                    refine reg_take (i := 22) (v := ?g23v) rfl (by kernel_rfl) (by kernel_rfl) (by kernel_rfl) (by kernel_rfl) (fun _ _ _ h => h) (by rfl) ?g23y (by assumption) ?g23r
                    case g23y => (intro W hS; first | (go_simp; done) | (go_simp; with_reducible rfl))
                    simp only [Act.put, List.setIfInBounds_toArray, List.set_cons_zero, List.set_cons_succ]
                    refine wpAnyG_done (by kernel_rfl) ?_ _
                    have HC6 := hide (HCW.out.trans hSc (S'' := fun _ => False) (fun _ _ h => h) (fun _ _ h => h))
                    clear hS0 hSc
                    go_wp2_with fail
                    go_roundw
                    case rel => exact ⟨q + 1, by omega, by go_num, HC6⟩
                    case measure => simp [intOf]; omega
                  · have d1 : decide (m > 0) = false := decide_eq_false hm
                    clear hcmp hm
                    go_wp2_with fail
                    refine wp_region_quiet_lit (by kernel_rfl) (by kernel_rfl) ?_
                    repeat (go_big_quiet_step (fail))
                    refine wpQuiet_nil ?_
                    intro _ hw'
                    obtain ⟨nq, hw''⟩ := hw'
                    subst hw''
                    go_wp2_with fail
                    go_roundw
                    case rel => exact ⟨q + 1, by omega, by go_num, HCW.out.trans (Chg.drewN _ _ nq) (fun _ _ h => h) (fun _ _ h => h)⟩
                    case measure => simp [intOf]; omega
                · obtain rfl : q = k := by omega
                  go_wp2_with fail
                  go_roundw
                  case rel => exact ⟨q + 1, by omega, by go_num, ao4, cap4, rfl, _, _, HN'.out, by rw [List.length_append, HNL'.out]; rfl, HST4.out.same HCW.out⟩
                  case measure => simp [intOf]; omega
      · obtain rfl : k = l.length := by omega
        obtain ⟨cs, ns, hn, hnl, hs⟩ := HS.out
        have HNU := hide hn
        have HNL := hide hnl
        have HSO := hide hs
        have hmany := hs.rp.is.lenC
        have HMANY := hide hmany
        have hcl : cs.length ≤ 30 := by have := hn.cl; rw [cms_length, List.length_take] at this; omega
        clear hn hnl hs hmany HS
        go_wp2_with fail
        refine HMANY.out.mono ?_
        rintro e w3 ⟨rfl, rfl⟩
        go_wp2_with fail
        go_loopw [11] (fun i wr => ∃ q : Nat, q ≤ l.length ∧ i = .int .i64 q ∧ Hid (NumSt W wr p cs (.slice na l.length nc) ns)) (fun i _ => l.length - (intOf i).toNat)
        case atStart => exact ⟨0, Nat.zero_le _, rfl, HSO⟩
        case round =>
          obtain ⟨q, hq, rfl, HSI⟩ := hrel
          obtain ⟨wi, rfl⟩ : ∃ wi : World, wi = wr := ⟨_, rfl⟩
          by_cases hql : q < l.length
          · have hqn : q < ns.length := by rw [HNL.out]; exact hql
            have hne : l ≠ [] := by rintro rfl; simp at hql
            have hs := HSI.out
            have hrow := hs.row
            rw [HNL.out] at hrow
            obtain ⟨a5, c5, e5, -, h5⟩ := (Rd.of_owns hrow).shape
            cases e5
            obtain ⟨nb, noff, rfl, hnc⟩ := h5 (by omega)
            have hz : wi.cell? ⟨nb, noff + q, none⟩ = some (.int .i64 ns[q]) := hnc q (.int .i64 ns[q]) (by rw [flat_int, List.getElem?_map, List.getElem?_eq_getElem hqn]; rfl)
            obtain ⟨a', c', e, -, hcs0⟩ := (HL.out.chg (Chg.of_below hs.bel) (fun b hb' _ h => by have := HLB.out b hb' hne; omega)).shape
            obtain ⟨b, off, rfl, hcs⟩ := hcs0 (by omega)
            cases e
            obtain ⟨hx0, hx1, hx2⟩ := cv_cells wi b off l hcs q hql
            have hno := HNU.out.no q hqn (by rw [cms_length, List.length_take]; omega)
            have hmx : Mx wi := HM.out.below hs.bel HM.out.pos
            have hcm := (HLX.out l[q] (List.getElem_mem hql)).1
            have hfew := HFEW.out l[q] (List.getElem_mem hql)
            have hadd := hs.rp.add (fun b hb => (ownsRow_lt hs.row b hb).2) hmx l[q] (hcm.same (Chg.of_below0 hs.bel)) hfew (by omega)
            have hdone : (cms (l.take l.length))[q]'(by rw [cms_length, List.length_take]; omega) = l[q].c := by simp [cms]
            rw [hdone] at hno
            have hbl : b < W.heap.size := HLB.out b rfl hne
            have hcsW : CellsAt W b off (flat cv_enc l) := by
              obtain ⟨a2, c2, e2, -, h2⟩ := HL.out.shape
              cases e2
              obtain ⟨b3, off3, e3, h3⟩ := h2 (by omega)
              cases e3
              exact h3
            have HBL := hide hbl
            have HCS := hide hcsW
            have HCM := hide hcm
            have HFX := hide hfew
            clear hs hrow h5 hnc hcs hcs0 hmx hdone hne hcm hfew hbl hcsW
            generalize hm0 : ns[q] = m at *
            have HM0 := hide hm0
            clear hm0
            by_cases hm : m > 0
            · rcases hno with h0 | ⟨j, hj, e1, e2⟩
              · omega
              · have hag := HNU.out.good.again 40 hj
                rw [e2] at hag
                simp only [hag.1, hag.2.1] at hadd
                have hfi := fun Wx (hWx : NumSt W Wx p cs (.slice (some ⟨nb, noff, none⟩) l.length nc) ns) => hide (hWx.rp.is.find l[q] (HCM.out.same (Chg.of_below0 hWx.bel)) HFX.out)
                simp only [hag.2.2, ← e1, val_eq] at hfi
                simp only [← e1, val_eq] at hadd
                have HADD := hide hadd
                have d1 : decide (m > 0) = true := decide_eq_true hm
                have hmb : 0 < m ∧ m ≤ 2000 := by omega
                clear hag hadd hm e1 e2 hj
                go_wp2_with fail
                refine HADD.out.mono ?_
                rintro e2 w4 ⟨rfl, ho4, hc4⟩
                have hs4 := HSI.out.added ho4 hc4
                have HS4 := hide hs4
                have hcs4 : CellsAt w4 b off (flat cv_enc l) := HCS.out.chg (Chg.of_below hs4.bel) (fun _ h => by have := HBL.out; omega)
                obtain ⟨hy0, hy1, hy2⟩ := cv_cells w4 b off l hcs4 q hql
                have hrow4 := hs4.row
                rw [HNL.out] at hrow4
                obtain ⟨a5, c5, e5, -, h5⟩ := (Rd.of_owns hrow4).shape
                cases e5
                obtain ⟨nb', noff', e6, hnc⟩ := h5 (by omega)
                cases e6
                have hz4 : w4.cell? ⟨nb, noff + q, none⟩ = some (.int .i64 m) := hnc q (.int .i64 m) (by rw [flat_int, List.getElem?_map, List.getElem?_eq_getElem hqn, HM0.out]; rfl)
                have HF4 := hide (hfi w4 hs4).out
                clear hs4 hcs4 hrow4 h5 hnc hx0 hx1 hx2 hz ho4 hc4
                go_wp2_with fail
                refine HF4.out.mono ?_
                rintro e2 w5 ⟨rfl, hb5⟩
                have HS5 := hide (HS4.out.same (Chg.of_below0 hb5))
                clear hb5 hy0 hy1 hy2 hz4
                go_wp2_with fail
                go_roundw
                case rel => exact ⟨q + 1, by omega, by go_num, HS5⟩
                case measure => simp [intOf]; omega
            · have d1 : decide (m > 0) = false := decide_eq_false hm
              clear hno hm hadd
              go_wp2_with fail
              go_roundw
              case rel => exact ⟨q + 1, by omega, by go_num, HSI⟩
              case measure => simp [intOf]; omega
          · obtain rfl : q = l.length := by omega
            have HLN := hide HSI.out.rp.is.lenC
            go_wp2_with fail
            refine HLN.out.mono ?_
            rintro e w4 ⟨rfl, rfl⟩
            go_wp2_with fail
            refine (awake10 _ (HM.out.below HSI.out.bel HM.out.pos)).mono ?_
            rintro e w5 ⟨rfl, hb5⟩
            have HB5 := hide (HSI.out.bel.trans (hb5.mono HSI.out.bel.size))
            clear hb5
            go_wp2_with fail
            go_ret
            exact ⟨rfl, HB5.out⟩
set_option maxRecDepth 100000 in
theorem RepoNumbers_lifted (os : Os) (started : os.Started) (H : Type) (enc : TypeId × Value → H) :
    ReturnsInHanded {} Tryd.checked os 3 .any (fun w args => (Rows.repoNumbersSpec.pre enc Tryd.prog Tryd.f3 Rows.repoNumbersRow.domain false w args ∧ laidMetH Tryd.prog cardLaid w) ∧ sizedMet enc Tryd.prog Tryd.f3 (OpenSpec.ofChange Rows.repoNumbersSpec) false w args) (Rows.repoNumbersSpec.post enc Tryd.prog Tryd.f3 false true false false) := by
  refine card_wrap (C := Tryd.checked) (X := fun w => laidMetH Tryd.prog cardLaid w) law_own started (by kernel_rfl) Tryd.func3
    (ChangeSpec.witness_at (enc := enc) (C := Tryd.checked) (os := os) (X := fun w _ => laidMetH Tryd.prog cardLaid w) false (laidWorld os) #[.slice none 0 0] 8 rfl (by kernel_rfl) (by kernel_rfl) (by kernel_rfl) (by kernel_rfl) (by kernel_rfl) (laidWorld_met os _)) ?_
  intro W base args ds gs before hval0 hW hsh
  have hM := mx_of_shaped hsh
  have hval : ∀ (j : Nat) t v, Tryd.f3.params[j]? = some t → args[j]? = some v → Value.okWide Tryd.prog W .any base t v := hval0
  have hW' := hW
  obtain ⟨p, q, hA0, hV, rfl, hfz, hnd⟩ := hW
  have hA : DataW.TrodAll enc Tryd.prog W 0 (fun _ => true) true Tryd.f3.params.toList args.toList ds p := hA0
  rw [Tryd.params3] at hA hval
  obtain ⟨v0, vs0, d0, ds0, p0, q0, hargs, rfl, rfl, h0, r0⟩ := trodAll_cons hA
  obtain ⟨rfl, rfl, rfl⟩ := trodAll_nil r0
  obtain rfl : args = #[v0] := by cases args; simp_all
  obtain ⟨rfl, rfl⟩ := trodVars_none hV
  have k0 := h0
  have lt0 : ∀ x ∈ p0, x.block < W.heap.size := by obtain ⟨m, hm⟩ := k0; exact DataW.trod_lt m _ _ _ hm
  obtain ⟨a0, len0, cap0, rfl⟩ := okWide_slice Tryd.underlying22 (hval 0 22 v0 rfl rfl)
  clear hA0 hval0
  refine (RepoNumbers_walk (enc := enc) W hM a0 len0 cap0 (Readable.of_trod h0)).mono fun e W' ⟨he, bel⟩ => ?_
  subst he
  exact ⟨_, rfl, _, _, _, [], _, [], hW', trodAll_mk1 (shut_bool Tryd.underlying4 _), (trodAll_cons_mk (Below.trod law_laid (by kernel_rfl) (of_decide_eq_true (by kernel_rfl)) k0 bel lt0) trodAll_mk0), rfl, bel.frame _, fun h => by cases h⟩

theorem RepoNumbers_over : Rows.repoNumbersRow.holds Tryd.pinned (OpenSpec.ofChange Rows.repoNumbersSpec) :=
  OpenClaim.holds_of_wide 3 Tryd.f3 rfl rfl rfl rfl rfl rfl rfl ⟨rfl, rfl, rfl, rfl, rfl⟩ rfl rfl rfl rfl rfl (by kernel_rfl) Tryd.func3 (by kernel_rfl)
    (of_decide_eq_true (by kernel_rfl)) (by unfold Func.isWrapper; first | (rw [if_pos (by decide +kernel)]; kernel_rfl) | (rw [if_neg (by decide +kernel)]; exact ⟨rfl, rfl⟩))
    (fun os started H enc _ => RepoNumbers_lifted os started H enc)

theorem RepoNumbers_params : ∀ (j : Nat) t, Tryd.f3.params[j]? = some t → Tryd.prog.wantsStandIn t = false := by
  intro j t ht
  rw [Tryd.params3] at ht
  have hm : t ∈ ([22] : List TypeId) := List.mem_of_getElem? (i := j) (by simpa using ht)
  simp only [List.mem_cons, List.not_mem_nil, or_false] at hm
  subst hm
  exact (show Tryd.prog.wantsStandIn 22 = false by kernel_rfl)
theorem RepoNumbers_holds : Rows.RepoNumbersCardSaid :=
  Claim7.holds_tied_plain_at .later [] [.data, .pinned] true (true, "b8549941136c75f2c554eaf403c37bf8f3fce9d6a3edd6b504917a752e07b547") false
    RepoNumbers_over (fun _ h => by cases h) (by kernel_rfl) (fun _ h => by cases h) repoNumbers_row_tie rfl ⟨rfl, rfl⟩ (by kernel_rfl) rfl
    (fun f fn hf hfn => by
      obtain rfl : f = 3 := Option.some.inj ((show Tryd.prog.funcNamed "cortege/cortegelaw10.RepoNumbers" = some 3 by kernel_rfl).symm.trans hf) |>.symm
      obtain rfl : fn = Tryd.f3 := (Option.some.inj (Tryd.func3.symm.trans hfn)).symm
      exact ⟨by kernel_rfl, RepoNumbers_params⟩)
    (by kernel_rfl)
#print axioms RepoNumbers_holds

end Go.Proofs.YtnnkbicaokckbaaDoor
