/- made: a repo, and the document's, of commits with parents as numbers say. Conditions: none. -/
import Derived.Test.YtnnkbicaokckbaaDoorDgL
import Derived.Test.YtnnkbicaokckbaaDoorRfT
import Derived.Test.YtnnkbicaokckbaaDoorSeq
import Derived.Laws.IdiomStrings
import Derived.Outline
import Derived.Deep.QuietTactic
import Derived.BigQuiet
import Derived.Deep.CutRange
namespace Go.Proofs.YtnnkbicaokckbaaDoor
open Go.RowKit Go.Shelf

def noteG (i : Nat) : ByteArray := ⟨#[UInt8.ofNat (65 + i % 26), UInt8.ofNat (97 + i / 26)]⟩
def gX (x : Int) : Int := IntKind.u64.wrap x
def gA (x : Int) : Int := gX x % 100
def gB (x : Int) : Int := gX x / 100 % 100
def gp1 (i : Nat) (x : Int) : List Int := if 1 ≤ gB x ∧ gB x ≤ i then [gB x] else []
def gp2 (i : Nat) (x : Int) : List Int := if (1 ≤ gA x ∧ gA x ≤ i) ∧ gA x ≠ gB x then [gA x] else []
def gcm (i : Nat) (x : Int) : Cm := ⟨gp1 i x ++ gp2 i x, [], noteG i⟩
def gcs (xs : List Int) : List Cm := (List.range xs.length).map (fun i => gcm i (xs.getD i 0))
theorem gcs_length (xs : List Int) : (gcs xs).length = xs.length := by simp [gcs]
theorem gcs_get (xs : List Int) {k : Nat} (h : k < xs.length) (h' : k < (gcs xs).length) : (gcs xs)[k] = gcm k xs[k] := by simp [gcs, List.getD_eq_getElem?_getD, h]
theorem gcs_take (xs : List Int) {k : Nat} (h : k < xs.length) : gcs (xs.take (k + 1)) = gcs (xs.take k) ++ [gcm k xs[k]] := by
  apply List.ext_getElem
  · simp [gcs_length]; omega
  · intro i h1 h2
    have hi : i < (xs.take (k + 1)).length := by rw [← gcs_length]; exact h1
    rw [gcs_get _ hi]
    rw [List.length_take] at hi
    by_cases e : i = k
    · subst e
      rw [List.getElem_append_right (by rw [gcs_length, List.length_take]; omega)]
      simp
    · rw [List.getElem_append_left (by rw [gcs_length, List.length_take]; omega), gcs_get _ (by rw [List.length_take]; omega)]
      simp
theorem note_ne : ∀ i, i < 30 → ∀ j, j < 30 → i ≠ j → noteG i ≠ noteG j := by decide +kernel
theorem gpar_in {i : Nat} {x p : Int} (h : p ∈ gp1 i x ++ gp2 i x) : 1 ≤ p ∧ p ≤ i := by
  unfold gp1 gp2 at h
  rcases List.mem_append.1 h with h | h <;> split at h
  · rw [List.mem_singleton.1 h]; assumption
  · cases h
  · rename_i hh; rw [List.mem_singleton.1 h]; exact hh.1
  · cases h
theorem gpar_few (i : Nat) (x : Int) : (gp1 i x ++ gp2 i x).length ≤ 2 := by
  unfold gp1 gp2
  split <;> split <;> simp
theorem gcm_may (i : Nat) (x : Int) : mayC (gcm i x) = true := by
  have h2 := gpar_few i x
  unfold mayC gcm
  simp only [Bool.and_eq_true, decide_eq_true_eq, Bool.not_eq_true']
  refine ⟨⟨⟨rfl, h2⟩, ?_⟩, by show 2 ≤ 60; decide⟩
  unfold gp1 gp2
  split <;> split <;> simp
  rename_i h3 h4
  exact fun e => h4.2 e.symm
theorem gcs_bad (xs : List Int) {k : Nat} (h : k < xs.length) : (gcm k xs[k]).parents.any (badP (gcs (xs.take k)).length) = false := by
  refine List.any_eq_false.2 fun p hp => ?_
  have := gpar_in hp
  rw [gcs_length, List.length_take]
  simp [badP]; omega
theorem gcs_has (xs : List Int) (hl : xs.length ≤ 30) {k : Nat} (h : k < xs.length) : hasC (gcs (xs.take k)) (gcm k xs[k]) = false := by
  refine List.any_eq_false.2 fun c hc => ?_
  obtain ⟨j, hj, rfl⟩ := List.getElem_of_mem hc
  have hj2 : j < (xs.take k).length := by rw [← gcs_length]; exact hj
  rw [gcs_get _ hj2]
  rw [List.length_take] at hj2
  intro he
  have := (cmEq_iff _ _).1 he
  have hn : noteG j = noteG k := congrArg Cm.note this
  exact note_ne j (by omega) k (by omega) (by omega) hn
theorem gcs_add (xs : List Int) (hl : xs.length ≤ 30) {k : Nat} (h : k < xs.length) : addR (gcs (xs.take k)) 60 (gcm k xs[k]) = ((k : Int) + 1, 0) ∧ addL (gcs (xs.take k)) 60 (gcm k xs[k]) = gcs (xs.take (k + 1)) := by
  have hn : ¬ (60 : Int) ≤ ((gcs (xs.take k)).length : Int) := by rw [gcs_length, List.length_take]; omega
  have hk : ((gcs (xs.take k)).length : Int) = k := by rw [gcs_length, List.length_take]; omega
  constructor
  · rw [addR, gcm_may, gcs_bad xs h, gcs_has xs hl h, if_neg hn, hk]; rfl
  · rw [addL, gcm_may, gcs_bad xs h, gcs_has xs hl h, if_neg hn, gcs_take xs h]; rfl
theorem gcs_ok (xs : List Int) (hl : xs.length ≤ 30) : DagOk (gcs xs) := by
  have key : ∀ n : Int, parN (gcs xs) n = [] ∨ ∃ k : Nat, ∃ h : k < xs.length, n = (k : Int) + 1 ∧ parN (gcs xs) n = gp1 k xs[k] ++ gp2 k xs[k] := fun n => by
    by_cases hr : 1 ≤ n ∧ n ≤ ((gcs xs).length : Int)
    · have hk : n.toNat - 1 < xs.length := by rw [gcs_length] at hr; omega
      refine .inr ⟨n.toNat - 1, hk, by omega, ?_⟩
      rw [parN_in (k := n.toNat - 1) (by rw [gcs_length]; exact hk) (by omega), gcs_get xs hk]
      rfl
    · exact .inl (parN_out (by omega))
  refine ⟨fun n x hx => ?_, fun n => ?_, by rw [gcs_length]; omega⟩
  · rcases key n with e | ⟨k, hk, hn, e⟩
    · rw [e] at hx; cases hx
    · rw [e] at hx
      have := gpar_in hx
      omega
  · rcases key n with e | ⟨k, hk, hn, e⟩
    · rw [e]; simp
    · rw [e]; exact gpar_few _ _
/-- The commit that is made, in its box. -/
def MkSt (wo : World) (bc : Nat) (note : ByteArray) (ps : List Int) (wc : World) : Prop :=
  ∃ po pc, wc.heap[bc]? = some (.cells #[.slice po ps.length pc, .slice none 0 0, .string note] 33 (0, 0)) ∧ wc.ownsRow wo.heap.size 3 1 (.slice po ps.length pc) ps.length (flat int_enc ps) ∧ Chg (fun _ => False) wo wc
theorem Two.putR2 {base : Nat} {w : World} {p q : Nat} {cs csq : List Cm} {room roomq : Int} {N : Nat → Prop} (h : Two base w p q cs csq room roomq N) (hN : ∀ k, N k → k < w.heap.size) (hM : Mx w) (y : CmV) (hy : CmAt w y) (fy : Few y.c) (hyN : ∀ k, YB y k → N k) (hl : cs.length < 1000) :
    Calls Tryd.prog 18 #[.pointer (some ⟨p, 0, none⟩), y.val] w fun e w' => e = .returned (.tuple #[.int .i64 (addR cs room y.c).1, .int .i64 (addR cs room y.c).2]) ∧ Two base w' p q (addL cs room y.c) csq room roomq N ∧ CmAt w' y ∧ Chg (fun k => base ≤ k ∧ ¬ N k) w w' := by
  obtain ⟨ao, cap, l, aq, cq, lq, h1, h2, rfl, h4, h5, h6⟩ := h
  rw [cms_length] at hl
  refine (repo_Add h1 hM y hy fy hl).mono ?_
  rintro e w' ⟨rfl, ⟨ao', cap', l', h', hl', hrb⟩, hc⟩
  refine ⟨rfl, ⟨ao', cap', l', aq, cq, lq, h', h2.turn hc (fun k hk hs => (h5 k (.inl hs)).1 hk), hl', h4, fun k hk => ?_, h6⟩, hy.chg hc (fun b hb hn hs => (h5 b (.inl hs)).2 (hyN b (.inl ⟨hb, hn⟩))) (fun b hb hn hs => (h5 b (.inl hs)).2 (hyN b (.inr ⟨hb, hn⟩))), hc.mono (fun k hk hS => ⟨(h1.rbl (.inl hS)).1, (h5 k (.inl hS)).2⟩)⟩
  rcases hrb k hk with hk | hk
  · exact h5 k hk
  · exact ⟨fun hn => by have := h2.nlt hn; omega, fun hn => by have := hN k hn; omega⟩
theorem Two.putQ2 {base : Nat} {w : World} {p q : Nat} {cs csq : List Cm} {room roomq : Int} {N : Nat → Prop} (h : Two base w p q cs csq room roomq N) (y : CmV) (hy : CmAt w y) (fy : Few y.c) (hsz : ∀ f ∈ y.c.tree, f.path.size ≤ 100000) (hyN : ∀ k, YB y k → N k) (hl : csq.length < 1000) :
    Calls Tryd.prog 27 #[.pointer (some ⟨q, 0, none⟩), y.val] w fun e w' => e = .returned (.tuple #[.int .i64 (addR csq roomq y.c).1, .int .i64 (addR csq roomq y.c).2]) ∧ Two base w' p q cs (addL csq roomq y.c) room roomq N ∧ Below base w w' := by
  refine (h.putQ y hy fy hsz hyN hl).mono ?_
  rintro e w' ⟨h1, h2, -, h3⟩
  exact ⟨h1, h2, h3⟩
theorem mk_step {wo w2 w4 : World} {bc : Nat} {note : ByteArray} {ps : List Int} {po ao1 : Option Addr} {pc cap1 : Nat} {y : Int} (hrow : w2.ownsRow wo.heap.size 3 1 (.slice po ps.length pc) ps.length (flat int_enc ps)) (hch : Chg (fun _ => False) wo w2) (hbl : wo.heap.size ≤ bc)
    (hg : Chg (fun k => (Value.slice po ps.length pc).ownBlock = some k) w2 w4) (hown : w4.ownsRow wo.heap.size 3 1 (.slice ao1 (ps.length + 1) cap1) (ps.length + 1) (flat int_enc ps ++ [.int .i64 y]))
    (hbx4 : w4.heap[bc]? = some (.cells #[.slice po ps.length pc, .slice none 0 0, .string note] 33 (0, 0))) : MkSt wo bc note (ps ++ [y]) (w4.setCell ⟨bc, 0, none⟩ (.slice ao1 (ps.length + 1) cap1)) := by
  have hb := heap_setCell_same hbx4 (i := 0) (.slice ao1 (ps.length + 1) cap1)
  refine ⟨ao1, cap1, ?_, ?_, ?_⟩
  · rw [List.length_append]; simpa using hb
  · rw [List.length_append, flat_append]
    exact (Chg.setCell w4 ⟨bc, 0, none⟩ _).owns hown (fun b hb' e => ownsRow_ne hown hbx4 (by decide) (by have e' : b = bc := e; rw [← e']; simpa using hb'))
  · refine (hch.trans hg (S'' := fun _ => False) (fun _ _ h => h) (fun k hk h => ?_)).trans (Chg.setCell w4 _ _) (fun _ _ h => h) (fun k hk e => ?_)
    · have := (ownsRow_lt hrow k h).1; omega
    · have e' : k = bc := e; omega
set_option maxRecDepth 100000 in
set_option maxHeartbeats 8000000 in
theorem made11 (w : World) (hM : Mx w) (v : Value) (xs : List Int) (hv : Rd w v xs.length (xs.map (Value.int .i64))) (hvb : ∀ b, v.ownBlock = some b → xs ≠ [] → b < w.heap.size) (hl : xs.length ≤ 30) (hx : ∀ x ∈ xs, -9223372036854775808 ≤ x ∧ x ≤ 9223372036854775807) :
    Calls Tryd.prog 35 #[v] w fun e w' => ∃ p q, e = .returned (.tuple #[.pointer (some ⟨p, 0, none⟩), .pointer (some ⟨q, 0, none⟩)]) ∧ Two w.heap.size w' p q (gcs xs) (gcs xs) 60 60 (fun k => k < w.heap.size) ∧ Below w.heap.size w w' := by
  obtain ⟨ao, ca, rfl, -, -⟩ := hv.shape
  have HV := hide hv
  have HVB := hide hvb
  have HM := hide hM
  have HX := hide hx
  clear hv hvb hM hx
  go_enter Tryd.func35, Tryd.ntmps35
  go_wp2_with fail
  refine (repo_New _ 60 (by omega)).mono ?_
  rintro e w2 ⟨rfl, h2, hb2⟩
  go_wp2_with fail
  refine (ref10_New _ 60 (by omega)).mono ?_
  rintro e w3 ⟨rfl, h3, hb3⟩
  have hr : min (max (60 : Int) 0) 120 = 60 := by decide
  rw [hr] at h2 h3
  have HT := hide (Two.new h2 h3 hb2 hb3)
  have HB3 := hide (hb2.trans (hb3.mono hb2.size))
  obtain ⟨p, hp⟩ : ∃ p, p = w.heap.size := ⟨_, rfl⟩
  have HT : Hid (Two w.heap.size w3 p w2.heap.size [] [] 60 60 (fun k => k < w.heap.size)) := hide (by rw [hp]; exact HT.out)
  rw [← hp]
  clear h2 h3 hb2 hb3 hr hp
  generalize w2.heap.size = q at HT ⊢
  go_wp2_with fail
  go_loopw [6] (fun i wr => ∃ k : Nat, k ≤ xs.length ∧ i = .int .i64 k ∧ Hid (Two w.heap.size wr p q (gcs (xs.take k)) (gcs (xs.take k)) 60 60 (fun k => k < w.heap.size)) ∧ Hid (Below w.heap.size w wr)) (fun i _ => xs.length - (intOf i).toNat)
  case atStart => exact ⟨0, Nat.zero_le _, rfl, HT.out, HB3.out⟩
  case round =>
    obtain ⟨k, hk, rfl, HTW, HB⟩ := hrel
    obtain ⟨wo, rfl⟩ : ∃ wo : World, wo = wr := ⟨_, rfl⟩
    by_cases hkl : k < xs.length
    · have hne : xs ≠ [] := by rintro rfl; simp at hkl
      obtain ⟨a', c', e, -, hcs0⟩ := (HV.out.chg (Chg.of_below HB.out) (fun b hb' _ h => by have := HVB.out b hb' hne; omega)).shape
      obtain ⟨b, off, rfl, hcs⟩ := hcs0 (by omega)
      cases e
      have hx0 : wo.cell? ⟨b, off + k, none⟩ = some (.int .i64 xs[k]) := hcs k (.int .i64 xs[k]) (by rw [List.getElem?_map, List.getElem?_eq_getElem hkl]; rfl)
      have hxr := HX.out xs[k] (List.getElem_mem hkl)
      have HADD := hide (gcs_add xs hl hkl)
      have hbl := World.block_lt_of_cell? wo _ hx0
      obtain ⟨x, hxx⟩ : ∃ x, x = xs[k] := ⟨_, rfl⟩
      rw [← hxx] at hx0 hxr HADD
      clear hcs hcs0 hne hxx
      have hcv : Sem.run Tryd.prog (convert 86 9 (.slice (some ⟨wo.heap.size, 0, none⟩) 2 2)) (wo.alloc (.cells #[.int .u8 (65 + (k : Int) % 26), .int .u8 (97 + (k : Int) / 26)] 5)) = .ok (.string (noteG k)) (wo.alloc (.cells #[.int .u8 (65 + (k : Int) % 26), .int .u8 (97 + (k : Int) / 26)] 5)) := by
        have hnew := heap_alloc_new wo (.cells #[.int .u8 (65 + (k : Int) % 26), .int .u8 (97 + (k : Int) / 26)] 5)
        refine run_convert_bytes_back _ 86 9 5 ⟨wo.heap.size, 0, none⟩ 2 [UInt8.ofNat (65 + k % 26), UInt8.ofNat (97 + k / 26)] Tryd.underlying86 Tryd.underlying5 Tryd.underlying9 (fun j hj => ?_)
        rw [Addr.add_lit, Nat.zero_add, cell_of_heap hnew]
        simp only [List.length_cons, List.length_nil] at hj
        rcases (show j = 0 ∨ j = 1 by omega) with rfl | rfl
        · simp; omega
        · simp; omega
      obtain ⟨A, hA⟩ : ∃ A, A = gA x := ⟨_, rfl⟩
      obtain ⟨B, hB⟩ : ∃ B, B = gB x := ⟨_, rfl⟩
      have hX0 : 0 ≤ IntKind.u64.wrap x ∧ IntKind.u64.wrap x < 18446744073709551616 := by
        have h1 := Int.emod_nonneg x (b := 18446744073709551616) (by decide)
        have h2 := Int.emod_lt_of_pos x (b := 18446744073709551616) (by decide)
        have e : IntKind.u64.wrap x = x % 18446744073709551616 := by simp [IntKind.wrap, IntKind.signed, IntKind.bits]
        omega
      have hxa : wrap64 ((IntKind.u64.wrap x).tmod 100) = A := by
        rw [hA, gA, gX, Int.tmod_eq_emod_of_nonneg hX0.1]
        unfold wrap64
        omega
      have hd1 : (IntKind.u64.wrap x).tdiv 100 = IntKind.u64.wrap x / 100 := Int.tdiv_eq_ediv_of_nonneg hX0.1
      have hd2 : IntKind.u64.wrap (IntKind.u64.wrap x / 100) = IntKind.u64.wrap x / 100 := IntWalk.u64_in _ (by omega)
      have hxb : wrap64 ((IntKind.u64.wrap ((IntKind.u64.wrap x).tdiv 100)).tmod 100) = B := by
        rw [hd1, hd2, hB, gB, gX, Int.tmod_eq_emod_of_nonneg (by omega)]
        unfold wrap64
        omega
      have hAb : 0 ≤ A ∧ A < 100 := by rw [hA, gA, gX]; omega
      have hBb : 0 ≤ B ∧ B < 100 := by rw [hB, gB, gX]; omega
      have HG1 : Hid (gp1 k x = if 1 ≤ B ∧ B ≤ k then [B] else []) := hide (by rw [gp1, ← hB])
      have HG2 : Hid (gp2 k x = if (1 ≤ A ∧ A ≤ k) ∧ A ≠ B then [A] else []) := hide (by rw [gp2, ← hA, ← hB])
      clear hA hB hX0 hd1 hd2
      go_upto_region 10 with (fail)
      rw [hxa, hxb]
      clear hxa hxb hcv
      have HMK : Hid (MkSt wo (wo.heap.size + 1) (noteG k) [] ((wo.alloc (.cells #[.int .u8 (65 + (k : Int) % 26), .int .u8 (97 + (k : Int) / 26)] 5)).alloc (.cells #[.slice none 0 0, .slice none 0 0, .string (noteG k)] 33))) := hide (by
        have h1 := heap_alloc_new (wo.alloc (.cells #[.int .u8 (65 + (k : Int) % 26), .int .u8 (97 + (k : Int) / 26)] 5)) (.cells #[.slice none 0 0, .slice none 0 0, .string (noteG k)] 33)
        rw [World.size_alloc] at h1
        exact ⟨none, 0, h1, World.ownsRow_nil _ _ _ _, (Chg.alloc (fun _ => False) wo _).trans (Chg.alloc _ _ _) (fun _ _ h => h) (fun _ _ h => h)⟩)
      generalize (wo.alloc (.cells #[.int .u8 (65 + (k : Int) % 26), .int .u8 (97 + (k : Int) / 26)] 5)).alloc (.cells #[.slice none 0 0, .slice none 0 0, .string (noteG k)] 33) = w2 at HMK ⊢
      obtain ⟨bc, hbc⟩ : ∃ bc, bc = wo.heap.size + 1 := ⟨_, rfl⟩
      rw [← hbc] at HMK ⊢
      have HBC := hide hbc
      clear hbc hx0 hxr hbl
      by_cases hb1 : 1 ≤ B
      · have d1 : decide (B ≥ 1) = true := decide_eq_true hb1
        by_cases hb2 : B ≤ k
        · have d2 : decide (B ≤ (k : Int)) = true := decide_eq_true hb2
          obtain ⟨po, pc, hbx, hrow, hch⟩ := HMK.out
          have c0 := cell_of_heap hbx 0
          simp only [List.length_nil] at hbx hrow c0
          have HE1 := hide (show gp1 k x = [B] by rw [HG1.out, if_pos ⟨hb1, hb2⟩])
          go_upto_region 12 with (first
            | (at_builtin; (refine wpl_append rfl _ _ _ rfl int_slT wo.heap.size (hrow.alloc _) (Rd_lit w2 #[.int .i64 B] 3 1) rfl rfl rfl (by simp [Value.oneCell']) (by unfold maxLen; omega) (by omega) (by have := hch.size; simp; omega) ?_); intro ao1 cap1 w4 hown hg _ _; have hg' := (Chg.alloc (fun _ => False) w2 (.cells #[.int .i64 B] 3)).trans hg (S'' := fun k => (Value.slice po 0 pc).ownBlock = some k) (fun _ _ h => h.elim) (fun _ _ h => h); have hbx4 := hg'.heap hbx (fun h => ownsRow_ne hrow hbx (by decide) h); have q0 := cell_of_heap hbx4 0; have f0 := free_of_heap hbx4 0; have HG4 := hide hg'; have HOW4 := hide hown; have HBX4 := hide hbx4; clear hg hg' hown hbx4)
            )
          have HMK3 := hide (mk_step (ps := []) (y := B) hrow hch (by have := HBC.out; omega) HG4.out HOW4.out HBX4.out)
          clear hbx hrow hch c0 q0 f0 HG4 HOW4 HBX4 HMK
          have HMK3 : Hid (MkSt wo bc (noteG k) [B] (w4.setCell ⟨bc, 0, none⟩ (.slice ao1 1 cap1))) := HMK3
          generalize w4.setCell ⟨bc, 0, none⟩ (.slice ao1 1 cap1) = w3 at HMK3 ⊢
          clear d1 d2
          by_cases ha1 : 1 ≤ A
          · have d1 : decide (A ≥ 1) = true := decide_eq_true ha1
            by_cases ha2 : A ≤ k
            · have d2 : decide (A ≤ (k : Int)) = true := decide_eq_true ha2
              by_cases ha3 : A = B
              · have d3 : (A != B) = false := by simp [ha3]
                have HE2 := hide (show gp2 k x = [] by rw [HG2.out, if_neg (fun h => h.2 ha3)])
                go_upto_region 14 with (fail)
                have HPS : Hid (gp1 k x ++ gp2 k x = [B]) := hide (by rw [HE1.out, HE2.out]; rfl)
                have HMK5 := HMK3
                generalize w3 = w5 at HMK5 ⊢
                clear HMK3
                obtain ⟨po5, pc5, hbx5, hrow5, hch5⟩ := HMK5.out
                have hcm : gcm k x = ⟨[B], [], noteG k⟩ := by rw [gcm, HPS.out]
                have hN5 : ∀ b, ((wo.heap.size ≤ b ∧ b < w5.heap.size) ∨ b < w.heap.size) → b < w5.heap.size := fun b hb => by have h1 := HB.out.size; have h2 := hch5.size; omega
                have hT5 := (HTW.out.off (N' := fun b => (wo.heap.size ≤ b ∧ b < w5.heap.size) ∨ b < w.heap.size) (fun b hb => hb.elim (fun h => .inr h.1) (fun h => .inl h))).same hch5
                have hB5 := HB.out.trans (hch5.below HB.out.size (fun _ _ h => h))
                have hy5 : CmAt w5 ⟨⟨[B], [], noteG k⟩, .slice po5 ([B]).length pc5, .slice none 0 0⟩ := ⟨Rd.of_owns hrow5, Rd.nil _, fun b hb _ => (ownsRow_lt hrow5 b hb).2, fun b hb _ => by cases hb⟩
                have hyN5 : ∀ b, YB ⟨⟨[B], [], noteG k⟩, .slice po5 ([B]).length pc5, .slice none 0 0⟩ b → ((wo.heap.size ≤ b ∧ b < w5.heap.size) ∨ b < w.heap.size) := fun b hb => by
                  rcases hb with ⟨h, _⟩ | ⟨h, _⟩
                  · exact .inl (ownsRow_lt hrow5 b h)
                  · cases h
                have hfw5 : Few ⟨[B], [], noteG k⟩ := ⟨by show ([B]).length ≤ 1000000; simp, by show (0 : Nat) ≤ 1000000; omega⟩
                have hlen5 : (gcs (xs.take k)).length < 1000 := by rw [gcs_length, List.length_take]; omega
                have hadd := hT5.putR2 hN5 (HM.out.below hB5 HM.out.pos) _ hy5 hfw5 hyN5 hlen5
                have HY5 := hide hyN5
                have HFW := hide hfw5
                have HLE := hide hlen5
                have ha1 := HADD.out
                rw [hcm] at ha1
                simp only [ha1.1, ha1.2] at hadd
                have HA1 := hide ha1
                have HAD : Hid (Calls Tryd.prog 18 #[.pointer (some ⟨p, 0, none⟩), .agg #[.slice po5 1 pc5, .slice none 0 0, .string (noteG k)]] w5 _) := hide hadd
                have q0 : w5.cell? ⟨bc, 0, none⟩ = some (.slice po5 1 pc5) := cell_of_heap hbx5 0
                have q1 := cell_of_heap hbx5 1
                have q2 := cell_of_heap hbx5 2
                simp at q1 q2
                have HQB := hide (show wo.heap.size ≤ bc from by have := HBC.out; omega)
                have HBX5 := hide hbx5
                have HCH := hide hch5
                have HB5 := hide hB5
                clear hbx5 hrow5 hch5 hcm hN5 hT5 hB5 hy5 hyN5 hfw5 hlen5 hadd ha1
                go_wp2_with fail
                refine HAD.out.mono ?_
                rintro e w6 ⟨rfl, hT6, hy6, hc6⟩
                have hadd := hT6.putQ2 _ hy6 HFW.out (by simp) HY5.out HLE.out
                simp only [HA1.out.1, HA1.out.2] at hadd
                have HAQ : Hid (Calls Tryd.prog 27 #[.pointer (some ⟨q, 0, none⟩), .agg #[.slice po5 1 pc5, .slice none 0 0, .string (noteG k)]] w6 _) := hide hadd
                have hin := (Array.getElem?_eq_some_iff.1 HBX5.out).1
                have hbx6 := hc6.heap HBX5.out (fun h => h.2 (.inl ⟨HQB.out, hin⟩))
                have HB6 := hide (HB5.out.trans (hc6.below HB5.out.size (fun k hk h => by omega)))
                have q3 : w6.cell? ⟨bc, 0, none⟩ = some (.slice po5 1 pc5) := cell_of_heap hbx6 0
                have q4 := cell_of_heap hbx6 1
                have q5 := cell_of_heap hbx6 2
                simp at q4 q5
                clear hT6 hy6 hc6 hadd hin hbx6 q0 q1 q2
                go_wp2_with fail
                refine HAQ.out.mono ?_
                rintro e w7 ⟨rfl, hT7, hb7⟩
                have HT7 := hide (hT7.off (N' := fun k => k < w.heap.size) (fun b hb => .inl (.inr hb)))
                have HB7 := hide (HB6.out.trans hb7)
                clear hT7 hb7 q3 q4 q5
                go_wp2_with fail
                go_roundw
                case rel => exact ⟨k + 1, by omega, by go_num, HT7.out, HB7.out⟩
                case measure => simp [intOf]; omega
              · have d3 : (A != B) = true := by simp [ha3]
                obtain ⟨po, pc, hbx, hrow, hch⟩ := HMK3.out
                have hrow : w3.ownsRow wo.heap.size 3 1 (.slice po 1 pc) 1 (flat int_enc [B]) := hrow
                have hbx : w3.heap[bc]? = some (.cells #[.slice po 1 pc, .slice none 0 0, .string (noteG k)] 33 (0, 0)) := hbx
                have c0 : w3.cell? ⟨bc, 0, none⟩ = some (.slice po 1 pc) := cell_of_heap hbx 0
                have HE2 := hide (show gp2 k x = [A] by rw [HG2.out, if_pos ⟨⟨ha1, ha2⟩, ha3⟩])
                go_upto_region 14 with (first
                  | (at_builtin; (refine wpl_append rfl _ _ _ rfl int_slT wo.heap.size (hrow.alloc _) (Rd_lit w3 #[.int .i64 A] 3 1) rfl rfl rfl (by simp [Value.oneCell']) (by unfold maxLen; omega) (by omega) (by have := hch.size; simp; omega) ?_); intro ao1 cap1 w4 hown hg _ _; have hg' := (Chg.alloc (fun _ => False) w3 (.cells #[.int .i64 A] 3)).trans hg (S'' := fun k => (Value.slice po 1 pc).ownBlock = some k) (fun _ _ h => h.elim) (fun _ _ h => h); have hbx4 := hg'.heap hbx (fun h => ownsRow_ne hrow hbx (by decide) h); have q0 := cell_of_heap hbx4 0; have f0 := free_of_heap hbx4 0; have HG4 := hide hg'; have HOW4 := hide hown; have HBX4 := hide hbx4; clear hg hg' hown hbx4)
                  )
                have HMK5 : Hid (MkSt wo bc (noteG k) ([B] ++ [A]) (w4.setCell ⟨bc, 0, none⟩ (.slice ao1 (1 + 1) cap1))) := hide (mk_step (ps := [B]) (y := A) hrow hch (by have := HBC.out; omega) HG4.out HOW4.out HBX4.out)
                clear hbx hrow hch c0 q0 f0 HG4 HOW4 HBX4 HMK3
                generalize w4.setCell ⟨bc, 0, none⟩ (.slice ao1 (1 + 1) cap1) = w5 at HMK5 ⊢
                have HPS : Hid (gp1 k x ++ gp2 k x = [B] ++ [A]) := hide (by rw [HE1.out, HE2.out])
                obtain ⟨po5, pc5, hbx5, hrow5, hch5⟩ := HMK5.out
                have hcm : gcm k x = ⟨([B] ++ [A]), [], noteG k⟩ := by rw [gcm, HPS.out]
                have hN5 : ∀ b, ((wo.heap.size ≤ b ∧ b < w5.heap.size) ∨ b < w.heap.size) → b < w5.heap.size := fun b hb => by have h1 := HB.out.size; have h2 := hch5.size; omega
                have hT5 := (HTW.out.off (N' := fun b => (wo.heap.size ≤ b ∧ b < w5.heap.size) ∨ b < w.heap.size) (fun b hb => hb.elim (fun h => .inr h.1) (fun h => .inl h))).same hch5
                have hB5 := HB.out.trans (hch5.below HB.out.size (fun _ _ h => h))
                have hy5 : CmAt w5 ⟨⟨([B] ++ [A]), [], noteG k⟩, .slice po5 (([B] ++ [A])).length pc5, .slice none 0 0⟩ := ⟨Rd.of_owns hrow5, Rd.nil _, fun b hb _ => (ownsRow_lt hrow5 b hb).2, fun b hb _ => by cases hb⟩
                have hyN5 : ∀ b, YB ⟨⟨([B] ++ [A]), [], noteG k⟩, .slice po5 (([B] ++ [A])).length pc5, .slice none 0 0⟩ b → ((wo.heap.size ≤ b ∧ b < w5.heap.size) ∨ b < w.heap.size) := fun b hb => by
                  rcases hb with ⟨h, _⟩ | ⟨h, _⟩
                  · exact .inl (ownsRow_lt hrow5 b h)
                  · cases h
                have hfw5 : Few ⟨([B] ++ [A]), [], noteG k⟩ := ⟨by show (([B] ++ [A])).length ≤ 1000000; simp, by show (0 : Nat) ≤ 1000000; omega⟩
                have hlen5 : (gcs (xs.take k)).length < 1000 := by rw [gcs_length, List.length_take]; omega
                have hadd := hT5.putR2 hN5 (HM.out.below hB5 HM.out.pos) _ hy5 hfw5 hyN5 hlen5
                have HY5 := hide hyN5
                have HFW := hide hfw5
                have HLE := hide hlen5
                have ha1 := HADD.out
                rw [hcm] at ha1
                simp only [ha1.1, ha1.2] at hadd
                have HA1 := hide ha1
                have HAD : Hid (Calls Tryd.prog 18 #[.pointer (some ⟨p, 0, none⟩), .agg #[.slice po5 (1 + 1) pc5, .slice none 0 0, .string (noteG k)]] w5 _) := hide hadd
                have q0 : w5.cell? ⟨bc, 0, none⟩ = some (.slice po5 (1 + 1) pc5) := cell_of_heap hbx5 0
                have q1 := cell_of_heap hbx5 1
                have q2 := cell_of_heap hbx5 2
                simp at q1 q2
                have HQB := hide (show wo.heap.size ≤ bc from by have := HBC.out; omega)
                have HBX5 := hide hbx5
                have HCH := hide hch5
                have HB5 := hide hB5
                clear hbx5 hrow5 hch5 hcm hN5 hT5 hB5 hy5 hyN5 hfw5 hlen5 hadd ha1
                go_wp2_with fail
                refine HAD.out.mono ?_
                rintro e w6 ⟨rfl, hT6, hy6, hc6⟩
                have hadd := hT6.putQ2 _ hy6 HFW.out (by simp) HY5.out HLE.out
                simp only [HA1.out.1, HA1.out.2] at hadd
                have HAQ : Hid (Calls Tryd.prog 27 #[.pointer (some ⟨q, 0, none⟩), .agg #[.slice po5 (1 + 1) pc5, .slice none 0 0, .string (noteG k)]] w6 _) := hide hadd
                have hin := (Array.getElem?_eq_some_iff.1 HBX5.out).1
                have hbx6 := hc6.heap HBX5.out (fun h => h.2 (.inl ⟨HQB.out, hin⟩))
                have HB6 := hide (HB5.out.trans (hc6.below HB5.out.size (fun k hk h => by omega)))
                have q3 : w6.cell? ⟨bc, 0, none⟩ = some (.slice po5 (1 + 1) pc5) := cell_of_heap hbx6 0
                have q4 := cell_of_heap hbx6 1
                have q5 := cell_of_heap hbx6 2
                simp at q4 q5
                clear hT6 hy6 hc6 hadd hin hbx6 q0 q1 q2
                go_wp2_with fail
                refine HAQ.out.mono ?_
                rintro e w7 ⟨rfl, hT7, hb7⟩
                have HT7 := hide (hT7.off (N' := fun k => k < w.heap.size) (fun b hb => .inl (.inr hb)))
                have HB7 := hide (HB6.out.trans hb7)
                clear hT7 hb7 q3 q4 q5
                go_wp2_with fail
                go_roundw
                case rel => exact ⟨k + 1, by omega, by go_num, HT7.out, HB7.out⟩
                case measure => simp [intOf]; omega
            · have d2 : decide (A ≤ (k : Int)) = false := decide_eq_false ha2
              have HE2 := hide (show gp2 k x = [] by rw [HG2.out, if_neg (fun h => ha2 h.1.2)])
              go_upto_region 14 with (fail)
              have HPS : Hid (gp1 k x ++ gp2 k x = [B]) := hide (by rw [HE1.out, HE2.out]; rfl)
              have HMK5 := HMK3
              generalize w3 = w5 at HMK5 ⊢
              clear HMK3
              obtain ⟨po5, pc5, hbx5, hrow5, hch5⟩ := HMK5.out
              have hcm : gcm k x = ⟨[B], [], noteG k⟩ := by rw [gcm, HPS.out]
              have hN5 : ∀ b, ((wo.heap.size ≤ b ∧ b < w5.heap.size) ∨ b < w.heap.size) → b < w5.heap.size := fun b hb => by have h1 := HB.out.size; have h2 := hch5.size; omega
              have hT5 := (HTW.out.off (N' := fun b => (wo.heap.size ≤ b ∧ b < w5.heap.size) ∨ b < w.heap.size) (fun b hb => hb.elim (fun h => .inr h.1) (fun h => .inl h))).same hch5
              have hB5 := HB.out.trans (hch5.below HB.out.size (fun _ _ h => h))
              have hy5 : CmAt w5 ⟨⟨[B], [], noteG k⟩, .slice po5 ([B]).length pc5, .slice none 0 0⟩ := ⟨Rd.of_owns hrow5, Rd.nil _, fun b hb _ => (ownsRow_lt hrow5 b hb).2, fun b hb _ => by cases hb⟩
              have hyN5 : ∀ b, YB ⟨⟨[B], [], noteG k⟩, .slice po5 ([B]).length pc5, .slice none 0 0⟩ b → ((wo.heap.size ≤ b ∧ b < w5.heap.size) ∨ b < w.heap.size) := fun b hb => by
                rcases hb with ⟨h, _⟩ | ⟨h, _⟩
                · exact .inl (ownsRow_lt hrow5 b h)
                · cases h
              have hfw5 : Few ⟨[B], [], noteG k⟩ := ⟨by show ([B]).length ≤ 1000000; simp, by show (0 : Nat) ≤ 1000000; omega⟩
              have hlen5 : (gcs (xs.take k)).length < 1000 := by rw [gcs_length, List.length_take]; omega
              have hadd := hT5.putR2 hN5 (HM.out.below hB5 HM.out.pos) _ hy5 hfw5 hyN5 hlen5
              have HY5 := hide hyN5
              have HFW := hide hfw5
              have HLE := hide hlen5
              have ha1 := HADD.out
              rw [hcm] at ha1
              simp only [ha1.1, ha1.2] at hadd
              have HA1 := hide ha1
              have HAD : Hid (Calls Tryd.prog 18 #[.pointer (some ⟨p, 0, none⟩), .agg #[.slice po5 1 pc5, .slice none 0 0, .string (noteG k)]] w5 _) := hide hadd
              have q0 : w5.cell? ⟨bc, 0, none⟩ = some (.slice po5 1 pc5) := cell_of_heap hbx5 0
              have q1 := cell_of_heap hbx5 1
              have q2 := cell_of_heap hbx5 2
              simp at q1 q2
              have HQB := hide (show wo.heap.size ≤ bc from by have := HBC.out; omega)
              have HBX5 := hide hbx5
              have HCH := hide hch5
              have HB5 := hide hB5
              clear hbx5 hrow5 hch5 hcm hN5 hT5 hB5 hy5 hyN5 hfw5 hlen5 hadd ha1
              go_wp2_with fail
              refine HAD.out.mono ?_
              rintro e w6 ⟨rfl, hT6, hy6, hc6⟩
              have hadd := hT6.putQ2 _ hy6 HFW.out (by simp) HY5.out HLE.out
              simp only [HA1.out.1, HA1.out.2] at hadd
              have HAQ : Hid (Calls Tryd.prog 27 #[.pointer (some ⟨q, 0, none⟩), .agg #[.slice po5 1 pc5, .slice none 0 0, .string (noteG k)]] w6 _) := hide hadd
              have hin := (Array.getElem?_eq_some_iff.1 HBX5.out).1
              have hbx6 := hc6.heap HBX5.out (fun h => h.2 (.inl ⟨HQB.out, hin⟩))
              have HB6 := hide (HB5.out.trans (hc6.below HB5.out.size (fun k hk h => by omega)))
              have q3 : w6.cell? ⟨bc, 0, none⟩ = some (.slice po5 1 pc5) := cell_of_heap hbx6 0
              have q4 := cell_of_heap hbx6 1
              have q5 := cell_of_heap hbx6 2
              simp at q4 q5
              clear hT6 hy6 hc6 hadd hin hbx6 q0 q1 q2
              go_wp2_with fail
              refine HAQ.out.mono ?_
              rintro e w7 ⟨rfl, hT7, hb7⟩
              have HT7 := hide (hT7.off (N' := fun k => k < w.heap.size) (fun b hb => .inl (.inr hb)))
              have HB7 := hide (HB6.out.trans hb7)
              clear hT7 hb7 q3 q4 q5
              go_wp2_with fail
              go_roundw
              case rel => exact ⟨k + 1, by omega, by go_num, HT7.out, HB7.out⟩
              case measure => simp [intOf]; omega
          · have d1 : decide (A ≥ 1) = false := decide_eq_false ha1
            have HE2 := hide (show gp2 k x = [] by rw [HG2.out, if_neg (fun h => ha1 h.1.1)])
            go_upto_region 14 with (fail)
            have HPS : Hid (gp1 k x ++ gp2 k x = [B]) := hide (by rw [HE1.out, HE2.out]; rfl)
            have HMK5 := HMK3
            generalize w3 = w5 at HMK5 ⊢
            clear HMK3
            obtain ⟨po5, pc5, hbx5, hrow5, hch5⟩ := HMK5.out
            have hcm : gcm k x = ⟨[B], [], noteG k⟩ := by rw [gcm, HPS.out]
            have hN5 : ∀ b, ((wo.heap.size ≤ b ∧ b < w5.heap.size) ∨ b < w.heap.size) → b < w5.heap.size := fun b hb => by have h1 := HB.out.size; have h2 := hch5.size; omega
            have hT5 := (HTW.out.off (N' := fun b => (wo.heap.size ≤ b ∧ b < w5.heap.size) ∨ b < w.heap.size) (fun b hb => hb.elim (fun h => .inr h.1) (fun h => .inl h))).same hch5
            have hB5 := HB.out.trans (hch5.below HB.out.size (fun _ _ h => h))
            have hy5 : CmAt w5 ⟨⟨[B], [], noteG k⟩, .slice po5 ([B]).length pc5, .slice none 0 0⟩ := ⟨Rd.of_owns hrow5, Rd.nil _, fun b hb _ => (ownsRow_lt hrow5 b hb).2, fun b hb _ => by cases hb⟩
            have hyN5 : ∀ b, YB ⟨⟨[B], [], noteG k⟩, .slice po5 ([B]).length pc5, .slice none 0 0⟩ b → ((wo.heap.size ≤ b ∧ b < w5.heap.size) ∨ b < w.heap.size) := fun b hb => by
              rcases hb with ⟨h, _⟩ | ⟨h, _⟩
              · exact .inl (ownsRow_lt hrow5 b h)
              · cases h
            have hfw5 : Few ⟨[B], [], noteG k⟩ := ⟨by show ([B]).length ≤ 1000000; simp, by show (0 : Nat) ≤ 1000000; omega⟩
            have hlen5 : (gcs (xs.take k)).length < 1000 := by rw [gcs_length, List.length_take]; omega
            have hadd := hT5.putR2 hN5 (HM.out.below hB5 HM.out.pos) _ hy5 hfw5 hyN5 hlen5
            have HY5 := hide hyN5
            have HFW := hide hfw5
            have HLE := hide hlen5
            have ha1 := HADD.out
            rw [hcm] at ha1
            simp only [ha1.1, ha1.2] at hadd
            have HA1 := hide ha1
            have HAD : Hid (Calls Tryd.prog 18 #[.pointer (some ⟨p, 0, none⟩), .agg #[.slice po5 1 pc5, .slice none 0 0, .string (noteG k)]] w5 _) := hide hadd
            have q0 : w5.cell? ⟨bc, 0, none⟩ = some (.slice po5 1 pc5) := cell_of_heap hbx5 0
            have q1 := cell_of_heap hbx5 1
            have q2 := cell_of_heap hbx5 2
            simp at q1 q2
            have HQB := hide (show wo.heap.size ≤ bc from by have := HBC.out; omega)
            have HBX5 := hide hbx5
            have HCH := hide hch5
            have HB5 := hide hB5
            clear hbx5 hrow5 hch5 hcm hN5 hT5 hB5 hy5 hyN5 hfw5 hlen5 hadd ha1
            go_wp2_with fail
            refine HAD.out.mono ?_
            rintro e w6 ⟨rfl, hT6, hy6, hc6⟩
            have hadd := hT6.putQ2 _ hy6 HFW.out (by simp) HY5.out HLE.out
            simp only [HA1.out.1, HA1.out.2] at hadd
            have HAQ : Hid (Calls Tryd.prog 27 #[.pointer (some ⟨q, 0, none⟩), .agg #[.slice po5 1 pc5, .slice none 0 0, .string (noteG k)]] w6 _) := hide hadd
            have hin := (Array.getElem?_eq_some_iff.1 HBX5.out).1
            have hbx6 := hc6.heap HBX5.out (fun h => h.2 (.inl ⟨HQB.out, hin⟩))
            have HB6 := hide (HB5.out.trans (hc6.below HB5.out.size (fun k hk h => by omega)))
            have q3 : w6.cell? ⟨bc, 0, none⟩ = some (.slice po5 1 pc5) := cell_of_heap hbx6 0
            have q4 := cell_of_heap hbx6 1
            have q5 := cell_of_heap hbx6 2
            simp at q4 q5
            clear hT6 hy6 hc6 hadd hin hbx6 q0 q1 q2
            go_wp2_with fail
            refine HAQ.out.mono ?_
            rintro e w7 ⟨rfl, hT7, hb7⟩
            have HT7 := hide (hT7.off (N' := fun k => k < w.heap.size) (fun b hb => .inl (.inr hb)))
            have HB7 := hide (HB6.out.trans hb7)
            clear hT7 hb7 q3 q4 q5
            go_wp2_with fail
            go_roundw
            case rel => exact ⟨k + 1, by omega, by go_num, HT7.out, HB7.out⟩
            case measure => simp [intOf]; omega
        · have d2 : decide (B ≤ (k : Int)) = false := decide_eq_false hb2
          have HE1 := hide (show gp1 k x = [] by rw [HG1.out, if_neg (fun h => hb2 h.2)])
          go_upto_region 12 with (fail)
          clear d1 d2
          have HMK3 := HMK
          generalize w2 = w3 at HMK3 ⊢
          clear HMK
          by_cases ha1 : 1 ≤ A
          · have d1 : decide (A ≥ 1) = true := decide_eq_true ha1
            by_cases ha2 : A ≤ k
            · have d2 : decide (A ≤ (k : Int)) = true := decide_eq_true ha2
              by_cases ha3 : A = B
              · have d3 : (A != B) = false := by simp [ha3]
                have HE2 := hide (show gp2 k x = [] by rw [HG2.out, if_neg (fun h => h.2 ha3)])
                go_upto_region 14 with (fail)
                have HPS : Hid (gp1 k x ++ gp2 k x = []) := hide (by rw [HE1.out, HE2.out]; rfl)
                have HMK5 := HMK3
                generalize w3 = w5 at HMK5 ⊢
                clear HMK3
                obtain ⟨po5, pc5, hbx5, hrow5, hch5⟩ := HMK5.out
                have hcm : gcm k x = ⟨[], [], noteG k⟩ := by rw [gcm, HPS.out]
                have hN5 : ∀ b, ((wo.heap.size ≤ b ∧ b < w5.heap.size) ∨ b < w.heap.size) → b < w5.heap.size := fun b hb => by have h1 := HB.out.size; have h2 := hch5.size; omega
                have hT5 := (HTW.out.off (N' := fun b => (wo.heap.size ≤ b ∧ b < w5.heap.size) ∨ b < w.heap.size) (fun b hb => hb.elim (fun h => .inr h.1) (fun h => .inl h))).same hch5
                have hB5 := HB.out.trans (hch5.below HB.out.size (fun _ _ h => h))
                have hy5 : CmAt w5 ⟨⟨[], [], noteG k⟩, .slice po5 ([]).length pc5, .slice none 0 0⟩ := ⟨Rd.of_owns hrow5, Rd.nil _, fun b hb _ => (ownsRow_lt hrow5 b hb).2, fun b hb _ => by cases hb⟩
                have hyN5 : ∀ b, YB ⟨⟨[], [], noteG k⟩, .slice po5 ([]).length pc5, .slice none 0 0⟩ b → ((wo.heap.size ≤ b ∧ b < w5.heap.size) ∨ b < w.heap.size) := fun b hb => by
                  rcases hb with ⟨h, _⟩ | ⟨h, _⟩
                  · exact .inl (ownsRow_lt hrow5 b h)
                  · cases h
                have hfw5 : Few ⟨[], [], noteG k⟩ := ⟨by show ([]).length ≤ 1000000; simp, by show (0 : Nat) ≤ 1000000; omega⟩
                have hlen5 : (gcs (xs.take k)).length < 1000 := by rw [gcs_length, List.length_take]; omega
                have hadd := hT5.putR2 hN5 (HM.out.below hB5 HM.out.pos) _ hy5 hfw5 hyN5 hlen5
                have HY5 := hide hyN5
                have HFW := hide hfw5
                have HLE := hide hlen5
                have ha1 := HADD.out
                rw [hcm] at ha1
                simp only [ha1.1, ha1.2] at hadd
                have HA1 := hide ha1
                have HAD : Hid (Calls Tryd.prog 18 #[.pointer (some ⟨p, 0, none⟩), .agg #[.slice po5 0 pc5, .slice none 0 0, .string (noteG k)]] w5 _) := hide hadd
                have q0 : w5.cell? ⟨bc, 0, none⟩ = some (.slice po5 0 pc5) := cell_of_heap hbx5 0
                have q1 := cell_of_heap hbx5 1
                have q2 := cell_of_heap hbx5 2
                simp at q1 q2
                have HQB := hide (show wo.heap.size ≤ bc from by have := HBC.out; omega)
                have HBX5 := hide hbx5
                have HCH := hide hch5
                have HB5 := hide hB5
                clear hbx5 hrow5 hch5 hcm hN5 hT5 hB5 hy5 hyN5 hfw5 hlen5 hadd ha1
                go_wp2_with fail
                refine HAD.out.mono ?_
                rintro e w6 ⟨rfl, hT6, hy6, hc6⟩
                have hadd := hT6.putQ2 _ hy6 HFW.out (by simp) HY5.out HLE.out
                simp only [HA1.out.1, HA1.out.2] at hadd
                have HAQ : Hid (Calls Tryd.prog 27 #[.pointer (some ⟨q, 0, none⟩), .agg #[.slice po5 0 pc5, .slice none 0 0, .string (noteG k)]] w6 _) := hide hadd
                have hin := (Array.getElem?_eq_some_iff.1 HBX5.out).1
                have hbx6 := hc6.heap HBX5.out (fun h => h.2 (.inl ⟨HQB.out, hin⟩))
                have HB6 := hide (HB5.out.trans (hc6.below HB5.out.size (fun k hk h => by omega)))
                have q3 : w6.cell? ⟨bc, 0, none⟩ = some (.slice po5 0 pc5) := cell_of_heap hbx6 0
                have q4 := cell_of_heap hbx6 1
                have q5 := cell_of_heap hbx6 2
                simp at q4 q5
                clear hT6 hy6 hc6 hadd hin hbx6 q0 q1 q2
                go_wp2_with fail
                refine HAQ.out.mono ?_
                rintro e w7 ⟨rfl, hT7, hb7⟩
                have HT7 := hide (hT7.off (N' := fun k => k < w.heap.size) (fun b hb => .inl (.inr hb)))
                have HB7 := hide (HB6.out.trans hb7)
                clear hT7 hb7 q3 q4 q5
                go_wp2_with fail
                go_roundw
                case rel => exact ⟨k + 1, by omega, by go_num, HT7.out, HB7.out⟩
                case measure => simp [intOf]; omega
              · have d3 : (A != B) = true := by simp [ha3]
                obtain ⟨po, pc, hbx, hrow, hch⟩ := HMK3.out
                have hrow : w3.ownsRow wo.heap.size 3 1 (.slice po 0 pc) 0 (flat int_enc []) := hrow
                have hbx : w3.heap[bc]? = some (.cells #[.slice po 0 pc, .slice none 0 0, .string (noteG k)] 33 (0, 0)) := hbx
                have c0 : w3.cell? ⟨bc, 0, none⟩ = some (.slice po 0 pc) := cell_of_heap hbx 0
                have HE2 := hide (show gp2 k x = [A] by rw [HG2.out, if_pos ⟨⟨ha1, ha2⟩, ha3⟩])
                go_upto_region 14 with (first
                  | (at_builtin; (refine wpl_append rfl _ _ _ rfl int_slT wo.heap.size (hrow.alloc _) (Rd_lit w3 #[.int .i64 A] 3 1) rfl rfl rfl (by simp [Value.oneCell']) (by unfold maxLen; omega) (by omega) (by have := hch.size; simp; omega) ?_); intro ao1 cap1 w4 hown hg _ _; have hg' := (Chg.alloc (fun _ => False) w3 (.cells #[.int .i64 A] 3)).trans hg (S'' := fun k => (Value.slice po 0 pc).ownBlock = some k) (fun _ _ h => h.elim) (fun _ _ h => h); have hbx4 := hg'.heap hbx (fun h => ownsRow_ne hrow hbx (by decide) h); have q0 := cell_of_heap hbx4 0; have f0 := free_of_heap hbx4 0; have HG4 := hide hg'; have HOW4 := hide hown; have HBX4 := hide hbx4; clear hg hg' hown hbx4)
                  )
                have HMK5 : Hid (MkSt wo bc (noteG k) ([] ++ [A]) (w4.setCell ⟨bc, 0, none⟩ (.slice ao1 (0 + 1) cap1))) := hide (mk_step (ps := []) (y := A) hrow hch (by have := HBC.out; omega) HG4.out HOW4.out HBX4.out)
                clear hbx hrow hch c0 q0 f0 HG4 HOW4 HBX4 HMK3
                generalize w4.setCell ⟨bc, 0, none⟩ (.slice ao1 (0 + 1) cap1) = w5 at HMK5 ⊢
                have HPS : Hid (gp1 k x ++ gp2 k x = [] ++ [A]) := hide (by rw [HE1.out, HE2.out])
                obtain ⟨po5, pc5, hbx5, hrow5, hch5⟩ := HMK5.out
                have hcm : gcm k x = ⟨([] ++ [A]), [], noteG k⟩ := by rw [gcm, HPS.out]
                have hN5 : ∀ b, ((wo.heap.size ≤ b ∧ b < w5.heap.size) ∨ b < w.heap.size) → b < w5.heap.size := fun b hb => by have h1 := HB.out.size; have h2 := hch5.size; omega
                have hT5 := (HTW.out.off (N' := fun b => (wo.heap.size ≤ b ∧ b < w5.heap.size) ∨ b < w.heap.size) (fun b hb => hb.elim (fun h => .inr h.1) (fun h => .inl h))).same hch5
                have hB5 := HB.out.trans (hch5.below HB.out.size (fun _ _ h => h))
                have hy5 : CmAt w5 ⟨⟨([] ++ [A]), [], noteG k⟩, .slice po5 (([] ++ [A])).length pc5, .slice none 0 0⟩ := ⟨Rd.of_owns hrow5, Rd.nil _, fun b hb _ => (ownsRow_lt hrow5 b hb).2, fun b hb _ => by cases hb⟩
                have hyN5 : ∀ b, YB ⟨⟨([] ++ [A]), [], noteG k⟩, .slice po5 (([] ++ [A])).length pc5, .slice none 0 0⟩ b → ((wo.heap.size ≤ b ∧ b < w5.heap.size) ∨ b < w.heap.size) := fun b hb => by
                  rcases hb with ⟨h, _⟩ | ⟨h, _⟩
                  · exact .inl (ownsRow_lt hrow5 b h)
                  · cases h
                have hfw5 : Few ⟨([] ++ [A]), [], noteG k⟩ := ⟨by show (([] ++ [A])).length ≤ 1000000; simp, by show (0 : Nat) ≤ 1000000; omega⟩
                have hlen5 : (gcs (xs.take k)).length < 1000 := by rw [gcs_length, List.length_take]; omega
                have hadd := hT5.putR2 hN5 (HM.out.below hB5 HM.out.pos) _ hy5 hfw5 hyN5 hlen5
                have HY5 := hide hyN5
                have HFW := hide hfw5
                have HLE := hide hlen5
                have ha1 := HADD.out
                rw [hcm] at ha1
                simp only [ha1.1, ha1.2] at hadd
                have HA1 := hide ha1
                have HAD : Hid (Calls Tryd.prog 18 #[.pointer (some ⟨p, 0, none⟩), .agg #[.slice po5 (0 + 1) pc5, .slice none 0 0, .string (noteG k)]] w5 _) := hide hadd
                have q0 : w5.cell? ⟨bc, 0, none⟩ = some (.slice po5 (0 + 1) pc5) := cell_of_heap hbx5 0
                have q1 := cell_of_heap hbx5 1
                have q2 := cell_of_heap hbx5 2
                simp at q1 q2
                have HQB := hide (show wo.heap.size ≤ bc from by have := HBC.out; omega)
                have HBX5 := hide hbx5
                have HCH := hide hch5
                have HB5 := hide hB5
                clear hbx5 hrow5 hch5 hcm hN5 hT5 hB5 hy5 hyN5 hfw5 hlen5 hadd ha1
                go_wp2_with fail
                refine HAD.out.mono ?_
                rintro e w6 ⟨rfl, hT6, hy6, hc6⟩
                have hadd := hT6.putQ2 _ hy6 HFW.out (by simp) HY5.out HLE.out
                simp only [HA1.out.1, HA1.out.2] at hadd
                have HAQ : Hid (Calls Tryd.prog 27 #[.pointer (some ⟨q, 0, none⟩), .agg #[.slice po5 (0 + 1) pc5, .slice none 0 0, .string (noteG k)]] w6 _) := hide hadd
                have hin := (Array.getElem?_eq_some_iff.1 HBX5.out).1
                have hbx6 := hc6.heap HBX5.out (fun h => h.2 (.inl ⟨HQB.out, hin⟩))
                have HB6 := hide (HB5.out.trans (hc6.below HB5.out.size (fun k hk h => by omega)))
                have q3 : w6.cell? ⟨bc, 0, none⟩ = some (.slice po5 (0 + 1) pc5) := cell_of_heap hbx6 0
                have q4 := cell_of_heap hbx6 1
                have q5 := cell_of_heap hbx6 2
                simp at q4 q5
                clear hT6 hy6 hc6 hadd hin hbx6 q0 q1 q2
                go_wp2_with fail
                refine HAQ.out.mono ?_
                rintro e w7 ⟨rfl, hT7, hb7⟩
                have HT7 := hide (hT7.off (N' := fun k => k < w.heap.size) (fun b hb => .inl (.inr hb)))
                have HB7 := hide (HB6.out.trans hb7)
                clear hT7 hb7 q3 q4 q5
                go_wp2_with fail
                go_roundw
                case rel => exact ⟨k + 1, by omega, by go_num, HT7.out, HB7.out⟩
                case measure => simp [intOf]; omega
            · have d2 : decide (A ≤ (k : Int)) = false := decide_eq_false ha2
              have HE2 := hide (show gp2 k x = [] by rw [HG2.out, if_neg (fun h => ha2 h.1.2)])
              go_upto_region 14 with (fail)
              have HPS : Hid (gp1 k x ++ gp2 k x = []) := hide (by rw [HE1.out, HE2.out]; rfl)
              have HMK5 := HMK3
              generalize w3 = w5 at HMK5 ⊢
              clear HMK3
              obtain ⟨po5, pc5, hbx5, hrow5, hch5⟩ := HMK5.out
              have hcm : gcm k x = ⟨[], [], noteG k⟩ := by rw [gcm, HPS.out]
              have hN5 : ∀ b, ((wo.heap.size ≤ b ∧ b < w5.heap.size) ∨ b < w.heap.size) → b < w5.heap.size := fun b hb => by have h1 := HB.out.size; have h2 := hch5.size; omega
              have hT5 := (HTW.out.off (N' := fun b => (wo.heap.size ≤ b ∧ b < w5.heap.size) ∨ b < w.heap.size) (fun b hb => hb.elim (fun h => .inr h.1) (fun h => .inl h))).same hch5
              have hB5 := HB.out.trans (hch5.below HB.out.size (fun _ _ h => h))
              have hy5 : CmAt w5 ⟨⟨[], [], noteG k⟩, .slice po5 ([]).length pc5, .slice none 0 0⟩ := ⟨Rd.of_owns hrow5, Rd.nil _, fun b hb _ => (ownsRow_lt hrow5 b hb).2, fun b hb _ => by cases hb⟩
              have hyN5 : ∀ b, YB ⟨⟨[], [], noteG k⟩, .slice po5 ([]).length pc5, .slice none 0 0⟩ b → ((wo.heap.size ≤ b ∧ b < w5.heap.size) ∨ b < w.heap.size) := fun b hb => by
                rcases hb with ⟨h, _⟩ | ⟨h, _⟩
                · exact .inl (ownsRow_lt hrow5 b h)
                · cases h
              have hfw5 : Few ⟨[], [], noteG k⟩ := ⟨by show ([]).length ≤ 1000000; simp, by show (0 : Nat) ≤ 1000000; omega⟩
              have hlen5 : (gcs (xs.take k)).length < 1000 := by rw [gcs_length, List.length_take]; omega
              have hadd := hT5.putR2 hN5 (HM.out.below hB5 HM.out.pos) _ hy5 hfw5 hyN5 hlen5
              have HY5 := hide hyN5
              have HFW := hide hfw5
              have HLE := hide hlen5
              have ha1 := HADD.out
              rw [hcm] at ha1
              simp only [ha1.1, ha1.2] at hadd
              have HA1 := hide ha1
              have HAD : Hid (Calls Tryd.prog 18 #[.pointer (some ⟨p, 0, none⟩), .agg #[.slice po5 0 pc5, .slice none 0 0, .string (noteG k)]] w5 _) := hide hadd
              have q0 : w5.cell? ⟨bc, 0, none⟩ = some (.slice po5 0 pc5) := cell_of_heap hbx5 0
              have q1 := cell_of_heap hbx5 1
              have q2 := cell_of_heap hbx5 2
              simp at q1 q2
              have HQB := hide (show wo.heap.size ≤ bc from by have := HBC.out; omega)
              have HBX5 := hide hbx5
              have HCH := hide hch5
              have HB5 := hide hB5
              clear hbx5 hrow5 hch5 hcm hN5 hT5 hB5 hy5 hyN5 hfw5 hlen5 hadd ha1
              go_wp2_with fail
              refine HAD.out.mono ?_
              rintro e w6 ⟨rfl, hT6, hy6, hc6⟩
              have hadd := hT6.putQ2 _ hy6 HFW.out (by simp) HY5.out HLE.out
              simp only [HA1.out.1, HA1.out.2] at hadd
              have HAQ : Hid (Calls Tryd.prog 27 #[.pointer (some ⟨q, 0, none⟩), .agg #[.slice po5 0 pc5, .slice none 0 0, .string (noteG k)]] w6 _) := hide hadd
              have hin := (Array.getElem?_eq_some_iff.1 HBX5.out).1
              have hbx6 := hc6.heap HBX5.out (fun h => h.2 (.inl ⟨HQB.out, hin⟩))
              have HB6 := hide (HB5.out.trans (hc6.below HB5.out.size (fun k hk h => by omega)))
              have q3 : w6.cell? ⟨bc, 0, none⟩ = some (.slice po5 0 pc5) := cell_of_heap hbx6 0
              have q4 := cell_of_heap hbx6 1
              have q5 := cell_of_heap hbx6 2
              simp at q4 q5
              clear hT6 hy6 hc6 hadd hin hbx6 q0 q1 q2
              go_wp2_with fail
              refine HAQ.out.mono ?_
              rintro e w7 ⟨rfl, hT7, hb7⟩
              have HT7 := hide (hT7.off (N' := fun k => k < w.heap.size) (fun b hb => .inl (.inr hb)))
              have HB7 := hide (HB6.out.trans hb7)
              clear hT7 hb7 q3 q4 q5
              go_wp2_with fail
              go_roundw
              case rel => exact ⟨k + 1, by omega, by go_num, HT7.out, HB7.out⟩
              case measure => simp [intOf]; omega
          · have d1 : decide (A ≥ 1) = false := decide_eq_false ha1
            have HE2 := hide (show gp2 k x = [] by rw [HG2.out, if_neg (fun h => ha1 h.1.1)])
            go_upto_region 14 with (fail)
            have HPS : Hid (gp1 k x ++ gp2 k x = []) := hide (by rw [HE1.out, HE2.out]; rfl)
            have HMK5 := HMK3
            generalize w3 = w5 at HMK5 ⊢
            clear HMK3
            obtain ⟨po5, pc5, hbx5, hrow5, hch5⟩ := HMK5.out
            have hcm : gcm k x = ⟨[], [], noteG k⟩ := by rw [gcm, HPS.out]
            have hN5 : ∀ b, ((wo.heap.size ≤ b ∧ b < w5.heap.size) ∨ b < w.heap.size) → b < w5.heap.size := fun b hb => by have h1 := HB.out.size; have h2 := hch5.size; omega
            have hT5 := (HTW.out.off (N' := fun b => (wo.heap.size ≤ b ∧ b < w5.heap.size) ∨ b < w.heap.size) (fun b hb => hb.elim (fun h => .inr h.1) (fun h => .inl h))).same hch5
            have hB5 := HB.out.trans (hch5.below HB.out.size (fun _ _ h => h))
            have hy5 : CmAt w5 ⟨⟨[], [], noteG k⟩, .slice po5 ([]).length pc5, .slice none 0 0⟩ := ⟨Rd.of_owns hrow5, Rd.nil _, fun b hb _ => (ownsRow_lt hrow5 b hb).2, fun b hb _ => by cases hb⟩
            have hyN5 : ∀ b, YB ⟨⟨[], [], noteG k⟩, .slice po5 ([]).length pc5, .slice none 0 0⟩ b → ((wo.heap.size ≤ b ∧ b < w5.heap.size) ∨ b < w.heap.size) := fun b hb => by
              rcases hb with ⟨h, _⟩ | ⟨h, _⟩
              · exact .inl (ownsRow_lt hrow5 b h)
              · cases h
            have hfw5 : Few ⟨[], [], noteG k⟩ := ⟨by show ([]).length ≤ 1000000; simp, by show (0 : Nat) ≤ 1000000; omega⟩
            have hlen5 : (gcs (xs.take k)).length < 1000 := by rw [gcs_length, List.length_take]; omega
            have hadd := hT5.putR2 hN5 (HM.out.below hB5 HM.out.pos) _ hy5 hfw5 hyN5 hlen5
            have HY5 := hide hyN5
            have HFW := hide hfw5
            have HLE := hide hlen5
            have ha1 := HADD.out
            rw [hcm] at ha1
            simp only [ha1.1, ha1.2] at hadd
            have HA1 := hide ha1
            have HAD : Hid (Calls Tryd.prog 18 #[.pointer (some ⟨p, 0, none⟩), .agg #[.slice po5 0 pc5, .slice none 0 0, .string (noteG k)]] w5 _) := hide hadd
            have q0 : w5.cell? ⟨bc, 0, none⟩ = some (.slice po5 0 pc5) := cell_of_heap hbx5 0
            have q1 := cell_of_heap hbx5 1
            have q2 := cell_of_heap hbx5 2
            simp at q1 q2
            have HQB := hide (show wo.heap.size ≤ bc from by have := HBC.out; omega)
            have HBX5 := hide hbx5
            have HCH := hide hch5
            have HB5 := hide hB5
            clear hbx5 hrow5 hch5 hcm hN5 hT5 hB5 hy5 hyN5 hfw5 hlen5 hadd ha1
            go_wp2_with fail
            refine HAD.out.mono ?_
            rintro e w6 ⟨rfl, hT6, hy6, hc6⟩
            have hadd := hT6.putQ2 _ hy6 HFW.out (by simp) HY5.out HLE.out
            simp only [HA1.out.1, HA1.out.2] at hadd
            have HAQ : Hid (Calls Tryd.prog 27 #[.pointer (some ⟨q, 0, none⟩), .agg #[.slice po5 0 pc5, .slice none 0 0, .string (noteG k)]] w6 _) := hide hadd
            have hin := (Array.getElem?_eq_some_iff.1 HBX5.out).1
            have hbx6 := hc6.heap HBX5.out (fun h => h.2 (.inl ⟨HQB.out, hin⟩))
            have HB6 := hide (HB5.out.trans (hc6.below HB5.out.size (fun k hk h => by omega)))
            have q3 : w6.cell? ⟨bc, 0, none⟩ = some (.slice po5 0 pc5) := cell_of_heap hbx6 0
            have q4 := cell_of_heap hbx6 1
            have q5 := cell_of_heap hbx6 2
            simp at q4 q5
            clear hT6 hy6 hc6 hadd hin hbx6 q0 q1 q2
            go_wp2_with fail
            refine HAQ.out.mono ?_
            rintro e w7 ⟨rfl, hT7, hb7⟩
            have HT7 := hide (hT7.off (N' := fun k => k < w.heap.size) (fun b hb => .inl (.inr hb)))
            have HB7 := hide (HB6.out.trans hb7)
            clear hT7 hb7 q3 q4 q5
            go_wp2_with fail
            go_roundw
            case rel => exact ⟨k + 1, by omega, by go_num, HT7.out, HB7.out⟩
            case measure => simp [intOf]; omega
      · have d1 : decide (B ≥ 1) = false := decide_eq_false hb1
        have HE1 := hide (show gp1 k x = [] by rw [HG1.out, if_neg (fun h => hb1 h.1)])
        go_upto_region 12 with (fail)
        clear d1
        have HMK3 := HMK
        generalize w2 = w3 at HMK3 ⊢
        clear HMK
        by_cases ha1 : 1 ≤ A
        · have d1 : decide (A ≥ 1) = true := decide_eq_true ha1
          by_cases ha2 : A ≤ k
          · have d2 : decide (A ≤ (k : Int)) = true := decide_eq_true ha2
            by_cases ha3 : A = B
            · have d3 : (A != B) = false := by simp [ha3]
              have HE2 := hide (show gp2 k x = [] by rw [HG2.out, if_neg (fun h => h.2 ha3)])
              go_upto_region 14 with (fail)
              have HPS : Hid (gp1 k x ++ gp2 k x = []) := hide (by rw [HE1.out, HE2.out]; rfl)
              have HMK5 := HMK3
              generalize w3 = w5 at HMK5 ⊢
              clear HMK3
              obtain ⟨po5, pc5, hbx5, hrow5, hch5⟩ := HMK5.out
              have hcm : gcm k x = ⟨[], [], noteG k⟩ := by rw [gcm, HPS.out]
              have hN5 : ∀ b, ((wo.heap.size ≤ b ∧ b < w5.heap.size) ∨ b < w.heap.size) → b < w5.heap.size := fun b hb => by have h1 := HB.out.size; have h2 := hch5.size; omega
              have hT5 := (HTW.out.off (N' := fun b => (wo.heap.size ≤ b ∧ b < w5.heap.size) ∨ b < w.heap.size) (fun b hb => hb.elim (fun h => .inr h.1) (fun h => .inl h))).same hch5
              have hB5 := HB.out.trans (hch5.below HB.out.size (fun _ _ h => h))
              have hy5 : CmAt w5 ⟨⟨[], [], noteG k⟩, .slice po5 ([]).length pc5, .slice none 0 0⟩ := ⟨Rd.of_owns hrow5, Rd.nil _, fun b hb _ => (ownsRow_lt hrow5 b hb).2, fun b hb _ => by cases hb⟩
              have hyN5 : ∀ b, YB ⟨⟨[], [], noteG k⟩, .slice po5 ([]).length pc5, .slice none 0 0⟩ b → ((wo.heap.size ≤ b ∧ b < w5.heap.size) ∨ b < w.heap.size) := fun b hb => by
                rcases hb with ⟨h, _⟩ | ⟨h, _⟩
                · exact .inl (ownsRow_lt hrow5 b h)
                · cases h
              have hfw5 : Few ⟨[], [], noteG k⟩ := ⟨by show ([]).length ≤ 1000000; simp, by show (0 : Nat) ≤ 1000000; omega⟩
              have hlen5 : (gcs (xs.take k)).length < 1000 := by rw [gcs_length, List.length_take]; omega
              have hadd := hT5.putR2 hN5 (HM.out.below hB5 HM.out.pos) _ hy5 hfw5 hyN5 hlen5
              have HY5 := hide hyN5
              have HFW := hide hfw5
              have HLE := hide hlen5
              have ha1 := HADD.out
              rw [hcm] at ha1
              simp only [ha1.1, ha1.2] at hadd
              have HA1 := hide ha1
              have HAD : Hid (Calls Tryd.prog 18 #[.pointer (some ⟨p, 0, none⟩), .agg #[.slice po5 0 pc5, .slice none 0 0, .string (noteG k)]] w5 _) := hide hadd
              have q0 : w5.cell? ⟨bc, 0, none⟩ = some (.slice po5 0 pc5) := cell_of_heap hbx5 0
              have q1 := cell_of_heap hbx5 1
              have q2 := cell_of_heap hbx5 2
              simp at q1 q2
              have HQB := hide (show wo.heap.size ≤ bc from by have := HBC.out; omega)
              have HBX5 := hide hbx5
              have HCH := hide hch5
              have HB5 := hide hB5
              clear hbx5 hrow5 hch5 hcm hN5 hT5 hB5 hy5 hyN5 hfw5 hlen5 hadd ha1
              go_wp2_with fail
              refine HAD.out.mono ?_
              rintro e w6 ⟨rfl, hT6, hy6, hc6⟩
              have hadd := hT6.putQ2 _ hy6 HFW.out (by simp) HY5.out HLE.out
              simp only [HA1.out.1, HA1.out.2] at hadd
              have HAQ : Hid (Calls Tryd.prog 27 #[.pointer (some ⟨q, 0, none⟩), .agg #[.slice po5 0 pc5, .slice none 0 0, .string (noteG k)]] w6 _) := hide hadd
              have hin := (Array.getElem?_eq_some_iff.1 HBX5.out).1
              have hbx6 := hc6.heap HBX5.out (fun h => h.2 (.inl ⟨HQB.out, hin⟩))
              have HB6 := hide (HB5.out.trans (hc6.below HB5.out.size (fun k hk h => by omega)))
              have q3 : w6.cell? ⟨bc, 0, none⟩ = some (.slice po5 0 pc5) := cell_of_heap hbx6 0
              have q4 := cell_of_heap hbx6 1
              have q5 := cell_of_heap hbx6 2
              simp at q4 q5
              clear hT6 hy6 hc6 hadd hin hbx6 q0 q1 q2
              go_wp2_with fail
              refine HAQ.out.mono ?_
              rintro e w7 ⟨rfl, hT7, hb7⟩
              have HT7 := hide (hT7.off (N' := fun k => k < w.heap.size) (fun b hb => .inl (.inr hb)))
              have HB7 := hide (HB6.out.trans hb7)
              clear hT7 hb7 q3 q4 q5
              go_wp2_with fail
              go_roundw
              case rel => exact ⟨k + 1, by omega, by go_num, HT7.out, HB7.out⟩
              case measure => simp [intOf]; omega
            · have d3 : (A != B) = true := by simp [ha3]
              obtain ⟨po, pc, hbx, hrow, hch⟩ := HMK3.out
              have hrow : w3.ownsRow wo.heap.size 3 1 (.slice po 0 pc) 0 (flat int_enc []) := hrow
              have hbx : w3.heap[bc]? = some (.cells #[.slice po 0 pc, .slice none 0 0, .string (noteG k)] 33 (0, 0)) := hbx
              have c0 : w3.cell? ⟨bc, 0, none⟩ = some (.slice po 0 pc) := cell_of_heap hbx 0
              have HE2 := hide (show gp2 k x = [A] by rw [HG2.out, if_pos ⟨⟨ha1, ha2⟩, ha3⟩])
              go_upto_region 14 with (first
                | (at_builtin; (refine wpl_append rfl _ _ _ rfl int_slT wo.heap.size (hrow.alloc _) (Rd_lit w3 #[.int .i64 A] 3 1) rfl rfl rfl (by simp [Value.oneCell']) (by unfold maxLen; omega) (by omega) (by have := hch.size; simp; omega) ?_); intro ao1 cap1 w4 hown hg _ _; have hg' := (Chg.alloc (fun _ => False) w3 (.cells #[.int .i64 A] 3)).trans hg (S'' := fun k => (Value.slice po 0 pc).ownBlock = some k) (fun _ _ h => h.elim) (fun _ _ h => h); have hbx4 := hg'.heap hbx (fun h => ownsRow_ne hrow hbx (by decide) h); have q0 := cell_of_heap hbx4 0; have f0 := free_of_heap hbx4 0; have HG4 := hide hg'; have HOW4 := hide hown; have HBX4 := hide hbx4; clear hg hg' hown hbx4)
                )
              have HMK5 : Hid (MkSt wo bc (noteG k) ([] ++ [A]) (w4.setCell ⟨bc, 0, none⟩ (.slice ao1 (0 + 1) cap1))) := hide (mk_step (ps := []) (y := A) hrow hch (by have := HBC.out; omega) HG4.out HOW4.out HBX4.out)
              clear hbx hrow hch c0 q0 f0 HG4 HOW4 HBX4 HMK3
              generalize w4.setCell ⟨bc, 0, none⟩ (.slice ao1 (0 + 1) cap1) = w5 at HMK5 ⊢
              have HPS : Hid (gp1 k x ++ gp2 k x = [] ++ [A]) := hide (by rw [HE1.out, HE2.out])
              obtain ⟨po5, pc5, hbx5, hrow5, hch5⟩ := HMK5.out
              have hcm : gcm k x = ⟨([] ++ [A]), [], noteG k⟩ := by rw [gcm, HPS.out]
              have hN5 : ∀ b, ((wo.heap.size ≤ b ∧ b < w5.heap.size) ∨ b < w.heap.size) → b < w5.heap.size := fun b hb => by have h1 := HB.out.size; have h2 := hch5.size; omega
              have hT5 := (HTW.out.off (N' := fun b => (wo.heap.size ≤ b ∧ b < w5.heap.size) ∨ b < w.heap.size) (fun b hb => hb.elim (fun h => .inr h.1) (fun h => .inl h))).same hch5
              have hB5 := HB.out.trans (hch5.below HB.out.size (fun _ _ h => h))
              have hy5 : CmAt w5 ⟨⟨([] ++ [A]), [], noteG k⟩, .slice po5 (([] ++ [A])).length pc5, .slice none 0 0⟩ := ⟨Rd.of_owns hrow5, Rd.nil _, fun b hb _ => (ownsRow_lt hrow5 b hb).2, fun b hb _ => by cases hb⟩
              have hyN5 : ∀ b, YB ⟨⟨([] ++ [A]), [], noteG k⟩, .slice po5 (([] ++ [A])).length pc5, .slice none 0 0⟩ b → ((wo.heap.size ≤ b ∧ b < w5.heap.size) ∨ b < w.heap.size) := fun b hb => by
                rcases hb with ⟨h, _⟩ | ⟨h, _⟩
                · exact .inl (ownsRow_lt hrow5 b h)
                · cases h
              have hfw5 : Few ⟨([] ++ [A]), [], noteG k⟩ := ⟨by show (([] ++ [A])).length ≤ 1000000; simp, by show (0 : Nat) ≤ 1000000; omega⟩
              have hlen5 : (gcs (xs.take k)).length < 1000 := by rw [gcs_length, List.length_take]; omega
              have hadd := hT5.putR2 hN5 (HM.out.below hB5 HM.out.pos) _ hy5 hfw5 hyN5 hlen5
              have HY5 := hide hyN5
              have HFW := hide hfw5
              have HLE := hide hlen5
              have ha1 := HADD.out
              rw [hcm] at ha1
              simp only [ha1.1, ha1.2] at hadd
              have HA1 := hide ha1
              have HAD : Hid (Calls Tryd.prog 18 #[.pointer (some ⟨p, 0, none⟩), .agg #[.slice po5 (0 + 1) pc5, .slice none 0 0, .string (noteG k)]] w5 _) := hide hadd
              have q0 : w5.cell? ⟨bc, 0, none⟩ = some (.slice po5 (0 + 1) pc5) := cell_of_heap hbx5 0
              have q1 := cell_of_heap hbx5 1
              have q2 := cell_of_heap hbx5 2
              simp at q1 q2
              have HQB := hide (show wo.heap.size ≤ bc from by have := HBC.out; omega)
              have HBX5 := hide hbx5
              have HCH := hide hch5
              have HB5 := hide hB5
              clear hbx5 hrow5 hch5 hcm hN5 hT5 hB5 hy5 hyN5 hfw5 hlen5 hadd ha1
              go_wp2_with fail
              refine HAD.out.mono ?_
              rintro e w6 ⟨rfl, hT6, hy6, hc6⟩
              have hadd := hT6.putQ2 _ hy6 HFW.out (by simp) HY5.out HLE.out
              simp only [HA1.out.1, HA1.out.2] at hadd
              have HAQ : Hid (Calls Tryd.prog 27 #[.pointer (some ⟨q, 0, none⟩), .agg #[.slice po5 (0 + 1) pc5, .slice none 0 0, .string (noteG k)]] w6 _) := hide hadd
              have hin := (Array.getElem?_eq_some_iff.1 HBX5.out).1
              have hbx6 := hc6.heap HBX5.out (fun h => h.2 (.inl ⟨HQB.out, hin⟩))
              have HB6 := hide (HB5.out.trans (hc6.below HB5.out.size (fun k hk h => by omega)))
              have q3 : w6.cell? ⟨bc, 0, none⟩ = some (.slice po5 (0 + 1) pc5) := cell_of_heap hbx6 0
              have q4 := cell_of_heap hbx6 1
              have q5 := cell_of_heap hbx6 2
              simp at q4 q5
              clear hT6 hy6 hc6 hadd hin hbx6 q0 q1 q2
              go_wp2_with fail
              refine HAQ.out.mono ?_
              rintro e w7 ⟨rfl, hT7, hb7⟩
              have HT7 := hide (hT7.off (N' := fun k => k < w.heap.size) (fun b hb => .inl (.inr hb)))
              have HB7 := hide (HB6.out.trans hb7)
              clear hT7 hb7 q3 q4 q5
              go_wp2_with fail
              go_roundw
              case rel => exact ⟨k + 1, by omega, by go_num, HT7.out, HB7.out⟩
              case measure => simp [intOf]; omega
          · have d2 : decide (A ≤ (k : Int)) = false := decide_eq_false ha2
            have HE2 := hide (show gp2 k x = [] by rw [HG2.out, if_neg (fun h => ha2 h.1.2)])
            go_upto_region 14 with (fail)
            have HPS : Hid (gp1 k x ++ gp2 k x = []) := hide (by rw [HE1.out, HE2.out]; rfl)
            have HMK5 := HMK3
            generalize w3 = w5 at HMK5 ⊢
            clear HMK3
            obtain ⟨po5, pc5, hbx5, hrow5, hch5⟩ := HMK5.out
            have hcm : gcm k x = ⟨[], [], noteG k⟩ := by rw [gcm, HPS.out]
            have hN5 : ∀ b, ((wo.heap.size ≤ b ∧ b < w5.heap.size) ∨ b < w.heap.size) → b < w5.heap.size := fun b hb => by have h1 := HB.out.size; have h2 := hch5.size; omega
            have hT5 := (HTW.out.off (N' := fun b => (wo.heap.size ≤ b ∧ b < w5.heap.size) ∨ b < w.heap.size) (fun b hb => hb.elim (fun h => .inr h.1) (fun h => .inl h))).same hch5
            have hB5 := HB.out.trans (hch5.below HB.out.size (fun _ _ h => h))
            have hy5 : CmAt w5 ⟨⟨[], [], noteG k⟩, .slice po5 ([]).length pc5, .slice none 0 0⟩ := ⟨Rd.of_owns hrow5, Rd.nil _, fun b hb _ => (ownsRow_lt hrow5 b hb).2, fun b hb _ => by cases hb⟩
            have hyN5 : ∀ b, YB ⟨⟨[], [], noteG k⟩, .slice po5 ([]).length pc5, .slice none 0 0⟩ b → ((wo.heap.size ≤ b ∧ b < w5.heap.size) ∨ b < w.heap.size) := fun b hb => by
              rcases hb with ⟨h, _⟩ | ⟨h, _⟩
              · exact .inl (ownsRow_lt hrow5 b h)
              · cases h
            have hfw5 : Few ⟨[], [], noteG k⟩ := ⟨by show ([]).length ≤ 1000000; simp, by show (0 : Nat) ≤ 1000000; omega⟩
            have hlen5 : (gcs (xs.take k)).length < 1000 := by rw [gcs_length, List.length_take]; omega
            have hadd := hT5.putR2 hN5 (HM.out.below hB5 HM.out.pos) _ hy5 hfw5 hyN5 hlen5
            have HY5 := hide hyN5
            have HFW := hide hfw5
            have HLE := hide hlen5
            have ha1 := HADD.out
            rw [hcm] at ha1
            simp only [ha1.1, ha1.2] at hadd
            have HA1 := hide ha1
            have HAD : Hid (Calls Tryd.prog 18 #[.pointer (some ⟨p, 0, none⟩), .agg #[.slice po5 0 pc5, .slice none 0 0, .string (noteG k)]] w5 _) := hide hadd
            have q0 : w5.cell? ⟨bc, 0, none⟩ = some (.slice po5 0 pc5) := cell_of_heap hbx5 0
            have q1 := cell_of_heap hbx5 1
            have q2 := cell_of_heap hbx5 2
            simp at q1 q2
            have HQB := hide (show wo.heap.size ≤ bc from by have := HBC.out; omega)
            have HBX5 := hide hbx5
            have HCH := hide hch5
            have HB5 := hide hB5
            clear hbx5 hrow5 hch5 hcm hN5 hT5 hB5 hy5 hyN5 hfw5 hlen5 hadd ha1
            go_wp2_with fail
            refine HAD.out.mono ?_
            rintro e w6 ⟨rfl, hT6, hy6, hc6⟩
            have hadd := hT6.putQ2 _ hy6 HFW.out (by simp) HY5.out HLE.out
            simp only [HA1.out.1, HA1.out.2] at hadd
            have HAQ : Hid (Calls Tryd.prog 27 #[.pointer (some ⟨q, 0, none⟩), .agg #[.slice po5 0 pc5, .slice none 0 0, .string (noteG k)]] w6 _) := hide hadd
            have hin := (Array.getElem?_eq_some_iff.1 HBX5.out).1
            have hbx6 := hc6.heap HBX5.out (fun h => h.2 (.inl ⟨HQB.out, hin⟩))
            have HB6 := hide (HB5.out.trans (hc6.below HB5.out.size (fun k hk h => by omega)))
            have q3 : w6.cell? ⟨bc, 0, none⟩ = some (.slice po5 0 pc5) := cell_of_heap hbx6 0
            have q4 := cell_of_heap hbx6 1
            have q5 := cell_of_heap hbx6 2
            simp at q4 q5
            clear hT6 hy6 hc6 hadd hin hbx6 q0 q1 q2
            go_wp2_with fail
            refine HAQ.out.mono ?_
            rintro e w7 ⟨rfl, hT7, hb7⟩
            have HT7 := hide (hT7.off (N' := fun k => k < w.heap.size) (fun b hb => .inl (.inr hb)))
            have HB7 := hide (HB6.out.trans hb7)
            clear hT7 hb7 q3 q4 q5
            go_wp2_with fail
            go_roundw
            case rel => exact ⟨k + 1, by omega, by go_num, HT7.out, HB7.out⟩
            case measure => simp [intOf]; omega
        · have d1 : decide (A ≥ 1) = false := decide_eq_false ha1
          have HE2 := hide (show gp2 k x = [] by rw [HG2.out, if_neg (fun h => ha1 h.1.1)])
          go_upto_region 14 with (fail)
          have HPS : Hid (gp1 k x ++ gp2 k x = []) := hide (by rw [HE1.out, HE2.out]; rfl)
          have HMK5 := HMK3
          generalize w3 = w5 at HMK5 ⊢
          clear HMK3
          obtain ⟨po5, pc5, hbx5, hrow5, hch5⟩ := HMK5.out
          have hcm : gcm k x = ⟨[], [], noteG k⟩ := by rw [gcm, HPS.out]
          have hN5 : ∀ b, ((wo.heap.size ≤ b ∧ b < w5.heap.size) ∨ b < w.heap.size) → b < w5.heap.size := fun b hb => by have h1 := HB.out.size; have h2 := hch5.size; omega
          have hT5 := (HTW.out.off (N' := fun b => (wo.heap.size ≤ b ∧ b < w5.heap.size) ∨ b < w.heap.size) (fun b hb => hb.elim (fun h => .inr h.1) (fun h => .inl h))).same hch5
          have hB5 := HB.out.trans (hch5.below HB.out.size (fun _ _ h => h))
          have hy5 : CmAt w5 ⟨⟨[], [], noteG k⟩, .slice po5 ([]).length pc5, .slice none 0 0⟩ := ⟨Rd.of_owns hrow5, Rd.nil _, fun b hb _ => (ownsRow_lt hrow5 b hb).2, fun b hb _ => by cases hb⟩
          have hyN5 : ∀ b, YB ⟨⟨[], [], noteG k⟩, .slice po5 ([]).length pc5, .slice none 0 0⟩ b → ((wo.heap.size ≤ b ∧ b < w5.heap.size) ∨ b < w.heap.size) := fun b hb => by
            rcases hb with ⟨h, _⟩ | ⟨h, _⟩
            · exact .inl (ownsRow_lt hrow5 b h)
            · cases h
          have hfw5 : Few ⟨[], [], noteG k⟩ := ⟨by show ([]).length ≤ 1000000; simp, by show (0 : Nat) ≤ 1000000; omega⟩
          have hlen5 : (gcs (xs.take k)).length < 1000 := by rw [gcs_length, List.length_take]; omega
          have hadd := hT5.putR2 hN5 (HM.out.below hB5 HM.out.pos) _ hy5 hfw5 hyN5 hlen5
          have HY5 := hide hyN5
          have HFW := hide hfw5
          have HLE := hide hlen5
          have ha1 := HADD.out
          rw [hcm] at ha1
          simp only [ha1.1, ha1.2] at hadd
          have HA1 := hide ha1
          have HAD : Hid (Calls Tryd.prog 18 #[.pointer (some ⟨p, 0, none⟩), .agg #[.slice po5 0 pc5, .slice none 0 0, .string (noteG k)]] w5 _) := hide hadd
          have q0 : w5.cell? ⟨bc, 0, none⟩ = some (.slice po5 0 pc5) := cell_of_heap hbx5 0
          have q1 := cell_of_heap hbx5 1
          have q2 := cell_of_heap hbx5 2
          simp at q1 q2
          have HQB := hide (show wo.heap.size ≤ bc from by have := HBC.out; omega)
          have HBX5 := hide hbx5
          have HCH := hide hch5
          have HB5 := hide hB5
          clear hbx5 hrow5 hch5 hcm hN5 hT5 hB5 hy5 hyN5 hfw5 hlen5 hadd ha1
          go_wp2_with fail
          refine HAD.out.mono ?_
          rintro e w6 ⟨rfl, hT6, hy6, hc6⟩
          have hadd := hT6.putQ2 _ hy6 HFW.out (by simp) HY5.out HLE.out
          simp only [HA1.out.1, HA1.out.2] at hadd
          have HAQ : Hid (Calls Tryd.prog 27 #[.pointer (some ⟨q, 0, none⟩), .agg #[.slice po5 0 pc5, .slice none 0 0, .string (noteG k)]] w6 _) := hide hadd
          have hin := (Array.getElem?_eq_some_iff.1 HBX5.out).1
          have hbx6 := hc6.heap HBX5.out (fun h => h.2 (.inl ⟨HQB.out, hin⟩))
          have HB6 := hide (HB5.out.trans (hc6.below HB5.out.size (fun k hk h => by omega)))
          have q3 : w6.cell? ⟨bc, 0, none⟩ = some (.slice po5 0 pc5) := cell_of_heap hbx6 0
          have q4 := cell_of_heap hbx6 1
          have q5 := cell_of_heap hbx6 2
          simp at q4 q5
          clear hT6 hy6 hc6 hadd hin hbx6 q0 q1 q2
          go_wp2_with fail
          refine HAQ.out.mono ?_
          rintro e w7 ⟨rfl, hT7, hb7⟩
          have HT7 := hide (hT7.off (N' := fun k => k < w.heap.size) (fun b hb => .inl (.inr hb)))
          have HB7 := hide (HB6.out.trans hb7)
          clear hT7 hb7 q3 q4 q5
          go_wp2_with fail
          go_roundw
          case rel => exact ⟨k + 1, by omega, by go_num, HT7.out, HB7.out⟩
          case measure => simp [intOf]; omega
    · obtain rfl : k = xs.length := by omega
      rw [List.take_length] at HTW
      have HLC := hide (fun Wx (hW : Chg (fun _ => False) wo Wx) => (HTW.out.same hW).is.lenC)
      obtain ⟨ao1, cap1, l1, aq, cq, lq, h1, h2, e1, e2, -, -⟩ := HTW.out
      have hlq : lq.length = (gcs xs).length := by rw [← e2, cms_length]
      have g0 := h2.c0
      rw [hlq] at g0
      have hqn : (((gcs xs).length : Int) != ((gcs xs).length : Int)) = false := by simp
      have hgl : (gcs xs).length ≤ 30 := by rw [gcs_length]; exact hl
      clear h1 h2 e1 e2 hlq
      go_wp2_with fail
      refine reg_start (Chg (fun _ => False) wo) 8 8 (by rfl) (by kernel_rfl) (Chg.drew _ _) ?_
      intro hS0
      have hSc := hS0
      refine reg_take (i := 0) (v := ?g2v) rfl (by kernel_rfl) (by kernel_rfl) (by kernel_rfl) (by kernel_rfl) (fun _ _ _ h => h) (by rfl) ?g2y (by assumption) ?g2r
      case g2y => (intro W hS; first | (go_simp; done) | (go_simp; with_reducible rfl))
      simp only [Act.put, List.setIfInBounds_toArray, List.set_cons_zero, List.set_cons_succ]
      refine reg_take (i := 2) (v := ?g3v) rfl (by kernel_rfl) (by kernel_rfl) (by kernel_rfl) (by kernel_rfl) (fun _ _ _ h => h) (by rfl) ?g3y (by assumption) ?g3r
      case g3y => (intro W hS; first | (go_simp; done) | (go_simp; with_reducible rfl))
      simp only [Act.put, List.setIfInBounds_toArray, List.set_cons_zero, List.set_cons_succ]
      refine reg_take (i := 3) (v := ?g4v) rfl (by kernel_rfl) (by kernel_rfl) (by kernel_rfl) (by kernel_rfl) (fun _ _ _ h => h) (by rfl) ?g4y (by assumption) ?g4r
      case g4y => (intro W hS; first | (go_simp; done) | (go_simp; with_reducible rfl))
      simp only [Act.put, List.setIfInBounds_toArray, List.set_cons_zero, List.set_cons_succ]
      refine reg_take (i := 4) (v := ?g5v) rfl (by kernel_rfl) (by kernel_rfl) (by kernel_rfl) (by kernel_rfl) (fun _ _ _ h => h) (by rfl) ?g5y (by assumption) ?g5r
      case g5y => (intro W hS; first | (go_simp; done) | (go_simp; with_reducible rfl))
      simp only [Act.put, List.setIfInBounds_toArray, List.set_cons_zero, List.set_cons_succ]
      refine reg_take (i := 5) (v := ?g6v) rfl (by kernel_rfl) (by kernel_rfl) (by kernel_rfl) (by kernel_rfl) (fun _ _ _ h => h) (by rfl) ?g6y (by assumption) ?g6r
      case g6y => (intro W hS; have f0 := hS.cell g0 (fun h => h); first | (go_simp; done) | (go_simp; with_reducible rfl))
      simp only [Act.put, List.setIfInBounds_toArray, List.set_cons_zero, List.set_cons_succ]
      refine reg_take (i := 6) (v := ?g7v) rfl (by kernel_rfl) (by kernel_rfl) (by kernel_rfl) (by kernel_rfl) (fun _ _ _ h => h) (by rfl) ?g7y (by assumption) ?g7r
      case g7y => (intro W hS; first | (go_simp; done) | (go_simp; with_reducible rfl))
      simp only [Act.put, List.setIfInBounds_toArray, List.set_cons_zero, List.set_cons_succ]
      refine reg_one (i := 1) (by kernel_rfl) ?_
      refine op_call (i := 1) (#[.pointer (some ⟨p, 0, none⟩)]) rfl (by rfl) (enters_of Tryd.func20 (by kernel_rfl) rfl) (by first | (simp [Act.eval]; done) | rfl | (simp only [List.map_toArray, List.map_cons, List.map_nil, Act.eval]; rfl) | (simp [Act.eval]; trace_state; done)) ?_
      refine (HLC.out _ hSc).mono ?_
      rintro e W7 ⟨rfl, rfl⟩
      refine ⟨_, rfl, hSc, ?_⟩
      simp only [Act.put, List.setIfInBounds_toArray, List.set_cons_zero, List.set_cons_succ]
      refine reg_take (i := 7) (v := ?g8v) rfl (by kernel_rfl) (by kernel_rfl) (by kernel_rfl) (by kernel_rfl) (fun _ _ _ h => h) (by rfl) ?g8y (by assumption) ?g8r
      case g8y => (intro W hS; first | (go_simp; done) | (go_simp; with_reducible rfl))
      simp only [Act.put, List.setIfInBounds_toArray, List.set_cons_zero, List.set_cons_succ]
      refine wpAnyG_done (by kernel_rfl) ?_ _
      have HS6 := hide hSc
      clear hS0 hSc g0
      go_wp2_with fail
      go_ret2
      exact ⟨p, q, rfl, HTW.out.same HS6.out, HB.out.trans (HS6.out.below HB.out.size (fun _ _ h => h))⟩
end Go.Proofs.YtnnkbicaokckbaaDoor
