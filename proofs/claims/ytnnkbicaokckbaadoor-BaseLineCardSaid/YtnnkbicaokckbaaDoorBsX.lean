/- Two lines of commits that come of one line: what is ahead, what two have in common. Conditions: none. -/
import Derived.Test.YtnnkbicaokckbaaDoorBsW
import Derived.Test.YtnnkbicaokckbaaDoorBsP
namespace Go.Proofs.YtnnkbicaokckbaaDoor
open Go.RowKit Go.Shelf

theorem note_ne4 : ∀ i, i < 40 → ∀ j, j < 40 → i ≠ j → noteG i ≠ noteG j := by decide +kernel
theorem gcs_has4 (xs : List Int) (hl : xs.length ≤ 40) {k : Nat} (h : k < xs.length) : hasC (gcs (xs.take k)) (gcm k xs[k]) = false := by
  refine List.any_eq_false.2 fun c hc => ?_
  obtain ⟨j, hj, rfl⟩ := List.getElem_of_mem hc
  have hj2 : j < (xs.take k).length := by rw [← gcs_length]; exact hj
  rw [gcs_get _ hj2]
  rw [List.length_take] at hj2
  intro he
  have := (cmEq_iff _ _).1 he
  have hn : noteG j = noteG k := congrArg Cm.note this
  exact note_ne4 j (by omega) k (by omega) (by omega) hn
theorem gcs_add4 (xs : List Int) (hl : xs.length ≤ 40) {k : Nat} (h : k < xs.length) : addR (gcs (xs.take k)) 60 (gcm k xs[k]) = ((k : Int) + 1, 0) ∧ addL (gcs (xs.take k)) 60 (gcm k xs[k]) = gcs (xs.take (k + 1)) := by
  have hn : ¬ (60 : Int) ≤ ((gcs (xs.take k)).length : Int) := by rw [gcs_length, List.length_take]; omega
  have hk : ((gcs (xs.take k)).length : Int) = k := by rw [gcs_length, List.length_take]; omega
  constructor
  · rw [addR, gcm_may, gcs_bad xs h, gcs_has4 xs hl h, if_neg hn, hk]; rfl
  · rw [addL, gcm_may, gcs_bad xs h, gcs_has4 xs hl h, if_neg hn, gcs_take xs h]; rfl
theorem gcs_par (xs : List Int) {k : Nat} (hk : k < xs.length) : parN (gcs xs) ((k : Int) + 1) = gp1 k xs[k] ++ gp2 k xs[k] := by
  rw [parN_in (k := k) (by rw [gcs_length]; exact hk) rfl, gcs_get xs hk]
  rfl
theorem gcs_ok4 (xs : List Int) (hl : xs.length ≤ 40) : DagOk (gcs xs) := by
  have key : ∀ n : Int, parN (gcs xs) n = [] ∨ ∃ k : Nat, ∃ h : k < xs.length, n = (k : Int) + 1 ∧ parN (gcs xs) n = gp1 k xs[k] ++ gp2 k xs[k] := fun n => by
    by_cases hr : 1 ≤ n ∧ n ≤ ((gcs xs).length : Int)
    · have hk : n.toNat - 1 < xs.length := by rw [gcs_length] at hr; omega
      obtain ⟨k, rfl⟩ : ∃ k : Nat, n = (k : Int) + 1 := ⟨n.toNat - 1, by omega⟩
      have hk' : k < xs.length := by omega
      exact .inr ⟨k, hk', rfl, gcs_par xs hk'⟩
    · exact .inl (parN_out (by omega))
  refine ⟨fun n x hx => ?_, fun n => ?_, by rw [gcs_length]; omega⟩
  · rcases key n with e | ⟨k, hk, hn, e⟩
    · rw [e] at hx; cases hx
    · rw [e] at hx
      have := gpar_in hx
      omega
  · rcases key n with e | ⟨k, hk, hn, e⟩
    · rw [e]; simp
    · rw [e]; exact gpar_few _ _
set_option maxRecDepth 100000 in
set_option maxHeartbeats 8000000 in
theorem made12w (w : World) (hM : Mx w) (v : Value) (xs : List Int) (hv : Rd w v xs.length (xs.map (Value.int .i64))) (hvb : ∀ b, v.ownBlock = some b → xs ≠ [] → b < w.heap.size) (hl : xs.length ≤ 40) (hx : ∀ x ∈ xs, -9223372036854775808 ≤ x ∧ x ≤ 9223372036854775807) :
    Calls Tryd.prog 49 #[v] w fun e w' => ∃ p q, e = .returned (.tuple #[.pointer (some ⟨p, 0, none⟩), .pointer (some ⟨q, 0, none⟩)]) ∧ Two w.heap.size w' p q (gcs xs) (gcs xs) 60 60 (fun k => k < w.heap.size) ∧ Below w.heap.size w w' := by
  obtain ⟨ao, ca, rfl, -, -⟩ := hv.shape
  have HV := hide hv
  have HVB := hide hvb
  have HM := hide hM
  have HX := hide hx
  clear hv hvb hM hx
  go_enter Tryd.func49, Tryd.ntmps49
  go_wp2_with fail
  refine (repo_New _ 60 (by omega)).mono ?_
  rintro e w2 ⟨rfl, h2, hb2⟩
  go_wp2_with fail
  refine (ref10_New _ 60 (by omega)).mono ?_
  rintro e w3 ⟨rfl, h3, hb3⟩
  have hr : min (max (60 : Int) 0) 120 = 60 := by decide
  rw [hr] at h2 h3
  have HT := hide (Two.new h2 h3 hb2 hb3)
  have HB3 := hide (hb2.trans (hb3.mono hb2.size))
  obtain ⟨p, hp⟩ : ∃ p, p = w.heap.size := ⟨_, rfl⟩
  have HT : Hid (Two w.heap.size w3 p w2.heap.size [] [] 60 60 (fun k => k < w.heap.size)) := hide (by rw [hp]; exact HT.out)
  rw [← hp]
  clear h2 h3 hb2 hb3 hr hp
  generalize w2.heap.size = q at HT ⊢
  go_wp2_with fail
  go_loopw [6] (fun i wr => ∃ k : Nat, k ≤ xs.length ∧ i = .int .i64 k ∧ Hid (Two w.heap.size wr p q (gcs (xs.take k)) (gcs (xs.take k)) 60 60 (fun k => k < w.heap.size)) ∧ Hid (Below w.heap.size w wr)) (fun i _ => xs.length - (intOf i).toNat)
  case atStart => exact ⟨0, Nat.zero_le _, rfl, HT.out, HB3.out⟩
  case round =>
    obtain ⟨k, hk, rfl, HTW, HB⟩ := hrel
    obtain ⟨wo, rfl⟩ : ∃ wo : World, wo = wr := ⟨_, rfl⟩
    by_cases hkl : k < xs.length
    · have hne : xs ≠ [] := by rintro rfl; simp at hkl
      obtain ⟨a', c', e, -, hcs0⟩ := (HV.out.chg (Chg.of_below HB.out) (fun b hb' _ h => by have := HVB.out b hb' hne; omega)).shape
      obtain ⟨b, off, rfl, hcs⟩ := hcs0 (by omega)
      cases e
      have hx0 : wo.cell? ⟨b, off + k, none⟩ = some (.int .i64 xs[k]) := hcs k (.int .i64 xs[k]) (by rw [List.getElem?_map, List.getElem?_eq_getElem hkl]; rfl)
      have hxr := HX.out xs[k] (List.getElem_mem hkl)
      have HADD := hide (gcs_add4 xs hl hkl)
      have hbl := World.block_lt_of_cell? wo _ hx0
      obtain ⟨x, hxx⟩ : ∃ x, x = xs[k] := ⟨_, rfl⟩
      rw [← hxx] at hx0 hxr HADD
      clear hcs hcs0 hne hxx
      have hcv : Sem.run Tryd.prog (convert 86 9 (.slice (some ⟨wo.heap.size, 0, none⟩) 2 2)) (wo.alloc (.cells #[.int .u8 (65 + (k : Int) % 26), .int .u8 (97 + (k : Int) / 26)] 5)) = .ok (.string (noteG k)) (wo.alloc (.cells #[.int .u8 (65 + (k : Int) % 26), .int .u8 (97 + (k : Int) / 26)] 5)) := by
        have hnew := heap_alloc_new wo (.cells #[.int .u8 (65 + (k : Int) % 26), .int .u8 (97 + (k : Int) / 26)] 5)
        refine run_convert_bytes_back _ 86 9 5 ⟨wo.heap.size, 0, none⟩ 2 [UInt8.ofNat (65 + k % 26), UInt8.ofNat (97 + k / 26)] Tryd.underlying86 Tryd.underlying5 Tryd.underlying9 (fun j hj => ?_)
        rw [Addr.add_lit, Nat.zero_add, cell_of_heap hnew]
        simp only [List.length_cons, List.length_nil] at hj
        rcases (show j = 0 ∨ j = 1 by omega) with rfl | rfl
        · simp; omega
        · simp; omega
      obtain ⟨A, hA⟩ : ∃ A, A = gA x := ⟨_, rfl⟩
      obtain ⟨B, hB⟩ : ∃ B, B = gB x := ⟨_, rfl⟩
      have hX0 : 0 ≤ IntKind.u64.wrap x ∧ IntKind.u64.wrap x < 18446744073709551616 := by
        have h1 := Int.emod_nonneg x (b := 18446744073709551616) (by decide)
        have h2 := Int.emod_lt_of_pos x (b := 18446744073709551616) (by decide)
        have e : IntKind.u64.wrap x = x % 18446744073709551616 := by simp [IntKind.wrap, IntKind.signed, IntKind.bits]
        omega
      have hxa : wrap64 ((IntKind.u64.wrap x).tmod 100) = A := by
        rw [hA, gA, gX, Int.tmod_eq_emod_of_nonneg hX0.1]
        unfold wrap64
        omega
      have hd1 : (IntKind.u64.wrap x).tdiv 100 = IntKind.u64.wrap x / 100 := Int.tdiv_eq_ediv_of_nonneg hX0.1
      have hd2 : IntKind.u64.wrap (IntKind.u64.wrap x / 100) = IntKind.u64.wrap x / 100 := IntWalk.u64_in _ (by omega)
      have hxb : wrap64 ((IntKind.u64.wrap ((IntKind.u64.wrap x).tdiv 100)).tmod 100) = B := by
        rw [hd1, hd2, hB, gB, gX, Int.tmod_eq_emod_of_nonneg (by omega)]
        unfold wrap64
        omega
      have hAb : 0 ≤ A ∧ A < 100 := by rw [hA, gA, gX]; omega
      have hBb : 0 ≤ B ∧ B < 100 := by rw [hB, gB, gX]; omega
      have HG1 : Hid (gp1 k x = if 1 ≤ B ∧ B ≤ k then [B] else []) := hide (by rw [gp1, ← hB])
      have HG2 : Hid (gp2 k x = if (1 ≤ A ∧ A ≤ k) ∧ A ≠ B then [A] else []) := hide (by rw [gp2, ← hA, ← hB])
      clear hA hB hX0 hd1 hd2
      go_upto_region 10 with (fail)
      rw [hxa, hxb]
      clear hxa hxb hcv
      have HMK : Hid (MkSt wo (wo.heap.size + 1) (noteG k) [] ((wo.alloc (.cells #[.int .u8 (65 + (k : Int) % 26), .int .u8 (97 + (k : Int) / 26)] 5)).alloc (.cells #[.slice none 0 0, .slice none 0 0, .string (noteG k)] 33))) := hide (by
        have h1 := heap_alloc_new (wo.alloc (.cells #[.int .u8 (65 + (k : Int) % 26), .int .u8 (97 + (k : Int) / 26)] 5)) (.cells #[.slice none 0 0, .slice none 0 0, .string (noteG k)] 33)
        rw [World.size_alloc] at h1
        exact ⟨none, 0, h1, World.ownsRow_nil _ _ _ _, (Chg.alloc (fun _ => False) wo _).trans (Chg.alloc _ _ _) (fun _ _ h => h) (fun _ _ h => h)⟩)
      generalize (wo.alloc (.cells #[.int .u8 (65 + (k : Int) % 26), .int .u8 (97 + (k : Int) / 26)] 5)).alloc (.cells #[.slice none 0 0, .slice none 0 0, .string (noteG k)] 33) = w2 at HMK ⊢
      obtain ⟨bc, hbc⟩ : ∃ bc, bc = wo.heap.size + 1 := ⟨_, rfl⟩
      rw [← hbc] at HMK ⊢
      have HBC := hide hbc
      clear hbc hx0 hxr hbl
      by_cases hb1 : 1 ≤ B
      · have d1 : decide (B ≥ 1) = true := decide_eq_true hb1
        by_cases hb2 : B ≤ k
        · have d2 : decide (B ≤ (k : Int)) = true := decide_eq_true hb2
          obtain ⟨po, pc, hbx, hrow, hch⟩ := HMK.out
          have c0 := cell_of_heap hbx 0
          simp only [List.length_nil] at hbx hrow c0
          have HE1 := hide (show gp1 k x = [B] by rw [HG1.out, if_pos ⟨hb1, hb2⟩])
          go_upto_region 12 with (first
            | (at_builtin; (refine wpl_append rfl _ _ _ rfl int_slT wo.heap.size (hrow.alloc _) (Rd_lit w2 #[.int .i64 B] 3 1) rfl rfl rfl (by simp [Value.oneCell']) (by unfold maxLen; omega) (by omega) (by have := hch.size; simp; omega) ?_); intro ao1 cap1 w4 hown hg _ _; have hg' := (Chg.alloc (fun _ => False) w2 (.cells #[.int .i64 B] 3)).trans hg (S'' := fun k => (Value.slice po 0 pc).ownBlock = some k) (fun _ _ h => h.elim) (fun _ _ h => h); have hbx4 := hg'.heap hbx (fun h => ownsRow_ne hrow hbx (by decide) h); have q0 := cell_of_heap hbx4 0; have f0 := free_of_heap hbx4 0; have HG4 := hide hg'; have HOW4 := hide hown; have HBX4 := hide hbx4; clear hg hg' hown hbx4)
            )
          have HMK3 := hide (mk_step (ps := []) (y := B) hrow hch (by have := HBC.out; omega) HG4.out HOW4.out HBX4.out)
          clear hbx hrow hch c0 q0 f0 HG4 HOW4 HBX4 HMK
          have HMK3 : Hid (MkSt wo bc (noteG k) [B] (w4.setCell ⟨bc, 0, none⟩ (.slice ao1 1 cap1))) := HMK3
          generalize w4.setCell ⟨bc, 0, none⟩ (.slice ao1 1 cap1) = w3 at HMK3 ⊢
          clear d1 d2
          by_cases ha1 : 1 ≤ A
          · have d1 : decide (A ≥ 1) = true := decide_eq_true ha1
            by_cases ha2 : A ≤ k
            · have d2 : decide (A ≤ (k : Int)) = true := decide_eq_true ha2
              by_cases ha3 : A = B
              · have d3 : (A != B) = false := by simp [ha3]
                have HE2 := hide (show gp2 k x = [] by rw [HG2.out, if_neg (fun h => h.2 ha3)])
                go_upto_region 14 with (fail)
                have HPS : Hid (gp1 k x ++ gp2 k x = [B]) := hide (by rw [HE1.out, HE2.out]; rfl)
                have HMK5 := HMK3
                generalize w3 = w5 at HMK5 ⊢
                clear HMK3
                obtain ⟨po5, pc5, hbx5, hrow5, hch5⟩ := HMK5.out
                have hcm : gcm k x = ⟨[B], [], noteG k⟩ := by rw [gcm, HPS.out]
                have hN5 : ∀ b, ((wo.heap.size ≤ b ∧ b < w5.heap.size) ∨ b < w.heap.size) → b < w5.heap.size := fun b hb => by have h1 := HB.out.size; have h2 := hch5.size; omega
                have hT5 := (HTW.out.off (N' := fun b => (wo.heap.size ≤ b ∧ b < w5.heap.size) ∨ b < w.heap.size) (fun b hb => hb.elim (fun h => .inr h.1) (fun h => .inl h))).same hch5
                have hB5 := HB.out.trans (hch5.below HB.out.size (fun _ _ h => h))
                have hy5 : CmAt w5 ⟨⟨[B], [], noteG k⟩, .slice po5 ([B]).length pc5, .slice none 0 0⟩ := ⟨Rd.of_owns hrow5, Rd.nil _, fun b hb _ => (ownsRow_lt hrow5 b hb).2, fun b hb _ => by cases hb⟩
                have hyN5 : ∀ b, YB ⟨⟨[B], [], noteG k⟩, .slice po5 ([B]).length pc5, .slice none 0 0⟩ b → ((wo.heap.size ≤ b ∧ b < w5.heap.size) ∨ b < w.heap.size) := fun b hb => by
                  rcases hb with ⟨h, _⟩ | ⟨h, _⟩
                  · exact .inl (ownsRow_lt hrow5 b h)
                  · cases h
                have hfw5 : Few ⟨[B], [], noteG k⟩ := ⟨by show ([B]).length ≤ 1000000; simp, by show (0 : Nat) ≤ 1000000; omega⟩
                have hlen5 : (gcs (xs.take k)).length < 1000 := by rw [gcs_length, List.length_take]; omega
                have hadd := hT5.putR2 hN5 (HM.out.below hB5 HM.out.pos) _ hy5 hfw5 hyN5 hlen5
                have HY5 := hide hyN5
                have HFW := hide hfw5
                have HLE := hide hlen5
                have ha1 := HADD.out
                rw [hcm] at ha1
                simp only [ha1.1, ha1.2] at hadd
                have HA1 := hide ha1
                have HAD : Hid (Calls Tryd.prog 18 #[.pointer (some ⟨p, 0, none⟩), .agg #[.slice po5 1 pc5, .slice none 0 0, .string (noteG k)]] w5 _) := hide hadd
                have q0 : w5.cell? ⟨bc, 0, none⟩ = some (.slice po5 1 pc5) := cell_of_heap hbx5 0
                have q1 := cell_of_heap hbx5 1
                have q2 := cell_of_heap hbx5 2
                simp at q1 q2
                have HQB := hide (show wo.heap.size ≤ bc from by have := HBC.out; omega)
                have HBX5 := hide hbx5
                have HCH := hide hch5
                have HB5 := hide hB5
                clear hbx5 hrow5 hch5 hcm hN5 hT5 hB5 hy5 hyN5 hfw5 hlen5 hadd ha1
                go_wp2_with fail
                refine HAD.out.mono ?_
                rintro e w6 ⟨rfl, hT6, hy6, hc6⟩
                have hadd := hT6.putQ2 _ hy6 HFW.out (by simp) HY5.out HLE.out
                simp only [HA1.out.1, HA1.out.2] at hadd
                have HAQ : Hid (Calls Tryd.prog 27 #[.pointer (some ⟨q, 0, none⟩), .agg #[.slice po5 1 pc5, .slice none 0 0, .string (noteG k)]] w6 _) := hide hadd
                have hin := (Array.getElem?_eq_some_iff.1 HBX5.out).1
                have hbx6 := hc6.heap HBX5.out (fun h => h.2 (.inl ⟨HQB.out, hin⟩))
                have HB6 := hide (HB5.out.trans (hc6.below HB5.out.size (fun k hk h => by omega)))
                have q3 : w6.cell? ⟨bc, 0, none⟩ = some (.slice po5 1 pc5) := cell_of_heap hbx6 0
                have q4 := cell_of_heap hbx6 1
                have q5 := cell_of_heap hbx6 2
                simp at q4 q5
                clear hT6 hy6 hc6 hadd hin hbx6 q0 q1 q2
                go_wp2_with fail
                refine HAQ.out.mono ?_
                rintro e w7 ⟨rfl, hT7, hb7⟩
                have HT7 := hide (hT7.off (N' := fun k => k < w.heap.size) (fun b hb => .inl (.inr hb)))
                have HB7 := hide (HB6.out.trans hb7)
                clear hT7 hb7 q3 q4 q5
                go_wp2_with fail
                go_roundw
                case rel => exact ⟨k + 1, by omega, by go_num, HT7.out, HB7.out⟩
                case measure => simp [intOf]; omega
              · have d3 : (A != B) = true := by simp [ha3]
                obtain ⟨po, pc, hbx, hrow, hch⟩ := HMK3.out
                have hrow : w3.ownsRow wo.heap.size 3 1 (.slice po 1 pc) 1 (flat int_enc [B]) := hrow
                have hbx : w3.heap[bc]? = some (.cells #[.slice po 1 pc, .slice none 0 0, .string (noteG k)] 33 (0, 0)) := hbx
                have c0 : w3.cell? ⟨bc, 0, none⟩ = some (.slice po 1 pc) := cell_of_heap hbx 0
                have HE2 := hide (show gp2 k x = [A] by rw [HG2.out, if_pos ⟨⟨ha1, ha2⟩, ha3⟩])
                go_upto_region 14 with (first
                  | (at_builtin; (refine wpl_append rfl _ _ _ rfl int_slT wo.heap.size (hrow.alloc _) (Rd_lit w3 #[.int .i64 A] 3 1) rfl rfl rfl (by simp [Value.oneCell']) (by unfold maxLen; omega) (by omega) (by have := hch.size; simp; omega) ?_); intro ao1 cap1 w4 hown hg _ _; have hg' := (Chg.alloc (fun _ => False) w3 (.cells #[.int .i64 A] 3)).trans hg (S'' := fun k => (Value.slice po 1 pc).ownBlock = some k) (fun _ _ h => h.elim) (fun _ _ h => h); have hbx4 := hg'.heap hbx (fun h => ownsRow_ne hrow hbx (by decide) h); have q0 := cell_of_heap hbx4 0; have f0 := free_of_heap hbx4 0; have HG4 := hide hg'; have HOW4 := hide hown; have HBX4 := hide hbx4; clear hg hg' hown hbx4)
                  )
                have HMK5 : Hid (MkSt wo bc (noteG k) ([B] ++ [A]) (w4.setCell ⟨bc, 0, none⟩ (.slice ao1 (1 + 1) cap1))) := hide (mk_step (ps := [B]) (y := A) hrow hch (by have := HBC.out; omega) HG4.out HOW4.out HBX4.out)
                clear hbx hrow hch c0 q0 f0 HG4 HOW4 HBX4 HMK3
                generalize w4.setCell ⟨bc, 0, none⟩ (.slice ao1 (1 + 1) cap1) = w5 at HMK5 ⊢
                have HPS : Hid (gp1 k x ++ gp2 k x = [B] ++ [A]) := hide (by rw [HE1.out, HE2.out])
                obtain ⟨po5, pc5, hbx5, hrow5, hch5⟩ := HMK5.out
                have hcm : gcm k x = ⟨([B] ++ [A]), [], noteG k⟩ := by rw [gcm, HPS.out]
                have hN5 : ∀ b, ((wo.heap.size ≤ b ∧ b < w5.heap.size) ∨ b < w.heap.size) → b < w5.heap.size := fun b hb => by have h1 := HB.out.size; have h2 := hch5.size; omega
                have hT5 := (HTW.out.off (N' := fun b => (wo.heap.size ≤ b ∧ b < w5.heap.size) ∨ b < w.heap.size) (fun b hb => hb.elim (fun h => .inr h.1) (fun h => .inl h))).same hch5
                have hB5 := HB.out.trans (hch5.below HB.out.size (fun _ _ h => h))
                have hy5 : CmAt w5 ⟨⟨([B] ++ [A]), [], noteG k⟩, .slice po5 (([B] ++ [A])).length pc5, .slice none 0 0⟩ := ⟨Rd.of_owns hrow5, Rd.nil _, fun b hb _ => (ownsRow_lt hrow5 b hb).2, fun b hb _ => by cases hb⟩
                have hyN5 : ∀ b, YB ⟨⟨([B] ++ [A]), [], noteG k⟩, .slice po5 (([B] ++ [A])).length pc5, .slice none 0 0⟩ b → ((wo.heap.size ≤ b ∧ b < w5.heap.size) ∨ b < w.heap.size) := fun b hb => by
                  rcases hb with ⟨h, _⟩ | ⟨h, _⟩
                  · exact .inl (ownsRow_lt hrow5 b h)
                  · cases h
                have hfw5 : Few ⟨([B] ++ [A]), [], noteG k⟩ := ⟨by show (([B] ++ [A])).length ≤ 1000000; simp, by show (0 : Nat) ≤ 1000000; omega⟩
                have hlen5 : (gcs (xs.take k)).length < 1000 := by rw [gcs_length, List.length_take]; omega
                have hadd := hT5.putR2 hN5 (HM.out.below hB5 HM.out.pos) _ hy5 hfw5 hyN5 hlen5
                have HY5 := hide hyN5
                have HFW := hide hfw5
                have HLE := hide hlen5
                have ha1 := HADD.out
                rw [hcm] at ha1
                simp only [ha1.1, ha1.2] at hadd
                have HA1 := hide ha1
                have HAD : Hid (Calls Tryd.prog 18 #[.pointer (some ⟨p, 0, none⟩), .agg #[.slice po5 (1 + 1) pc5, .slice none 0 0, .string (noteG k)]] w5 _) := hide hadd
                have q0 : w5.cell? ⟨bc, 0, none⟩ = some (.slice po5 (1 + 1) pc5) := cell_of_heap hbx5 0
                have q1 := cell_of_heap hbx5 1
                have q2 := cell_of_heap hbx5 2
                simp at q1 q2
                have HQB := hide (show wo.heap.size ≤ bc from by have := HBC.out; omega)
                have HBX5 := hide hbx5
                have HCH := hide hch5
                have HB5 := hide hB5
                clear hbx5 hrow5 hch5 hcm hN5 hT5 hB5 hy5 hyN5 hfw5 hlen5 hadd ha1
                go_wp2_with fail
                refine HAD.out.mono ?_
                rintro e w6 ⟨rfl, hT6, hy6, hc6⟩
                have hadd := hT6.putQ2 _ hy6 HFW.out (by simp) HY5.out HLE.out
                simp only [HA1.out.1, HA1.out.2] at hadd
                have HAQ : Hid (Calls Tryd.prog 27 #[.pointer (some ⟨q, 0, none⟩), .agg #[.slice po5 (1 + 1) pc5, .slice none 0 0, .string (noteG k)]] w6 _) := hide hadd
                have hin := (Array.getElem?_eq_some_iff.1 HBX5.out).1
                have hbx6 := hc6.heap HBX5.out (fun h => h.2 (.inl ⟨HQB.out, hin⟩))
                have HB6 := hide (HB5.out.trans (hc6.below HB5.out.size (fun k hk h => by omega)))
                have q3 : w6.cell? ⟨bc, 0, none⟩ = some (.slice po5 (1 + 1) pc5) := cell_of_heap hbx6 0
                have q4 := cell_of_heap hbx6 1
                have q5 := cell_of_heap hbx6 2
                simp at q4 q5
                clear hT6 hy6 hc6 hadd hin hbx6 q0 q1 q2
                go_wp2_with fail
                refine HAQ.out.mono ?_
                rintro e w7 ⟨rfl, hT7, hb7⟩
                have HT7 := hide (hT7.off (N' := fun k => k < w.heap.size) (fun b hb => .inl (.inr hb)))
                have HB7 := hide (HB6.out.trans hb7)
                clear hT7 hb7 q3 q4 q5
                go_wp2_with fail
                go_roundw
                case rel => exact ⟨k + 1, by omega, by go_num, HT7.out, HB7.out⟩
                case measure => simp [intOf]; omega
            · have d2 : decide (A ≤ (k : Int)) = false := decide_eq_false ha2
              have HE2 := hide (show gp2 k x = [] by rw [HG2.out, if_neg (fun h => ha2 h.1.2)])
              go_upto_region 14 with (fail)
              have HPS : Hid (gp1 k x ++ gp2 k x = [B]) := hide (by rw [HE1.out, HE2.out]; rfl)
              have HMK5 := HMK3
              generalize w3 = w5 at HMK5 ⊢
              clear HMK3
              obtain ⟨po5, pc5, hbx5, hrow5, hch5⟩ := HMK5.out
              have hcm : gcm k x = ⟨[B], [], noteG k⟩ := by rw [gcm, HPS.out]
              have hN5 : ∀ b, ((wo.heap.size ≤ b ∧ b < w5.heap.size) ∨ b < w.heap.size) → b < w5.heap.size := fun b hb => by have h1 := HB.out.size; have h2 := hch5.size; omega
              have hT5 := (HTW.out.off (N' := fun b => (wo.heap.size ≤ b ∧ b < w5.heap.size) ∨ b < w.heap.size) (fun b hb => hb.elim (fun h => .inr h.1) (fun h => .inl h))).same hch5
              have hB5 := HB.out.trans (hch5.below HB.out.size (fun _ _ h => h))
              have hy5 : CmAt w5 ⟨⟨[B], [], noteG k⟩, .slice po5 ([B]).length pc5, .slice none 0 0⟩ := ⟨Rd.of_owns hrow5, Rd.nil _, fun b hb _ => (ownsRow_lt hrow5 b hb).2, fun b hb _ => by cases hb⟩
              have hyN5 : ∀ b, YB ⟨⟨[B], [], noteG k⟩, .slice po5 ([B]).length pc5, .slice none 0 0⟩ b → ((wo.heap.size ≤ b ∧ b < w5.heap.size) ∨ b < w.heap.size) := fun b hb => by
                rcases hb with ⟨h, _⟩ | ⟨h, _⟩
                · exact .inl (ownsRow_lt hrow5 b h)
                · cases h
              have hfw5 : Few ⟨[B], [], noteG k⟩ := ⟨by show ([B]).length ≤ 1000000; simp, by show (0 : Nat) ≤ 1000000; omega⟩
              have hlen5 : (gcs (xs.take k)).length < 1000 := by rw [gcs_length, List.length_take]; omega
              have hadd := hT5.putR2 hN5 (HM.out.below hB5 HM.out.pos) _ hy5 hfw5 hyN5 hlen5
              have HY5 := hide hyN5
              have HFW := hide hfw5
              have HLE := hide hlen5
              have ha1 := HADD.out
              rw [hcm] at ha1
              simp only [ha1.1, ha1.2] at hadd
              have HA1 := hide ha1
              have HAD : Hid (Calls Tryd.prog 18 #[.pointer (some ⟨p, 0, none⟩), .agg #[.slice po5 1 pc5, .slice none 0 0, .string (noteG k)]] w5 _) := hide hadd
              have q0 : w5.cell? ⟨bc, 0, none⟩ = some (.slice po5 1 pc5) := cell_of_heap hbx5 0
              have q1 := cell_of_heap hbx5 1
              have q2 := cell_of_heap hbx5 2
              simp at q1 q2
              have HQB := hide (show wo.heap.size ≤ bc from by have := HBC.out; omega)
              have HBX5 := hide hbx5
              have HCH := hide hch5
              have HB5 := hide hB5
              clear hbx5 hrow5 hch5 hcm hN5 hT5 hB5 hy5 hyN5 hfw5 hlen5 hadd ha1
              go_wp2_with fail
              refine HAD.out.mono ?_
              rintro e w6 ⟨rfl, hT6, hy6, hc6⟩
              have hadd := hT6.putQ2 _ hy6 HFW.out (by simp) HY5.out HLE.out
              simp only [HA1.out.1, HA1.out.2] at hadd
              have HAQ : Hid (Calls Tryd.prog 27 #[.pointer (some ⟨q, 0, none⟩), .agg #[.slice po5 1 pc5, .slice none 0 0, .string (noteG k)]] w6 _) := hide hadd
              have hin := (Array.getElem?_eq_some_iff.1 HBX5.out).1
              have hbx6 := hc6.heap HBX5.out (fun h => h.2 (.inl ⟨HQB.out, hin⟩))
              have HB6 := hide (HB5.out.trans (hc6.below HB5.out.size (fun k hk h => by omega)))
              have q3 : w6.cell? ⟨bc, 0, none⟩ = some (.slice po5 1 pc5) := cell_of_heap hbx6 0
              have q4 := cell_of_heap hbx6 1
              have q5 := cell_of_heap hbx6 2
              simp at q4 q5
              clear hT6 hy6 hc6 hadd hin hbx6 q0 q1 q2
              go_wp2_with fail
              refine HAQ.out.mono ?_
              rintro e w7 ⟨rfl, hT7, hb7⟩
              have HT7 := hide (hT7.off (N' := fun k => k < w.heap.size) (fun b hb => .inl (.inr hb)))
              have HB7 := hide (HB6.out.trans hb7)
              clear hT7 hb7 q3 q4 q5
              go_wp2_with fail
              go_roundw
              case rel => exact ⟨k + 1, by omega, by go_num, HT7.out, HB7.out⟩
              case measure => simp [intOf]; omega
          · have d1 : decide (A ≥ 1) = false := decide_eq_false ha1
            have HE2 := hide (show gp2 k x = [] by rw [HG2.out, if_neg (fun h => ha1 h.1.1)])
            go_upto_region 14 with (fail)
            have HPS : Hid (gp1 k x ++ gp2 k x = [B]) := hide (by rw [HE1.out, HE2.out]; rfl)
            have HMK5 := HMK3
            generalize w3 = w5 at HMK5 ⊢
            clear HMK3
            obtain ⟨po5, pc5, hbx5, hrow5, hch5⟩ := HMK5.out
            have hcm : gcm k x = ⟨[B], [], noteG k⟩ := by rw [gcm, HPS.out]
            have hN5 : ∀ b, ((wo.heap.size ≤ b ∧ b < w5.heap.size) ∨ b < w.heap.size) → b < w5.heap.size := fun b hb => by have h1 := HB.out.size; have h2 := hch5.size; omega
            have hT5 := (HTW.out.off (N' := fun b => (wo.heap.size ≤ b ∧ b < w5.heap.size) ∨ b < w.heap.size) (fun b hb => hb.elim (fun h => .inr h.1) (fun h => .inl h))).same hch5
            have hB5 := HB.out.trans (hch5.below HB.out.size (fun _ _ h => h))
            have hy5 : CmAt w5 ⟨⟨[B], [], noteG k⟩, .slice po5 ([B]).length pc5, .slice none 0 0⟩ := ⟨Rd.of_owns hrow5, Rd.nil _, fun b hb _ => (ownsRow_lt hrow5 b hb).2, fun b hb _ => by cases hb⟩
            have hyN5 : ∀ b, YB ⟨⟨[B], [], noteG k⟩, .slice po5 ([B]).length pc5, .slice none 0 0⟩ b → ((wo.heap.size ≤ b ∧ b < w5.heap.size) ∨ b < w.heap.size) := fun b hb => by
              rcases hb with ⟨h, _⟩ | ⟨h, _⟩
              · exact .inl (ownsRow_lt hrow5 b h)
              · cases h
            have hfw5 : Few ⟨[B], [], noteG k⟩ := ⟨by show ([B]).length ≤ 1000000; simp, by show (0 : Nat) ≤ 1000000; omega⟩
            have hlen5 : (gcs (xs.take k)).length < 1000 := by rw [gcs_length, List.length_take]; omega
            have hadd := hT5.putR2 hN5 (HM.out.below hB5 HM.out.pos) _ hy5 hfw5 hyN5 hlen5
            have HY5 := hide hyN5
            have HFW := hide hfw5
            have HLE := hide hlen5
            have ha1 := HADD.out
            rw [hcm] at ha1
            simp only [ha1.1, ha1.2] at hadd
            have HA1 := hide ha1
            have HAD : Hid (Calls Tryd.prog 18 #[.pointer (some ⟨p, 0, none⟩), .agg #[.slice po5 1 pc5, .slice none 0 0, .string (noteG k)]] w5 _) := hide hadd
            have q0 : w5.cell? ⟨bc, 0, none⟩ = some (.slice po5 1 pc5) := cell_of_heap hbx5 0
            have q1 := cell_of_heap hbx5 1
            have q2 := cell_of_heap hbx5 2
            simp at q1 q2
            have HQB := hide (show wo.heap.size ≤ bc from by have := HBC.out; omega)
            have HBX5 := hide hbx5
            have HCH := hide hch5
            have HB5 := hide hB5
            clear hbx5 hrow5 hch5 hcm hN5 hT5 hB5 hy5 hyN5 hfw5 hlen5 hadd ha1
            go_wp2_with fail
            refine HAD.out.mono ?_
            rintro e w6 ⟨rfl, hT6, hy6, hc6⟩
            have hadd := hT6.putQ2 _ hy6 HFW.out (by simp) HY5.out HLE.out
            simp only [HA1.out.1, HA1.out.2] at hadd
            have HAQ : Hid (Calls Tryd.prog 27 #[.pointer (some ⟨q, 0, none⟩), .agg #[.slice po5 1 pc5, .slice none 0 0, .string (noteG k)]] w6 _) := hide hadd
            have hin := (Array.getElem?_eq_some_iff.1 HBX5.out).1
            have hbx6 := hc6.heap HBX5.out (fun h => h.2 (.inl ⟨HQB.out, hin⟩))
            have HB6 := hide (HB5.out.trans (hc6.below HB5.out.size (fun k hk h => by omega)))
            have q3 : w6.cell? ⟨bc, 0, none⟩ = some (.slice po5 1 pc5) := cell_of_heap hbx6 0
            have q4 := cell_of_heap hbx6 1
            have q5 := cell_of_heap hbx6 2
            simp at q4 q5
            clear hT6 hy6 hc6 hadd hin hbx6 q0 q1 q2
            go_wp2_with fail
            refine HAQ.out.mono ?_
            rintro e w7 ⟨rfl, hT7, hb7⟩
            have HT7 := hide (hT7.off (N' := fun k => k < w.heap.size) (fun b hb => .inl (.inr hb)))
            have HB7 := hide (HB6.out.trans hb7)
            clear hT7 hb7 q3 q4 q5
            go_wp2_with fail
            go_roundw
            case rel => exact ⟨k + 1, by omega, by go_num, HT7.out, HB7.out⟩
            case measure => simp [intOf]; omega
        · have d2 : decide (B ≤ (k : Int)) = false := decide_eq_false hb2
          have HE1 := hide (show gp1 k x = [] by rw [HG1.out, if_neg (fun h => hb2 h.2)])
          go_upto_region 12 with (fail)
          clear d1 d2
          have HMK3 := HMK
          generalize w2 = w3 at HMK3 ⊢
          clear HMK
          by_cases ha1 : 1 ≤ A
          · have d1 : decide (A ≥ 1) = true := decide_eq_true ha1
            by_cases ha2 : A ≤ k
            · have d2 : decide (A ≤ (k : Int)) = true := decide_eq_true ha2
              by_cases ha3 : A = B
              · have d3 : (A != B) = false := by simp [ha3]
                have HE2 := hide (show gp2 k x = [] by rw [HG2.out, if_neg (fun h => h.2 ha3)])
                go_upto_region 14 with (fail)
                have HPS : Hid (gp1 k x ++ gp2 k x = []) := hide (by rw [HE1.out, HE2.out]; rfl)
                have HMK5 := HMK3
                generalize w3 = w5 at HMK5 ⊢
                clear HMK3
                obtain ⟨po5, pc5, hbx5, hrow5, hch5⟩ := HMK5.out
                have hcm : gcm k x = ⟨[], [], noteG k⟩ := by rw [gcm, HPS.out]
                have hN5 : ∀ b, ((wo.heap.size ≤ b ∧ b < w5.heap.size) ∨ b < w.heap.size) → b < w5.heap.size := fun b hb => by have h1 := HB.out.size; have h2 := hch5.size; omega
                have hT5 := (HTW.out.off (N' := fun b => (wo.heap.size ≤ b ∧ b < w5.heap.size) ∨ b < w.heap.size) (fun b hb => hb.elim (fun h => .inr h.1) (fun h => .inl h))).same hch5
                have hB5 := HB.out.trans (hch5.below HB.out.size (fun _ _ h => h))
                have hy5 : CmAt w5 ⟨⟨[], [], noteG k⟩, .slice po5 ([]).length pc5, .slice none 0 0⟩ := ⟨Rd.of_owns hrow5, Rd.nil _, fun b hb _ => (ownsRow_lt hrow5 b hb).2, fun b hb _ => by cases hb⟩
                have hyN5 : ∀ b, YB ⟨⟨[], [], noteG k⟩, .slice po5 ([]).length pc5, .slice none 0 0⟩ b → ((wo.heap.size ≤ b ∧ b < w5.heap.size) ∨ b < w.heap.size) := fun b hb => by
                  rcases hb with ⟨h, _⟩ | ⟨h, _⟩
                  · exact .inl (ownsRow_lt hrow5 b h)
                  · cases h
                have hfw5 : Few ⟨[], [], noteG k⟩ := ⟨by show ([]).length ≤ 1000000; simp, by show (0 : Nat) ≤ 1000000; omega⟩
                have hlen5 : (gcs (xs.take k)).length < 1000 := by rw [gcs_length, List.length_take]; omega
                have hadd := hT5.putR2 hN5 (HM.out.below hB5 HM.out.pos) _ hy5 hfw5 hyN5 hlen5
                have HY5 := hide hyN5
                have HFW := hide hfw5
                have HLE := hide hlen5
                have ha1 := HADD.out
                rw [hcm] at ha1
                simp only [ha1.1, ha1.2] at hadd
                have HA1 := hide ha1
                have HAD : Hid (Calls Tryd.prog 18 #[.pointer (some ⟨p, 0, none⟩), .agg #[.slice po5 0 pc5, .slice none 0 0, .string (noteG k)]] w5 _) := hide hadd
                have q0 : w5.cell? ⟨bc, 0, none⟩ = some (.slice po5 0 pc5) := cell_of_heap hbx5 0
                have q1 := cell_of_heap hbx5 1
                have q2 := cell_of_heap hbx5 2
                simp at q1 q2
                have HQB := hide (show wo.heap.size ≤ bc from by have := HBC.out; omega)
                have HBX5 := hide hbx5
                have HCH := hide hch5
                have HB5 := hide hB5
                clear hbx5 hrow5 hch5 hcm hN5 hT5 hB5 hy5 hyN5 hfw5 hlen5 hadd ha1
                go_wp2_with fail
                refine HAD.out.mono ?_
                rintro e w6 ⟨rfl, hT6, hy6, hc6⟩
                have hadd := hT6.putQ2 _ hy6 HFW.out (by simp) HY5.out HLE.out
                simp only [HA1.out.1, HA1.out.2] at hadd
                have HAQ : Hid (Calls Tryd.prog 27 #[.pointer (some ⟨q, 0, none⟩), .agg #[.slice po5 0 pc5, .slice none 0 0, .string (noteG k)]] w6 _) := hide hadd
                have hin := (Array.getElem?_eq_some_iff.1 HBX5.out).1
                have hbx6 := hc6.heap HBX5.out (fun h => h.2 (.inl ⟨HQB.out, hin⟩))
                have HB6 := hide (HB5.out.trans (hc6.below HB5.out.size (fun k hk h => by omega)))
                have q3 : w6.cell? ⟨bc, 0, none⟩ = some (.slice po5 0 pc5) := cell_of_heap hbx6 0
                have q4 := cell_of_heap hbx6 1
                have q5 := cell_of_heap hbx6 2
                simp at q4 q5
                clear hT6 hy6 hc6 hadd hin hbx6 q0 q1 q2
                go_wp2_with fail
                refine HAQ.out.mono ?_
                rintro e w7 ⟨rfl, hT7, hb7⟩
                have HT7 := hide (hT7.off (N' := fun k => k < w.heap.size) (fun b hb => .inl (.inr hb)))
                have HB7 := hide (HB6.out.trans hb7)
                clear hT7 hb7 q3 q4 q5
                go_wp2_with fail
                go_roundw
                case rel => exact ⟨k + 1, by omega, by go_num, HT7.out, HB7.out⟩
                case measure => simp [intOf]; omega
              · have d3 : (A != B) = true := by simp [ha3]
                obtain ⟨po, pc, hbx, hrow, hch⟩ := HMK3.out
                have hrow : w3.ownsRow wo.heap.size 3 1 (.slice po 0 pc) 0 (flat int_enc []) := hrow
                have hbx : w3.heap[bc]? = some (.cells #[.slice po 0 pc, .slice none 0 0, .string (noteG k)] 33 (0, 0)) := hbx
                have c0 : w3.cell? ⟨bc, 0, none⟩ = some (.slice po 0 pc) := cell_of_heap hbx 0
                have HE2 := hide (show gp2 k x = [A] by rw [HG2.out, if_pos ⟨⟨ha1, ha2⟩, ha3⟩])
                go_upto_region 14 with (first
                  | (at_builtin; (refine wpl_append rfl _ _ _ rfl int_slT wo.heap.size (hrow.alloc _) (Rd_lit w3 #[.int .i64 A] 3 1) rfl rfl rfl (by simp [Value.oneCell']) (by unfold maxLen; omega) (by omega) (by have := hch.size; simp; omega) ?_); intro ao1 cap1 w4 hown hg _ _; have hg' := (Chg.alloc (fun _ => False) w3 (.cells #[.int .i64 A] 3)).trans hg (S'' := fun k => (Value.slice po 0 pc).ownBlock = some k) (fun _ _ h => h.elim) (fun _ _ h => h); have hbx4 := hg'.heap hbx (fun h => ownsRow_ne hrow hbx (by decide) h); have q0 := cell_of_heap hbx4 0; have f0 := free_of_heap hbx4 0; have HG4 := hide hg'; have HOW4 := hide hown; have HBX4 := hide hbx4; clear hg hg' hown hbx4)
                  )
                have HMK5 : Hid (MkSt wo bc (noteG k) ([] ++ [A]) (w4.setCell ⟨bc, 0, none⟩ (.slice ao1 (0 + 1) cap1))) := hide (mk_step (ps := []) (y := A) hrow hch (by have := HBC.out; omega) HG4.out HOW4.out HBX4.out)
                clear hbx hrow hch c0 q0 f0 HG4 HOW4 HBX4 HMK3
                generalize w4.setCell ⟨bc, 0, none⟩ (.slice ao1 (0 + 1) cap1) = w5 at HMK5 ⊢
                have HPS : Hid (gp1 k x ++ gp2 k x = [] ++ [A]) := hide (by rw [HE1.out, HE2.out])
                obtain ⟨po5, pc5, hbx5, hrow5, hch5⟩ := HMK5.out
                have hcm : gcm k x = ⟨([] ++ [A]), [], noteG k⟩ := by rw [gcm, HPS.out]
                have hN5 : ∀ b, ((wo.heap.size ≤ b ∧ b < w5.heap.size) ∨ b < w.heap.size) → b < w5.heap.size := fun b hb => by have h1 := HB.out.size; have h2 := hch5.size; omega
                have hT5 := (HTW.out.off (N' := fun b => (wo.heap.size ≤ b ∧ b < w5.heap.size) ∨ b < w.heap.size) (fun b hb => hb.elim (fun h => .inr h.1) (fun h => .inl h))).same hch5
                have hB5 := HB.out.trans (hch5.below HB.out.size (fun _ _ h => h))
                have hy5 : CmAt w5 ⟨⟨([] ++ [A]), [], noteG k⟩, .slice po5 (([] ++ [A])).length pc5, .slice none 0 0⟩ := ⟨Rd.of_owns hrow5, Rd.nil _, fun b hb _ => (ownsRow_lt hrow5 b hb).2, fun b hb _ => by cases hb⟩
                have hyN5 : ∀ b, YB ⟨⟨([] ++ [A]), [], noteG k⟩, .slice po5 (([] ++ [A])).length pc5, .slice none 0 0⟩ b → ((wo.heap.size ≤ b ∧ b < w5.heap.size) ∨ b < w.heap.size) := fun b hb => by
                  rcases hb with ⟨h, _⟩ | ⟨h, _⟩
                  · exact .inl (ownsRow_lt hrow5 b h)
                  · cases h
                have hfw5 : Few ⟨([] ++ [A]), [], noteG k⟩ := ⟨by show (([] ++ [A])).length ≤ 1000000; simp, by show (0 : Nat) ≤ 1000000; omega⟩
                have hlen5 : (gcs (xs.take k)).length < 1000 := by rw [gcs_length, List.length_take]; omega
                have hadd := hT5.putR2 hN5 (HM.out.below hB5 HM.out.pos) _ hy5 hfw5 hyN5 hlen5
                have HY5 := hide hyN5
                have HFW := hide hfw5
                have HLE := hide hlen5
                have ha1 := HADD.out
                rw [hcm] at ha1
                simp only [ha1.1, ha1.2] at hadd
                have HA1 := hide ha1
                have HAD : Hid (Calls Tryd.prog 18 #[.pointer (some ⟨p, 0, none⟩), .agg #[.slice po5 (0 + 1) pc5, .slice none 0 0, .string (noteG k)]] w5 _) := hide hadd
                have q0 : w5.cell? ⟨bc, 0, none⟩ = some (.slice po5 (0 + 1) pc5) := cell_of_heap hbx5 0
                have q1 := cell_of_heap hbx5 1
                have q2 := cell_of_heap hbx5 2
                simp at q1 q2
                have HQB := hide (show wo.heap.size ≤ bc from by have := HBC.out; omega)
                have HBX5 := hide hbx5
                have HCH := hide hch5
                have HB5 := hide hB5
                clear hbx5 hrow5 hch5 hcm hN5 hT5 hB5 hy5 hyN5 hfw5 hlen5 hadd ha1
                go_wp2_with fail
                refine HAD.out.mono ?_
                rintro e w6 ⟨rfl, hT6, hy6, hc6⟩
                have hadd := hT6.putQ2 _ hy6 HFW.out (by simp) HY5.out HLE.out
                simp only [HA1.out.1, HA1.out.2] at hadd
                have HAQ : Hid (Calls Tryd.prog 27 #[.pointer (some ⟨q, 0, none⟩), .agg #[.slice po5 (0 + 1) pc5, .slice none 0 0, .string (noteG k)]] w6 _) := hide hadd
                have hin := (Array.getElem?_eq_some_iff.1 HBX5.out).1
                have hbx6 := hc6.heap HBX5.out (fun h => h.2 (.inl ⟨HQB.out, hin⟩))
                have HB6 := hide (HB5.out.trans (hc6.below HB5.out.size (fun k hk h => by omega)))
                have q3 : w6.cell? ⟨bc, 0, none⟩ = some (.slice po5 (0 + 1) pc5) := cell_of_heap hbx6 0
                have q4 := cell_of_heap hbx6 1
                have q5 := cell_of_heap hbx6 2
                simp at q4 q5
                clear hT6 hy6 hc6 hadd hin hbx6 q0 q1 q2
                go_wp2_with fail
                refine HAQ.out.mono ?_
                rintro e w7 ⟨rfl, hT7, hb7⟩
                have HT7 := hide (hT7.off (N' := fun k => k < w.heap.size) (fun b hb => .inl (.inr hb)))
                have HB7 := hide (HB6.out.trans hb7)
                clear hT7 hb7 q3 q4 q5
                go_wp2_with fail
                go_roundw
                case rel => exact ⟨k + 1, by omega, by go_num, HT7.out, HB7.out⟩
                case measure => simp [intOf]; omega
            · have d2 : decide (A ≤ (k : Int)) = false := decide_eq_false ha2
              have HE2 := hide (show gp2 k x = [] by rw [HG2.out, if_neg (fun h => ha2 h.1.2)])
              go_upto_region 14 with (fail)
              have HPS : Hid (gp1 k x ++ gp2 k x = []) := hide (by rw [HE1.out, HE2.out]; rfl)
              have HMK5 := HMK3
              generalize w3 = w5 at HMK5 ⊢
              clear HMK3
              obtain ⟨po5, pc5, hbx5, hrow5, hch5⟩ := HMK5.out
              have hcm : gcm k x = ⟨[], [], noteG k⟩ := by rw [gcm, HPS.out]
              have hN5 : ∀ b, ((wo.heap.size ≤ b ∧ b < w5.heap.size) ∨ b < w.heap.size) → b < w5.heap.size := fun b hb => by have h1 := HB.out.size; have h2 := hch5.size; omega
              have hT5 := (HTW.out.off (N' := fun b => (wo.heap.size ≤ b ∧ b < w5.heap.size) ∨ b < w.heap.size) (fun b hb => hb.elim (fun h => .inr h.1) (fun h => .inl h))).same hch5
              have hB5 := HB.out.trans (hch5.below HB.out.size (fun _ _ h => h))
              have hy5 : CmAt w5 ⟨⟨[], [], noteG k⟩, .slice po5 ([]).length pc5, .slice none 0 0⟩ := ⟨Rd.of_owns hrow5, Rd.nil _, fun b hb _ => (ownsRow_lt hrow5 b hb).2, fun b hb _ => by cases hb⟩
              have hyN5 : ∀ b, YB ⟨⟨[], [], noteG k⟩, .slice po5 ([]).length pc5, .slice none 0 0⟩ b → ((wo.heap.size ≤ b ∧ b < w5.heap.size) ∨ b < w.heap.size) := fun b hb => by
                rcases hb with ⟨h, _⟩ | ⟨h, _⟩
                · exact .inl (ownsRow_lt hrow5 b h)
                · cases h
              have hfw5 : Few ⟨[], [], noteG k⟩ := ⟨by show ([]).length ≤ 1000000; simp, by show (0 : Nat) ≤ 1000000; omega⟩
              have hlen5 : (gcs (xs.take k)).length < 1000 := by rw [gcs_length, List.length_take]; omega
              have hadd := hT5.putR2 hN5 (HM.out.below hB5 HM.out.pos) _ hy5 hfw5 hyN5 hlen5
              have HY5 := hide hyN5
              have HFW := hide hfw5
              have HLE := hide hlen5
              have ha1 := HADD.out
              rw [hcm] at ha1
              simp only [ha1.1, ha1.2] at hadd
              have HA1 := hide ha1
              have HAD : Hid (Calls Tryd.prog 18 #[.pointer (some ⟨p, 0, none⟩), .agg #[.slice po5 0 pc5, .slice none 0 0, .string (noteG k)]] w5 _) := hide hadd
              have q0 : w5.cell? ⟨bc, 0, none⟩ = some (.slice po5 0 pc5) := cell_of_heap hbx5 0
              have q1 := cell_of_heap hbx5 1
              have q2 := cell_of_heap hbx5 2
              simp at q1 q2
              have HQB := hide (show wo.heap.size ≤ bc from by have := HBC.out; omega)
              have HBX5 := hide hbx5
              have HCH := hide hch5
              have HB5 := hide hB5
              clear hbx5 hrow5 hch5 hcm hN5 hT5 hB5 hy5 hyN5 hfw5 hlen5 hadd ha1
              go_wp2_with fail
              refine HAD.out.mono ?_
              rintro e w6 ⟨rfl, hT6, hy6, hc6⟩
              have hadd := hT6.putQ2 _ hy6 HFW.out (by simp) HY5.out HLE.out
              simp only [HA1.out.1, HA1.out.2] at hadd
              have HAQ : Hid (Calls Tryd.prog 27 #[.pointer (some ⟨q, 0, none⟩), .agg #[.slice po5 0 pc5, .slice none 0 0, .string (noteG k)]] w6 _) := hide hadd
              have hin := (Array.getElem?_eq_some_iff.1 HBX5.out).1
              have hbx6 := hc6.heap HBX5.out (fun h => h.2 (.inl ⟨HQB.out, hin⟩))
              have HB6 := hide (HB5.out.trans (hc6.below HB5.out.size (fun k hk h => by omega)))
              have q3 : w6.cell? ⟨bc, 0, none⟩ = some (.slice po5 0 pc5) := cell_of_heap hbx6 0
              have q4 := cell_of_heap hbx6 1
              have q5 := cell_of_heap hbx6 2
              simp at q4 q5
              clear hT6 hy6 hc6 hadd hin hbx6 q0 q1 q2
              go_wp2_with fail
              refine HAQ.out.mono ?_
              rintro e w7 ⟨rfl, hT7, hb7⟩
              have HT7 := hide (hT7.off (N' := fun k => k < w.heap.size) (fun b hb => .inl (.inr hb)))
              have HB7 := hide (HB6.out.trans hb7)
              clear hT7 hb7 q3 q4 q5
              go_wp2_with fail
              go_roundw
              case rel => exact ⟨k + 1, by omega, by go_num, HT7.out, HB7.out⟩
              case measure => simp [intOf]; omega
          · have d1 : decide (A ≥ 1) = false := decide_eq_false ha1
            have HE2 := hide (show gp2 k x = [] by rw [HG2.out, if_neg (fun h => ha1 h.1.1)])
            go_upto_region 14 with (fail)
            have HPS : Hid (gp1 k x ++ gp2 k x = []) := hide (by rw [HE1.out, HE2.out]; rfl)
            have HMK5 := HMK3
            generalize w3 = w5 at HMK5 ⊢
            clear HMK3
            obtain ⟨po5, pc5, hbx5, hrow5, hch5⟩ := HMK5.out
            have hcm : gcm k x = ⟨[], [], noteG k⟩ := by rw [gcm, HPS.out]
            have hN5 : ∀ b, ((wo.heap.size ≤ b ∧ b < w5.heap.size) ∨ b < w.heap.size) → b < w5.heap.size := fun b hb => by have h1 := HB.out.size; have h2 := hch5.size; omega
            have hT5 := (HTW.out.off (N' := fun b => (wo.heap.size ≤ b ∧ b < w5.heap.size) ∨ b < w.heap.size) (fun b hb => hb.elim (fun h => .inr h.1) (fun h => .inl h))).same hch5
            have hB5 := HB.out.trans (hch5.below HB.out.size (fun _ _ h => h))
            have hy5 : CmAt w5 ⟨⟨[], [], noteG k⟩, .slice po5 ([]).length pc5, .slice none 0 0⟩ := ⟨Rd.of_owns hrow5, Rd.nil _, fun b hb _ => (ownsRow_lt hrow5 b hb).2, fun b hb _ => by cases hb⟩
            have hyN5 : ∀ b, YB ⟨⟨[], [], noteG k⟩, .slice po5 ([]).length pc5, .slice none 0 0⟩ b → ((wo.heap.size ≤ b ∧ b < w5.heap.size) ∨ b < w.heap.size) := fun b hb => by
              rcases hb with ⟨h, _⟩ | ⟨h, _⟩
              · exact .inl (ownsRow_lt hrow5 b h)
              · cases h
            have hfw5 : Few ⟨[], [], noteG k⟩ := ⟨by show ([]).length ≤ 1000000; simp, by show (0 : Nat) ≤ 1000000; omega⟩
            have hlen5 : (gcs (xs.take k)).length < 1000 := by rw [gcs_length, List.length_take]; omega
            have hadd := hT5.putR2 hN5 (HM.out.below hB5 HM.out.pos) _ hy5 hfw5 hyN5 hlen5
            have HY5 := hide hyN5
            have HFW := hide hfw5
            have HLE := hide hlen5
            have ha1 := HADD.out
            rw [hcm] at ha1
            simp only [ha1.1, ha1.2] at hadd
            have HA1 := hide ha1
            have HAD : Hid (Calls Tryd.prog 18 #[.pointer (some ⟨p, 0, none⟩), .agg #[.slice po5 0 pc5, .slice none 0 0, .string (noteG k)]] w5 _) := hide hadd
            have q0 : w5.cell? ⟨bc, 0, none⟩ = some (.slice po5 0 pc5) := cell_of_heap hbx5 0
            have q1 := cell_of_heap hbx5 1
            have q2 := cell_of_heap hbx5 2
            simp at q1 q2
            have HQB := hide (show wo.heap.size ≤ bc from by have := HBC.out; omega)
            have HBX5 := hide hbx5
            have HCH := hide hch5
            have HB5 := hide hB5
            clear hbx5 hrow5 hch5 hcm hN5 hT5 hB5 hy5 hyN5 hfw5 hlen5 hadd ha1
            go_wp2_with fail
            refine HAD.out.mono ?_
            rintro e w6 ⟨rfl, hT6, hy6, hc6⟩
            have hadd := hT6.putQ2 _ hy6 HFW.out (by simp) HY5.out HLE.out
            simp only [HA1.out.1, HA1.out.2] at hadd
            have HAQ : Hid (Calls Tryd.prog 27 #[.pointer (some ⟨q, 0, none⟩), .agg #[.slice po5 0 pc5, .slice none 0 0, .string (noteG k)]] w6 _) := hide hadd
            have hin := (Array.getElem?_eq_some_iff.1 HBX5.out).1
            have hbx6 := hc6.heap HBX5.out (fun h => h.2 (.inl ⟨HQB.out, hin⟩))
            have HB6 := hide (HB5.out.trans (hc6.below HB5.out.size (fun k hk h => by omega)))
            have q3 : w6.cell? ⟨bc, 0, none⟩ = some (.slice po5 0 pc5) := cell_of_heap hbx6 0
            have q4 := cell_of_heap hbx6 1
            have q5 := cell_of_heap hbx6 2
            simp at q4 q5
            clear hT6 hy6 hc6 hadd hin hbx6 q0 q1 q2
            go_wp2_with fail
            refine HAQ.out.mono ?_
            rintro e w7 ⟨rfl, hT7, hb7⟩
            have HT7 := hide (hT7.off (N' := fun k => k < w.heap.size) (fun b hb => .inl (.inr hb)))
            have HB7 := hide (HB6.out.trans hb7)
            clear hT7 hb7 q3 q4 q5
            go_wp2_with fail
            go_roundw
            case rel => exact ⟨k + 1, by omega, by go_num, HT7.out, HB7.out⟩
            case measure => simp [intOf]; omega
      · have d1 : decide (B ≥ 1) = false := decide_eq_false hb1
        have HE1 := hide (show gp1 k x = [] by rw [HG1.out, if_neg (fun h => hb1 h.1)])
        go_upto_region 12 with (fail)
        clear d1
        have HMK3 := HMK
        generalize w2 = w3 at HMK3 ⊢
        clear HMK
        by_cases ha1 : 1 ≤ A
        · have d1 : decide (A ≥ 1) = true := decide_eq_true ha1
          by_cases ha2 : A ≤ k
          · have d2 : decide (A ≤ (k : Int)) = true := decide_eq_true ha2
            by_cases ha3 : A = B
            · have d3 : (A != B) = false := by simp [ha3]
              have HE2 := hide (show gp2 k x = [] by rw [HG2.out, if_neg (fun h => h.2 ha3)])
              go_upto_region 14 with (fail)
              have HPS : Hid (gp1 k x ++ gp2 k x = []) := hide (by rw [HE1.out, HE2.out]; rfl)
              have HMK5 := HMK3
              generalize w3 = w5 at HMK5 ⊢
              clear HMK3
              obtain ⟨po5, pc5, hbx5, hrow5, hch5⟩ := HMK5.out
              have hcm : gcm k x = ⟨[], [], noteG k⟩ := by rw [gcm, HPS.out]
              have hN5 : ∀ b, ((wo.heap.size ≤ b ∧ b < w5.heap.size) ∨ b < w.heap.size) → b < w5.heap.size := fun b hb => by have h1 := HB.out.size; have h2 := hch5.size; omega
              have hT5 := (HTW.out.off (N' := fun b => (wo.heap.size ≤ b ∧ b < w5.heap.size) ∨ b < w.heap.size) (fun b hb => hb.elim (fun h => .inr h.1) (fun h => .inl h))).same hch5
              have hB5 := HB.out.trans (hch5.below HB.out.size (fun _ _ h => h))
              have hy5 : CmAt w5 ⟨⟨[], [], noteG k⟩, .slice po5 ([]).length pc5, .slice none 0 0⟩ := ⟨Rd.of_owns hrow5, Rd.nil _, fun b hb _ => (ownsRow_lt hrow5 b hb).2, fun b hb _ => by cases hb⟩
              have hyN5 : ∀ b, YB ⟨⟨[], [], noteG k⟩, .slice po5 ([]).length pc5, .slice none 0 0⟩ b → ((wo.heap.size ≤ b ∧ b < w5.heap.size) ∨ b < w.heap.size) := fun b hb => by
                rcases hb with ⟨h, _⟩ | ⟨h, _⟩
                · exact .inl (ownsRow_lt hrow5 b h)
                · cases h
              have hfw5 : Few ⟨[], [], noteG k⟩ := ⟨by show ([]).length ≤ 1000000; simp, by show (0 : Nat) ≤ 1000000; omega⟩
              have hlen5 : (gcs (xs.take k)).length < 1000 := by rw [gcs_length, List.length_take]; omega
              have hadd := hT5.putR2 hN5 (HM.out.below hB5 HM.out.pos) _ hy5 hfw5 hyN5 hlen5
              have HY5 := hide hyN5
              have HFW := hide hfw5
              have HLE := hide hlen5
              have ha1 := HADD.out
              rw [hcm] at ha1
              simp only [ha1.1, ha1.2] at hadd
              have HA1 := hide ha1
              have HAD : Hid (Calls Tryd.prog 18 #[.pointer (some ⟨p, 0, none⟩), .agg #[.slice po5 0 pc5, .slice none 0 0, .string (noteG k)]] w5 _) := hide hadd
              have q0 : w5.cell? ⟨bc, 0, none⟩ = some (.slice po5 0 pc5) := cell_of_heap hbx5 0
              have q1 := cell_of_heap hbx5 1
              have q2 := cell_of_heap hbx5 2
              simp at q1 q2
              have HQB := hide (show wo.heap.size ≤ bc from by have := HBC.out; omega)
              have HBX5 := hide hbx5
              have HCH := hide hch5
              have HB5 := hide hB5
              clear hbx5 hrow5 hch5 hcm hN5 hT5 hB5 hy5 hyN5 hfw5 hlen5 hadd ha1
              go_wp2_with fail
              refine HAD.out.mono ?_
              rintro e w6 ⟨rfl, hT6, hy6, hc6⟩
              have hadd := hT6.putQ2 _ hy6 HFW.out (by simp) HY5.out HLE.out
              simp only [HA1.out.1, HA1.out.2] at hadd
              have HAQ : Hid (Calls Tryd.prog 27 #[.pointer (some ⟨q, 0, none⟩), .agg #[.slice po5 0 pc5, .slice none 0 0, .string (noteG k)]] w6 _) := hide hadd
              have hin := (Array.getElem?_eq_some_iff.1 HBX5.out).1
              have hbx6 := hc6.heap HBX5.out (fun h => h.2 (.inl ⟨HQB.out, hin⟩))
              have HB6 := hide (HB5.out.trans (hc6.below HB5.out.size (fun k hk h => by omega)))
              have q3 : w6.cell? ⟨bc, 0, none⟩ = some (.slice po5 0 pc5) := cell_of_heap hbx6 0
              have q4 := cell_of_heap hbx6 1
              have q5 := cell_of_heap hbx6 2
              simp at q4 q5
              clear hT6 hy6 hc6 hadd hin hbx6 q0 q1 q2
              go_wp2_with fail
              refine HAQ.out.mono ?_
              rintro e w7 ⟨rfl, hT7, hb7⟩
              have HT7 := hide (hT7.off (N' := fun k => k < w.heap.size) (fun b hb => .inl (.inr hb)))
              have HB7 := hide (HB6.out.trans hb7)
              clear hT7 hb7 q3 q4 q5
              go_wp2_with fail
              go_roundw
              case rel => exact ⟨k + 1, by omega, by go_num, HT7.out, HB7.out⟩
              case measure => simp [intOf]; omega
            · have d3 : (A != B) = true := by simp [ha3]
              obtain ⟨po, pc, hbx, hrow, hch⟩ := HMK3.out
              have hrow : w3.ownsRow wo.heap.size 3 1 (.slice po 0 pc) 0 (flat int_enc []) := hrow
              have hbx : w3.heap[bc]? = some (.cells #[.slice po 0 pc, .slice none 0 0, .string (noteG k)] 33 (0, 0)) := hbx
              have c0 : w3.cell? ⟨bc, 0, none⟩ = some (.slice po 0 pc) := cell_of_heap hbx 0
              have HE2 := hide (show gp2 k x = [A] by rw [HG2.out, if_pos ⟨⟨ha1, ha2⟩, ha3⟩])
              go_upto_region 14 with (first
                | (at_builtin; (refine wpl_append rfl _ _ _ rfl int_slT wo.heap.size (hrow.alloc _) (Rd_lit w3 #[.int .i64 A] 3 1) rfl rfl rfl (by simp [Value.oneCell']) (by unfold maxLen; omega) (by omega) (by have := hch.size; simp; omega) ?_); intro ao1 cap1 w4 hown hg _ _; have hg' := (Chg.alloc (fun _ => False) w3 (.cells #[.int .i64 A] 3)).trans hg (S'' := fun k => (Value.slice po 0 pc).ownBlock = some k) (fun _ _ h => h.elim) (fun _ _ h => h); have hbx4 := hg'.heap hbx (fun h => ownsRow_ne hrow hbx (by decide) h); have q0 := cell_of_heap hbx4 0; have f0 := free_of_heap hbx4 0; have HG4 := hide hg'; have HOW4 := hide hown; have HBX4 := hide hbx4; clear hg hg' hown hbx4)
                )
              have HMK5 : Hid (MkSt wo bc (noteG k) ([] ++ [A]) (w4.setCell ⟨bc, 0, none⟩ (.slice ao1 (0 + 1) cap1))) := hide (mk_step (ps := []) (y := A) hrow hch (by have := HBC.out; omega) HG4.out HOW4.out HBX4.out)
              clear hbx hrow hch c0 q0 f0 HG4 HOW4 HBX4 HMK3
              generalize w4.setCell ⟨bc, 0, none⟩ (.slice ao1 (0 + 1) cap1) = w5 at HMK5 ⊢
              have HPS : Hid (gp1 k x ++ gp2 k x = [] ++ [A]) := hide (by rw [HE1.out, HE2.out])
              obtain ⟨po5, pc5, hbx5, hrow5, hch5⟩ := HMK5.out
              have hcm : gcm k x = ⟨([] ++ [A]), [], noteG k⟩ := by rw [gcm, HPS.out]
              have hN5 : ∀ b, ((wo.heap.size ≤ b ∧ b < w5.heap.size) ∨ b < w.heap.size) → b < w5.heap.size := fun b hb => by have h1 := HB.out.size; have h2 := hch5.size; omega
              have hT5 := (HTW.out.off (N' := fun b => (wo.heap.size ≤ b ∧ b < w5.heap.size) ∨ b < w.heap.size) (fun b hb => hb.elim (fun h => .inr h.1) (fun h => .inl h))).same hch5
              have hB5 := HB.out.trans (hch5.below HB.out.size (fun _ _ h => h))
              have hy5 : CmAt w5 ⟨⟨([] ++ [A]), [], noteG k⟩, .slice po5 (([] ++ [A])).length pc5, .slice none 0 0⟩ := ⟨Rd.of_owns hrow5, Rd.nil _, fun b hb _ => (ownsRow_lt hrow5 b hb).2, fun b hb _ => by cases hb⟩
              have hyN5 : ∀ b, YB ⟨⟨([] ++ [A]), [], noteG k⟩, .slice po5 (([] ++ [A])).length pc5, .slice none 0 0⟩ b → ((wo.heap.size ≤ b ∧ b < w5.heap.size) ∨ b < w.heap.size) := fun b hb => by
                rcases hb with ⟨h, _⟩ | ⟨h, _⟩
                · exact .inl (ownsRow_lt hrow5 b h)
                · cases h
              have hfw5 : Few ⟨([] ++ [A]), [], noteG k⟩ := ⟨by show (([] ++ [A])).length ≤ 1000000; simp, by show (0 : Nat) ≤ 1000000; omega⟩
              have hlen5 : (gcs (xs.take k)).length < 1000 := by rw [gcs_length, List.length_take]; omega
              have hadd := hT5.putR2 hN5 (HM.out.below hB5 HM.out.pos) _ hy5 hfw5 hyN5 hlen5
              have HY5 := hide hyN5
              have HFW := hide hfw5
              have HLE := hide hlen5
              have ha1 := HADD.out
              rw [hcm] at ha1
              simp only [ha1.1, ha1.2] at hadd
              have HA1 := hide ha1
              have HAD : Hid (Calls Tryd.prog 18 #[.pointer (some ⟨p, 0, none⟩), .agg #[.slice po5 (0 + 1) pc5, .slice none 0 0, .string (noteG k)]] w5 _) := hide hadd
              have q0 : w5.cell? ⟨bc, 0, none⟩ = some (.slice po5 (0 + 1) pc5) := cell_of_heap hbx5 0
              have q1 := cell_of_heap hbx5 1
              have q2 := cell_of_heap hbx5 2
              simp at q1 q2
              have HQB := hide (show wo.heap.size ≤ bc from by have := HBC.out; omega)
              have HBX5 := hide hbx5
              have HCH := hide hch5
              have HB5 := hide hB5
              clear hbx5 hrow5 hch5 hcm hN5 hT5 hB5 hy5 hyN5 hfw5 hlen5 hadd ha1
              go_wp2_with fail
              refine HAD.out.mono ?_
              rintro e w6 ⟨rfl, hT6, hy6, hc6⟩
              have hadd := hT6.putQ2 _ hy6 HFW.out (by simp) HY5.out HLE.out
              simp only [HA1.out.1, HA1.out.2] at hadd
              have HAQ : Hid (Calls Tryd.prog 27 #[.pointer (some ⟨q, 0, none⟩), .agg #[.slice po5 (0 + 1) pc5, .slice none 0 0, .string (noteG k)]] w6 _) := hide hadd
              have hin := (Array.getElem?_eq_some_iff.1 HBX5.out).1
              have hbx6 := hc6.heap HBX5.out (fun h => h.2 (.inl ⟨HQB.out, hin⟩))
              have HB6 := hide (HB5.out.trans (hc6.below HB5.out.size (fun k hk h => by omega)))
              have q3 : w6.cell? ⟨bc, 0, none⟩ = some (.slice po5 (0 + 1) pc5) := cell_of_heap hbx6 0
              have q4 := cell_of_heap hbx6 1
              have q5 := cell_of_heap hbx6 2
              simp at q4 q5
              clear hT6 hy6 hc6 hadd hin hbx6 q0 q1 q2
              go_wp2_with fail
              refine HAQ.out.mono ?_
              rintro e w7 ⟨rfl, hT7, hb7⟩
              have HT7 := hide (hT7.off (N' := fun k => k < w.heap.size) (fun b hb => .inl (.inr hb)))
              have HB7 := hide (HB6.out.trans hb7)
              clear hT7 hb7 q3 q4 q5
              go_wp2_with fail
              go_roundw
              case rel => exact ⟨k + 1, by omega, by go_num, HT7.out, HB7.out⟩
              case measure => simp [intOf]; omega
          · have d2 : decide (A ≤ (k : Int)) = false := decide_eq_false ha2
            have HE2 := hide (show gp2 k x = [] by rw [HG2.out, if_neg (fun h => ha2 h.1.2)])
            go_upto_region 14 with (fail)
            have HPS : Hid (gp1 k x ++ gp2 k x = []) := hide (by rw [HE1.out, HE2.out]; rfl)
            have HMK5 := HMK3
            generalize w3 = w5 at HMK5 ⊢
            clear HMK3
            obtain ⟨po5, pc5, hbx5, hrow5, hch5⟩ := HMK5.out
            have hcm : gcm k x = ⟨[], [], noteG k⟩ := by rw [gcm, HPS.out]
            have hN5 : ∀ b, ((wo.heap.size ≤ b ∧ b < w5.heap.size) ∨ b < w.heap.size) → b < w5.heap.size := fun b hb => by have h1 := HB.out.size; have h2 := hch5.size; omega
            have hT5 := (HTW.out.off (N' := fun b => (wo.heap.size ≤ b ∧ b < w5.heap.size) ∨ b < w.heap.size) (fun b hb => hb.elim (fun h => .inr h.1) (fun h => .inl h))).same hch5
            have hB5 := HB.out.trans (hch5.below HB.out.size (fun _ _ h => h))
            have hy5 : CmAt w5 ⟨⟨[], [], noteG k⟩, .slice po5 ([]).length pc5, .slice none 0 0⟩ := ⟨Rd.of_owns hrow5, Rd.nil _, fun b hb _ => (ownsRow_lt hrow5 b hb).2, fun b hb _ => by cases hb⟩
            have hyN5 : ∀ b, YB ⟨⟨[], [], noteG k⟩, .slice po5 ([]).length pc5, .slice none 0 0⟩ b → ((wo.heap.size ≤ b ∧ b < w5.heap.size) ∨ b < w.heap.size) := fun b hb => by
              rcases hb with ⟨h, _⟩ | ⟨h, _⟩
              · exact .inl (ownsRow_lt hrow5 b h)
              · cases h
            have hfw5 : Few ⟨[], [], noteG k⟩ := ⟨by show ([]).length ≤ 1000000; simp, by show (0 : Nat) ≤ 1000000; omega⟩
            have hlen5 : (gcs (xs.take k)).length < 1000 := by rw [gcs_length, List.length_take]; omega
            have hadd := hT5.putR2 hN5 (HM.out.below hB5 HM.out.pos) _ hy5 hfw5 hyN5 hlen5
            have HY5 := hide hyN5
            have HFW := hide hfw5
            have HLE := hide hlen5
            have ha1 := HADD.out
            rw [hcm] at ha1
            simp only [ha1.1, ha1.2] at hadd
            have HA1 := hide ha1
            have HAD : Hid (Calls Tryd.prog 18 #[.pointer (some ⟨p, 0, none⟩), .agg #[.slice po5 0 pc5, .slice none 0 0, .string (noteG k)]] w5 _) := hide hadd
            have q0 : w5.cell? ⟨bc, 0, none⟩ = some (.slice po5 0 pc5) := cell_of_heap hbx5 0
            have q1 := cell_of_heap hbx5 1
            have q2 := cell_of_heap hbx5 2
            simp at q1 q2
            have HQB := hide (show wo.heap.size ≤ bc from by have := HBC.out; omega)
            have HBX5 := hide hbx5
            have HCH := hide hch5
            have HB5 := hide hB5
            clear hbx5 hrow5 hch5 hcm hN5 hT5 hB5 hy5 hyN5 hfw5 hlen5 hadd ha1
            go_wp2_with fail
            refine HAD.out.mono ?_
            rintro e w6 ⟨rfl, hT6, hy6, hc6⟩
            have hadd := hT6.putQ2 _ hy6 HFW.out (by simp) HY5.out HLE.out
            simp only [HA1.out.1, HA1.out.2] at hadd
            have HAQ : Hid (Calls Tryd.prog 27 #[.pointer (some ⟨q, 0, none⟩), .agg #[.slice po5 0 pc5, .slice none 0 0, .string (noteG k)]] w6 _) := hide hadd
            have hin := (Array.getElem?_eq_some_iff.1 HBX5.out).1
            have hbx6 := hc6.heap HBX5.out (fun h => h.2 (.inl ⟨HQB.out, hin⟩))
            have HB6 := hide (HB5.out.trans (hc6.below HB5.out.size (fun k hk h => by omega)))
            have q3 : w6.cell? ⟨bc, 0, none⟩ = some (.slice po5 0 pc5) := cell_of_heap hbx6 0
            have q4 := cell_of_heap hbx6 1
            have q5 := cell_of_heap hbx6 2
            simp at q4 q5
            clear hT6 hy6 hc6 hadd hin hbx6 q0 q1 q2
            go_wp2_with fail
            refine HAQ.out.mono ?_
            rintro e w7 ⟨rfl, hT7, hb7⟩
            have HT7 := hide (hT7.off (N' := fun k => k < w.heap.size) (fun b hb => .inl (.inr hb)))
            have HB7 := hide (HB6.out.trans hb7)
            clear hT7 hb7 q3 q4 q5
            go_wp2_with fail
            go_roundw
            case rel => exact ⟨k + 1, by omega, by go_num, HT7.out, HB7.out⟩
            case measure => simp [intOf]; omega
        · have d1 : decide (A ≥ 1) = false := decide_eq_false ha1
          have HE2 := hide (show gp2 k x = [] by rw [HG2.out, if_neg (fun h => ha1 h.1.1)])
          go_upto_region 14 with (fail)
          have HPS : Hid (gp1 k x ++ gp2 k x = []) := hide (by rw [HE1.out, HE2.out]; rfl)
          have HMK5 := HMK3
          generalize w3 = w5 at HMK5 ⊢
          clear HMK3
          obtain ⟨po5, pc5, hbx5, hrow5, hch5⟩ := HMK5.out
          have hcm : gcm k x = ⟨[], [], noteG k⟩ := by rw [gcm, HPS.out]
          have hN5 : ∀ b, ((wo.heap.size ≤ b ∧ b < w5.heap.size) ∨ b < w.heap.size) → b < w5.heap.size := fun b hb => by have h1 := HB.out.size; have h2 := hch5.size; omega
          have hT5 := (HTW.out.off (N' := fun b => (wo.heap.size ≤ b ∧ b < w5.heap.size) ∨ b < w.heap.size) (fun b hb => hb.elim (fun h => .inr h.1) (fun h => .inl h))).same hch5
          have hB5 := HB.out.trans (hch5.below HB.out.size (fun _ _ h => h))
          have hy5 : CmAt w5 ⟨⟨[], [], noteG k⟩, .slice po5 ([]).length pc5, .slice none 0 0⟩ := ⟨Rd.of_owns hrow5, Rd.nil _, fun b hb _ => (ownsRow_lt hrow5 b hb).2, fun b hb _ => by cases hb⟩
          have hyN5 : ∀ b, YB ⟨⟨[], [], noteG k⟩, .slice po5 ([]).length pc5, .slice none 0 0⟩ b → ((wo.heap.size ≤ b ∧ b < w5.heap.size) ∨ b < w.heap.size) := fun b hb => by
            rcases hb with ⟨h, _⟩ | ⟨h, _⟩
            · exact .inl (ownsRow_lt hrow5 b h)
            · cases h
          have hfw5 : Few ⟨[], [], noteG k⟩ := ⟨by show ([]).length ≤ 1000000; simp, by show (0 : Nat) ≤ 1000000; omega⟩
          have hlen5 : (gcs (xs.take k)).length < 1000 := by rw [gcs_length, List.length_take]; omega
          have hadd := hT5.putR2 hN5 (HM.out.below hB5 HM.out.pos) _ hy5 hfw5 hyN5 hlen5
          have HY5 := hide hyN5
          have HFW := hide hfw5
          have HLE := hide hlen5
          have ha1 := HADD.out
          rw [hcm] at ha1
          simp only [ha1.1, ha1.2] at hadd
          have HA1 := hide ha1
          have HAD : Hid (Calls Tryd.prog 18 #[.pointer (some ⟨p, 0, none⟩), .agg #[.slice po5 0 pc5, .slice none 0 0, .string (noteG k)]] w5 _) := hide hadd
          have q0 : w5.cell? ⟨bc, 0, none⟩ = some (.slice po5 0 pc5) := cell_of_heap hbx5 0
          have q1 := cell_of_heap hbx5 1
          have q2 := cell_of_heap hbx5 2
          simp at q1 q2
          have HQB := hide (show wo.heap.size ≤ bc from by have := HBC.out; omega)
          have HBX5 := hide hbx5
          have HCH := hide hch5
          have HB5 := hide hB5
          clear hbx5 hrow5 hch5 hcm hN5 hT5 hB5 hy5 hyN5 hfw5 hlen5 hadd ha1
          go_wp2_with fail
          refine HAD.out.mono ?_
          rintro e w6 ⟨rfl, hT6, hy6, hc6⟩
          have hadd := hT6.putQ2 _ hy6 HFW.out (by simp) HY5.out HLE.out
          simp only [HA1.out.1, HA1.out.2] at hadd
          have HAQ : Hid (Calls Tryd.prog 27 #[.pointer (some ⟨q, 0, none⟩), .agg #[.slice po5 0 pc5, .slice none 0 0, .string (noteG k)]] w6 _) := hide hadd
          have hin := (Array.getElem?_eq_some_iff.1 HBX5.out).1
          have hbx6 := hc6.heap HBX5.out (fun h => h.2 (.inl ⟨HQB.out, hin⟩))
          have HB6 := hide (HB5.out.trans (hc6.below HB5.out.size (fun k hk h => by omega)))
          have q3 : w6.cell? ⟨bc, 0, none⟩ = some (.slice po5 0 pc5) := cell_of_heap hbx6 0
          have q4 := cell_of_heap hbx6 1
          have q5 := cell_of_heap hbx6 2
          simp at q4 q5
          clear hT6 hy6 hc6 hadd hin hbx6 q0 q1 q2
          go_wp2_with fail
          refine HAQ.out.mono ?_
          rintro e w7 ⟨rfl, hT7, hb7⟩
          have HT7 := hide (hT7.off (N' := fun k => k < w.heap.size) (fun b hb => .inl (.inr hb)))
          have HB7 := hide (HB6.out.trans hb7)
          clear hT7 hb7 q3 q4 q5
          go_wp2_with fail
          go_roundw
          case rel => exact ⟨k + 1, by omega, by go_num, HT7.out, HB7.out⟩
          case measure => simp [intOf]; omega
    · obtain rfl : k = xs.length := by omega
      rw [List.take_length] at HTW
      have HLC := hide (fun Wx (hW : Chg (fun _ => False) wo Wx) => (HTW.out.same hW).is.lenC)
      obtain ⟨ao1, cap1, l1, aq, cq, lq, h1, h2, e1, e2, -, -⟩ := HTW.out
      have hlq : lq.length = (gcs xs).length := by rw [← e2, cms_length]
      have g0 := h2.c0
      rw [hlq] at g0
      have hqn : (((gcs xs).length : Int) != ((gcs xs).length : Int)) = false := by simp
      have hgl : (gcs xs).length ≤ 40 := by rw [gcs_length]; exact hl
      clear h1 h2 e1 e2 hlq
      go_wp2_with fail
      refine reg_start (Chg (fun _ => False) wo) 8 8 (by rfl) (by kernel_rfl) (Chg.drew _ _) ?_
      intro hS0
      have hSc := hS0
      refine reg_take (i := 0) (v := ?g2v) rfl (by kernel_rfl) (by kernel_rfl) (by kernel_rfl) (by kernel_rfl) (fun _ _ _ h => h) (by rfl) ?g2y (by assumption) ?g2r
      case g2y => (intro W hS; first | (go_simp; done) | (go_simp; with_reducible rfl))
      simp only [Act.put, List.setIfInBounds_toArray, List.set_cons_zero, List.set_cons_succ]
      refine reg_take (i := 2) (v := ?g3v) rfl (by kernel_rfl) (by kernel_rfl) (by kernel_rfl) (by kernel_rfl) (fun _ _ _ h => h) (by rfl) ?g3y (by assumption) ?g3r
      case g3y => (intro W hS; first | (go_simp; done) | (go_simp; with_reducible rfl))
      simp only [Act.put, List.setIfInBounds_toArray, List.set_cons_zero, List.set_cons_succ]
      refine reg_take (i := 3) (v := ?g4v) rfl (by kernel_rfl) (by kernel_rfl) (by kernel_rfl) (by kernel_rfl) (fun _ _ _ h => h) (by rfl) ?g4y (by assumption) ?g4r
      case g4y => (intro W hS; first | (go_simp; done) | (go_simp; with_reducible rfl))
      simp only [Act.put, List.setIfInBounds_toArray, List.set_cons_zero, List.set_cons_succ]
      refine reg_take (i := 4) (v := ?g5v) rfl (by kernel_rfl) (by kernel_rfl) (by kernel_rfl) (by kernel_rfl) (fun _ _ _ h => h) (by rfl) ?g5y (by assumption) ?g5r
      case g5y => (intro W hS; first | (go_simp; done) | (go_simp; with_reducible rfl))
      simp only [Act.put, List.setIfInBounds_toArray, List.set_cons_zero, List.set_cons_succ]
      refine reg_take (i := 5) (v := ?g6v) rfl (by kernel_rfl) (by kernel_rfl) (by kernel_rfl) (by kernel_rfl) (fun _ _ _ h => h) (by rfl) ?g6y (by assumption) ?g6r
      case g6y => (intro W hS; have f0 := hS.cell g0 (fun h => h); first | (go_simp; done) | (go_simp; with_reducible rfl))
      simp only [Act.put, List.setIfInBounds_toArray, List.set_cons_zero, List.set_cons_succ]
      refine reg_take (i := 6) (v := ?g7v) rfl (by kernel_rfl) (by kernel_rfl) (by kernel_rfl) (by kernel_rfl) (fun _ _ _ h => h) (by rfl) ?g7y (by assumption) ?g7r
      case g7y => (intro W hS; first | (go_simp; done) | (go_simp; with_reducible rfl))
      simp only [Act.put, List.setIfInBounds_toArray, List.set_cons_zero, List.set_cons_succ]
      refine reg_one (i := 1) (by kernel_rfl) ?_
      refine op_call (i := 1) (#[.pointer (some ⟨p, 0, none⟩)]) rfl (by rfl) (enters_of Tryd.func20 (by kernel_rfl) rfl) (by first | (simp [Act.eval]; done) | rfl | (simp only [List.map_toArray, List.map_cons, List.map_nil, Act.eval]; rfl) | (simp [Act.eval]; trace_state; done)) ?_
      refine (HLC.out _ hSc).mono ?_
      rintro e W7 ⟨rfl, rfl⟩
      refine ⟨_, rfl, hSc, ?_⟩
      simp only [Act.put, List.setIfInBounds_toArray, List.set_cons_zero, List.set_cons_succ]
      refine reg_take (i := 7) (v := ?g8v) rfl (by kernel_rfl) (by kernel_rfl) (by kernel_rfl) (by kernel_rfl) (fun _ _ _ h => h) (by rfl) ?g8y (by assumption) ?g8r
      case g8y => (intro W hS; first | (go_simp; done) | (go_simp; with_reducible rfl))
      simp only [Act.put, List.setIfInBounds_toArray, List.set_cons_zero, List.set_cons_succ]
      refine wpAnyG_done (by kernel_rfl) ?_ _
      have HS6 := hide hSc
      clear hS0 hSc g0
      go_wp2_with fail
      go_ret2
      exact ⟨p, q, rfl, HTW.out.same HS6.out, HB.out.trans (HS6.out.below HB.out.size (fun _ _ h => h))⟩
/-- The numbers of the two lines. -/
def lnX (T L R : Nat) : List Int := (List.range T).map (fun i : Nat => (i : Int)) ++ (List.range L).map (fun i : Nat => (T : Int) + i) ++ (List.range R).map (fun i : Nat => if i = 0 then (T : Int) else (T : Int) + L + i)
theorem lnX_len (T L R : Nat) : (lnX T L R).length = T + L + R := by simp [lnX]; omega
theorem lnX_get? (T L R : Nat) {k : Nat} (hk : k < T + L + R) : (lnX T L R)[k]? = some (if k = T + L then (T : Int) else (k : Int)) := by
  unfold lnX
  by_cases h1 : k < T + L
  · rw [List.getElem?_append_left (by simp; omega), if_neg (by omega)]
    by_cases h2 : k < T
    · rw [List.getElem?_append_left (by simpa using h2), List.getElem?_map, List.getElem?_range h2]; rfl
    · rw [List.getElem?_append_right (by simp; omega), List.getElem?_map]
      simp only [List.length_map, List.length_range]
      rw [List.getElem?_range (by omega)]
      simp only [Option.map_some, Option.some.injEq]
      omega
  · rw [List.getElem?_append_right (by simp; omega), List.getElem?_map]
    simp only [List.length_append, List.length_map, List.length_range]
    rw [List.getElem?_range (by omega)]
    simp only [Option.map_some, Option.some.injEq]
    by_cases h2 : k = T + L
    · rw [if_pos h2, if_pos (by omega)]
    · rw [if_neg h2, if_neg (by omega)]; omega
theorem lnX_get (T L R : Nat) {k : Nat} (hk : k < (lnX T L R).length) : (lnX T L R)[k] = if k = T + L then (T : Int) else (k : Int) := by
  have h := lnX_get? T L R (k := k) (by rw [← lnX_len]; exact hk)
  rw [List.getElem?_eq_getElem hk] at h
  exact Option.some.inj h
theorem gp_small {i : Nat} {x : Int} (hx : 0 ≤ x ∧ x < 100) : gp1 i x ++ gp2 i x = if 1 ≤ x ∧ x ≤ (i : Int) then [x] else [] := by
  have e : gX x = x := IntWalk.u64_in _ (by omega)
  have eA : gA x = x := by unfold gA; rw [e]; omega
  have eB : gB x = 0 := by unfold gB; rw [e]; omega
  unfold gp1 gp2
  rw [eA, eB, if_neg (by omega), List.nil_append]
  by_cases h : 1 ≤ x ∧ x ≤ (i : Int)
  · rw [if_pos ⟨h, by omega⟩, if_pos h]
  · rw [if_neg (fun h2 => h h2.1), if_neg h]
theorem ln_par {T L R : Nat} (hT : 1 ≤ T) (hb : T + L + R ≤ 40) {n : Int} (hn : 1 ≤ n ∧ n ≤ ((T + L + R : Nat) : Int)) : parN (gcs (lnX T L R)) n = if n = 1 then [] else if n = ((T + L : Nat) : Int) + 1 then [(T : Int)] else [n - 1] := by
  obtain ⟨k, rfl⟩ : ∃ k : Nat, n = (k : Int) + 1 := ⟨n.toNat - 1, by omega⟩
  have hk : k < (lnX T L R).length := by rw [lnX_len]; omega
  rw [gcs_par _ hk, lnX_get T L R hk]
  by_cases h1 : k = T + L
  · rw [if_pos h1, gp_small (by omega), if_pos (by omega), if_neg (by omega), if_pos (by omega)]
  · rw [if_neg h1, gp_small (by omega)]
    by_cases h2 : k = 0
    · rw [if_neg (by omega), if_pos (by omega)]
    · rw [if_pos (by omega), if_neg (by omega), if_neg (by omega)]
      congr 1; omega
/-- What is ahead of one on the lines. -/
theorem ln_ahead {T L R : Nat} (hT : 1 ≤ T) (hb : T + L + R ≤ 40) : ∀ (m : Nat) (n : Int), n.toNat ≤ m → 1 ≤ n → n ≤ ((T + L + R : Nat) : Int) → ∀ x : Int, x ∈ aheadN (gcs (lnX T L R)) n ↔ 1 ≤ x ∧ x ≤ n ∧ (n ≤ ((T + L : Nat) : Int) ∨ x > ((T + L : Nat) : Int) ∨ x ≤ (T : Int))
  | 0, n, h, h1, _, _ => by omega
  | m + 1, n, h, h1, h2, x => by
    have hd := gcs_ok4 (lnX T L R) (by rw [lnX_len]; exact hb)
    rw [ahead_step hd (by rw [gcs_length, lnX_len]; omega), ln_par hT hb (by omega)]
    by_cases e1 : n = 1
    · rw [if_pos e1]
      simp only [List.not_mem_nil, false_and, exists_false, or_false]
      omega
    · rw [if_neg e1]
      by_cases e2 : n = ((T + L : Nat) : Int) + 1
      · rw [if_pos e2]
        simp only [List.mem_singleton, exists_eq_left]
        rw [ln_ahead hT hb m (T : Int) (by omega) (by omega) (by omega) x]
        omega
      · rw [if_neg e2]
        simp only [List.mem_singleton, exists_eq_left]
        rw [ln_ahead hT hb m (n - 1) (by omega) (by omega) (by omega) x]
        omega
/-- n, n - 1, .. : d of them. -/
def dnL (n : Int) (d : Nat) : List Int := (List.range d).map (fun i : Nat => n - (i : Int))
theorem dnL_mem (n : Int) (d : Nat) (x : Int) : x ∈ dnL n d ↔ n - d < x ∧ x ≤ n := by
  unfold dnL
  rw [List.mem_map]
  constructor
  · rintro ⟨i, hi, rfl⟩
    rw [List.mem_range] at hi; omega
  · rintro ⟨h1, h2⟩
    exact ⟨(n - x).toNat, by rw [List.mem_range]; omega, by omega⟩
theorem dnL_falls (n : Int) (d : Nat) : Falls (dnL n d) := by
  unfold dnL Falls
  rw [List.pairwise_map]
  exact List.Pairwise.imp (fun h => by omega) (List.pairwise_lt_range (n := d))
theorem ln_len {T L R : Nat} (hT : 1 ≤ T) (hb : T + L + R ≤ 40) {n : Int} (h1 : 1 ≤ n) (h2 : n ≤ ((T + L + R : Nat) : Int)) : ((aheadN (gcs (lnX T L R)) n).length : Int) = if n > ((T + L : Nat) : Int) then n - L else n := by
  have hm := ln_ahead (R := R) hT hb n.toNat n (Nat.le_refl _) h1 h2
  by_cases hn : n > ((T + L : Nat) : Int)
  · have e : aheadN (gcs (lnX T L R)) n = dnL n (n.toNat - (T + L)) ++ dnL T T := by
      refine falls_eq (ahead_falls _ _) ?_ (fun x => ?_)
      · refine List.pairwise_append.2 ⟨dnL_falls _ _, dnL_falls _ _, fun a ha b hb => ?_⟩
        have h3 := (dnL_mem _ _ _).1 ha
        have h4 := (dnL_mem _ _ _).1 hb
        omega
      · rw [hm, List.mem_append, dnL_mem, dnL_mem]
        omega
    rw [e, if_pos hn]
    simp [dnL]; omega
  · have e : aheadN (gcs (lnX T L R)) n = dnL n n.toNat := by
      refine falls_eq (ahead_falls _ _) (dnL_falls _ _) (fun x => ?_)
      rw [hm, dnL_mem]
      omega
    rw [e, if_neg hn]
    simp [dnL]; omega
/-- Where what two have in common is what is ahead of c, c is the best. -/
theorem common_as {cs : List Cm} (hd : DagOk cs) {a b c : Int} (hc : 1 ≤ c ∧ c ≤ (cs.length : Int)) (h : ∀ x, x ∈ aheadN cs a ∧ x ∈ aheadN cs b ↔ x ∈ aheadN cs c) : bestN cs a b = [c] ∧ (commonN cs a b).length = (aheadN cs c).length := by
  have e : commonN cs a b = commonN cs c c := rises_eq (common_rises _ _ _) (common_rises _ _ _) (fun x => by rw [common_mem, common_mem, h]; exact ⟨fun h => ⟨h, h⟩, And.left⟩)
  constructor
  · unfold bestN
    rw [e]
    exact best_one hd (isN_self hd hc)
  · rw [e]
    unfold commonN restL
    rw [List.length_reverse, List.filter_eq_self.2 (fun x hx => by rw [List.contains_iff_mem]; exact hx)]
/-- The number that the statement wants. -/
def wantX (T L : Nat) (a b : Int) : Int := if min a b > (T : Int) ∧ max a b > ((T + L : Nat) : Int) ∧ min a b ≤ ((T + L : Nat) : Int) then T else min a b
theorem ln_want {T L R : Nat} (hT : 1 ≤ T) (hb : T + L + R ≤ 40) {a b : Int} (ha : 1 ≤ a ∧ a ≤ ((T + L + R : Nat) : Int)) (hb2 : 1 ≤ b ∧ b ≤ ((T + L + R : Nat) : Int)) :
    bestN (gcs (lnX T L R)) a b = [wantX T L a b] ∧ ((commonN (gcs (lnX T L R)) a b).length : Int) = if wantX T L a b > ((T + L : Nat) : Int) then wantX T L a b - L else wantX T L a b := by
  have hd := gcs_ok4 (lnX T L R) (by rw [lnX_len]; exact hb)
  have hw : 1 ≤ wantX T L a b ∧ wantX T L a b ≤ ((T + L + R : Nat) : Int) := by unfold wantX; split <;> omega
  have hA := ln_ahead (R := R) hT hb a.toNat a (Nat.le_refl _) ha.1 ha.2
  have hB := ln_ahead (R := R) hT hb b.toNat b (Nat.le_refl _) hb2.1 hb2.2
  have hC := ln_ahead (R := R) hT hb (wantX T L a b).toNat _ (Nat.le_refl _) hw.1 hw.2
  obtain ⟨h1, h2⟩ := common_as hd (a := a) (b := b) (c := wantX T L a b) (by rw [gcs_length, lnX_len]; exact hw) (fun x => by
    rw [hA, hB, hC]
    unfold wantX at hw ⊢
    split <;> omega)
  exact ⟨h1, by rw [h2]; exact ln_len hT hb hw.1 hw.2⟩
end Go.Proofs.YtnnkbicaokckbaaDoor
