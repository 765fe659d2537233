/- code.List: a list of texts, of lists of texts. Conditions: the slices read as said. -/
import Derived.Test.YthhnpafadinheaaCode
namespace Go.Proofs.Ythhnpafadinheaa
open Go.RowKit Go.Shelf
attribute [local go_sem] Oper.semAt_some

set_option maxHeartbeats 4000000 in
theorem lay_ok (W : World) (v : Value) (c : List UInt8) (x : ByteArray) (hr : Rd W v c.length (u8s c)) (hm : c.length + (8 + x.size) ≤ 140737488351232) :
    Calls Try.prog 37 #[v, .string x] W fun e W' => ∃ ao cap, e = .returned (.slice ao (c ++ (num8 x.size ++ sb x)).length cap) ∧ W'.ownsRow W.heap.size 5 1 (.slice ao (c ++ (num8 x.size ++ sb x)).length cap) (c ++ (num8 x.size ++ sb x)).length (u8s (c ++ (num8 x.size ++ sb x))) ∧ Below W.heap.size W W' := by
  obtain ⟨av, cv, rfl, -, -⟩ := hr.shape
  have HR := hide hr
  obtain ⟨zs, hzs⟩ : ∃ zs, zs = c ++ (num8 x.size ++ sb x) := ⟨_, rfl⟩
  rw [← hzs]
  have hz' : zs = c ++ txts [x] := by rw [hzs]; simp [txts]
  have HZ := hide hz'
  clear hr hzs hz'
  go_enter Try.func37, Try.ntmps37
  go_wp2_with fail
  have h4 := Rd_lit W #[.string x] 9 1
  refine (code_Text _ _ _ c [x] zs HZ.out (HR.out.chg (Chg.alloc (fun _ => False) W _) (fun _ _ _ h => h)) h4 x.size (fun t ht => by cases List.mem_singleton.1 ht; exact Nat.le_refl _) (by simp; omega) (by simp)).mono ?_
  clear h4
  rintro e w2 ⟨ao2, cap2, rfl, ho2, hb2⟩
  have HO2 := hide ho2
  have HB2 := hide hb2
  clear ho2 hb2
  go_wp2_with fail
  go_ret
  refine ⟨ao2, cap2, rfl, ownsRow_base HO2.out (fun k hk => ?_), ((Below.refl _ W).alloc (Nat.le_refl _) _).trans (HB2.out.mono (by simp))⟩
  have := (ownsRow_lt HO2.out k hk).1
  simp only [World.size_alloc] at this
  omega

set_option maxHeartbeats 4000000 in
set_option maxRecDepth 100000 in
/-- code.List at this type, with this function to lay one. -/
theorem code_List_S {τ : Type} (enc : τ → Value) (f : τ → List UInt8) (w : World) (vb vn : Value) (b : List UInt8) (xs : List τ) (zs : List UInt8) (hzs : zs = b ++ (num8 (xs.length : Int) ++ xs.flatMap f)) (hb : Rd w vb b.length (u8s b)) (hn : Rd w vn xs.length (xs.map enc)) (h1 : ∀ x ∈ xs, (enc x).oneCell' = true)
    (M : Nat) (hM : ∀ x ∈ xs, (f x).length ≤ M) (hm : b.length + 8 + xs.length * M ≤ 140737488351232) (hm1 : 16 * xs.length ≤ 140737488351232)
    (hlay : ∀ (W : World) (v : Value) (c : List UInt8) (x : τ), Below w.heap.size w W → x ∈ xs → Rd W v c.length (u8s c) → c.length + M ≤ 140737488351232 →
      Calls Try.prog 37 #[v, enc x] W fun e W' => ∃ ao cap, e = .returned (.slice ao (c ++ f x).length cap) ∧ W'.ownsRow W.heap.size 5 1 (.slice ao (c ++ f x).length cap) (c ++ f x).length (u8s (c ++ f x)) ∧ Below W.heap.size W W') :
    Calls Try.prog 36 #[vb, vn, .func (.func 37) #[] #[]] w fun e w' => ∃ ao cap, e = .returned (.slice ao zs.length cap) ∧ w'.ownsRow w.heap.size 5 1 (.slice ao zs.length cap) zs.length (u8s zs) ∧ Below w.heap.size w w' := by
  obtain ⟨ab, cb, rfl, -, -⟩ := hb.shape
  obtain ⟨an, cn, rfl, -, -⟩ := hn.shape
  have HB := hide hb
  have HN := hide hn
  have HM := hide hM
  have HM2 := hide hm
  have H1 := hide h1
  have HLAY := hide hlay
  obtain ⟨b0, hb0⟩ : ∃ b0, b0 = b ++ nums [(xs.length : Int)] := ⟨_, rfl⟩
  have hzs' : zs = b0 ++ xs.flatMap f := by rw [hb0, hzs]; simp [nums]
  have hl0 : b0.length = b.length + 8 := by rw [hb0]; simp [nums, num8_length]
  have HB0 := hide hb0
  have HZS := hide hzs'
  have HL0 := hide hl0
  have hbm : b.length + 8 ≤ 140737488351232 := by omega
  clear hb hn hM hm hzs hzs' hlay h1 hb0 hl0
  refine (callsIn_wide (n := 9)).1 ?_
  refine callsIn_of_wp_marks Try.func36 rfl trivial ?_ rfl
  simp only [Try.ntmps36, List.size_toArray, List.length_cons, List.length_nil, Nat.reduceAdd, Nat.reduceSub, Array.replicate_succ, Array.replicate_zero, List.push_toArray, List.append_toArray, List.nil_append, List.cons_append]
  gi_wp2_with (first
    | (refine ⟨trivial, ?_⟩; gi_at_call 34; have h4 := Rd_lit (w.alloc (.cells #[.func (.func 37) #[] #[]] 53)) #[.int .i64 xs.length] 3 1; rw [World.size_alloc] at h4; have h5 := code_Num _ _ _ b [(xs.length : Int)] b0 HB0.out ((HB.out.chg (Chg.alloc (fun _ => False) w _) (fun _ _ _ h => h)).chg (Chg.alloc (fun _ => False) (w.alloc (.cells #[.func (.func 37) #[] #[]] 53)) (.cells #[.int .i64 xs.length] 3)) (fun _ _ _ h => h)) h4 (by simp; omega); refine (callsIn_wide.2 h5).mono ?_; clear h4 h5; rintro e w1 ⟨ao1, cap1, rfl, ho1, hb1⟩; have HO1 := hide ho1; have HB1 := hide hb1; clear ho1 hb1)
    | (refine ⟨trivial, ?_⟩; gi_at_call 49; refine (callsIn_wide.2 (seqS_of _ _ xs.length (xs.map enc) (by exact (((HN.out.chg (Chg.alloc (fun _ => False) w _) (fun _ _ _ h => h)).chg (Chg.alloc (fun _ => False) _ _) (fun _ _ _ h => h)).chg (Chg.of_below0 (S := fun _ => False) HB1.out) (fun _ _ _ h => h)).chg (Chg.alloc (fun _ => False) w1 _) (fun _ _ _ h => h)) (by simp) (by intro u hu; obtain ⟨x, hx, rfl⟩ := List.mem_map.1 hu; exact H1.out x hx) (by omega))).mono ?_; rintro e w2 ⟨B, rfl, hs2, hb2⟩; have HS2 := hide hs2; have HB2 := hide hb2; clear hs2 hb2))
  have hz1 := HB1.out.size
  have hz2 := HB2.out.size
  simp only [World.size_alloc] at hz1 hz2
  have hbw1 : Below w.heap.size w w1 := (((Below.refl _ w).alloc (Nat.le_refl _) _).alloc (by simp) _).trans (HB1.out.mono (by simp; omega))
  have hfv : w2.heap[w.heap.size]? = some (.cells #[.func (.func 37) #[] #[]] 53 (0, 0)) :=
    (Chg.of_below0 (S := fun _ => False) HB2.out).heap ((Chg.alloc (fun _ => False) w1 _).heap ((Chg.of_below0 (S := fun _ => False) HB1.out).heap ((Chg.alloc (fun _ => False) _ _).heap (heap_alloc_new w _) (fun h => h)) (fun h => h)) (fun h => h)) (fun h => h)
  have h0 : OutAt w.heap.size w1.heap.size (w1.heap.size + 1) w2.heap.size w w2 (b0 ++ ([] : List τ).flatMap f) := by
    refine ⟨ao1, cap1, ?_, ?_, ?_, Nat.le_refl _, ?_⟩
    · simpa using (Chg.of_below0 (S := fun _ => False) HB2.out).heap (heap_alloc_new w1 _) (fun h => h)
    · refine ownsRow_base (base := (((w.alloc (.cells #[.func (.func 37) #[] #[]] 53)).alloc (.cells #[.int .i64 xs.length] 3)).heap.size)) ?_ (fun k hk => ?_)
      · simpa using (Chg.of_below0 (S := fun _ => False) HB2.out).owns ((Chg.alloc (fun _ => False) w1 _).owns HO1.out (fun _ _ h => h)) (fun _ _ h => h)
      · have := (ownsRow_lt HO1.out k (by simpa using hk)).1
        simp only [World.size_alloc] at this
        omega
    · intro k hk
      have := (ownsRow_lt HO1.out k (by simpa using hk)).2
      omega
    · exact (hbw1.alloc hbw1.size _).trans (HB2.out.mono (by have := hbw1.size; simp; omega))
  have H0 := hide h0
  have HFV := hide hfv
  have HBW1 := hide hbw1
  have HZ1 := hide hz1
  have HZ2 := hide hz2
  clear h0 hfv hbw1 hz1 hz2
  refine wpIn_range xs enc (fun k => w1.heap.size + 1 ≤ k ∧ k < w2.heap.size) rfl (enters_of Try.func58 (by kernel_rfl) rfl)
    (seqS_stops enc (w1.heap.size + 1) w2.heap.size B xs H1.out (by omega) w2 (Nat.le_refl _) (by have h := HS2.out; rw [World.size_alloc] at h; exact h)) rfl
    (fun pre W => ((b0 ++ pre.flatMap f).length ≤ b0.length + pre.length * M ∧ W.heap[w.heap.size]? = some (.cells #[.func (.func 37) #[] #[]] 53 (0, 0))) ∧ OutAt w.heap.size w1.heap.size (w1.heap.size + 1) w2.heap.size w W (b0 ++ pre.flatMap f))
    (fun pre S W W' c hS h => ⟨⟨h.1.1, c.heap h.1.2 (fun hs => NonC.not h.1.2 (hS _ hs).2)⟩, OutAt.abd (Nat.le_trans HBW1.out.size (by have := HZ2.out; omega)) (Nat.le_refl _) _ S W W' c hS h.2⟩) ⟨⟨by simp, HFV.out⟩, H0.out⟩
    (fun x => { tmps := #[.slice ab b.length cb, .slice an xs.length cn, .func (.func 37) #[] #[], undef, undef, .pointer (some ⟨w.heap.size, 0, none⟩), .slice none 0 0, .pointer (some ⟨w1.heap.size, 0, none⟩), enc x, .slice ab b.length cb, .slice an xs.length cn, .int .i64 xs.length, .slice (some ⟨w.heap.size + 1, 0, none⟩) 1 1, .slice ao1 b0.length cap1, .slice an xs.length cn, .func (.func 58) #[] #[.pointer (some ⟨B, 0, none⟩)], enc x, undef, undef, undef, undef, undef, undef, undef], defers := [] }) ?assign ?body ?done
  case assign =>
    intro l x W K hK
    gi_wp2
    exact hK
  case body =>
    rintro l pre x W ⟨⟨hpl, hfv⟩, hI⟩ hlen hpre hx
    obtain ⟨ys, hys⟩ : ∃ ys, ys = b0 ++ pre.flatMap f := ⟨_, rfl⟩
    have hxM := HM.out x hx
    have hmul : (pre.length + 1) * M ≤ xs.length * M := Nat.mul_le_mul_right _ hlen
    rw [Nat.add_mul, Nat.one_mul] at hmul
    have hyl : ys.length + M ≤ 140737488351232 := by have := HM2.out; have := HL0.out; rw [hys]; omega
    obtain ⟨us, hus⟩ : ∃ us, us = ys ++ f x := ⟨_, rfl⟩
    have hxe : b0 ++ (pre ++ [x]).flatMap f = us := by rw [hus, hys]; simp
    have hgoal : us.length ≤ b0.length + (pre ++ [x]).length * M := by
      rw [hus, List.length_append, hys]
      simp only [List.length_append, List.length_cons, List.length_nil, Nat.zero_add, Nat.add_mul, Nat.one_mul] at hpl ⊢
      omega
    rw [hxe]
    rw [← hys] at hI
    obtain ⟨ao, cap, g1, g2, g3, hsz, g4⟩ := hI
    have hcall := HLAY.out W _ ys x g4 hx (Rd.of_owns g2) hyl
    rw [← hus] at hcall
    have HCALL := hide hcall
    have HSZ := hide hsz
    have hc := cell_of_heap g1 0
    have hcf := cell_of_heap hfv 0
    have HFW := hide hfv
    have G1 := hide g1
    have G2 := hide g2
    have G3 := hide g3
    have G4 := hide g4
    have HGOAL := hide hgoal
    have hnn : ∀ w', Sem.run Try.prog (binOp BinOp.neq 53 (.func (.func 37) #[] #[]) .nilFunc) w' = .ok (.bool true) w' := by intro w'; kernel_rfl
    clear g1 g2 g3 g4 hsz hus hxe hys hyl hpl hmul hpre hx hlen hxM hgoal hcall hfv
    gi_wp2_with (first
      | (refine ⟨trivial, ?_⟩; gi_at_call 37; refine (CallsIn.inRound l (callsIn_wide.2 HCALL.out)).mono ?_; rintro e w3 ⟨ao3, cap3, rfl, ho3, hb3⟩; have HO3 := hide ho3; have HB3 := hide hb3; have hb4 := (Chg.of_below0 (S := fun _ => False) hb3).heap G1.out (fun h => h); have hc3 := cell_of_heap hb4 0; have hf3 := free_of_heap hb4 0; have HB4 := hide hb4; clear ho3 hb3 hb4 hc))
    have hz1 := HB3.out.size
    refine ⟨?_, ⟨?_, ?_⟩, ?_⟩
    · refine Rnd.turn (((Rnd.refl _ W).same (Chg.of_below0 HB3.out)).step (Chg.setCell w3 _ _) (fun j hj => ?_)) _
      subst hj
      exact ⟨fun hd => by have h1 : w1.heap.size + 1 ≤ w1.heap.size := hd.1; omega, NonC.not HB4.out⟩
    · simpa using HGOAL.out
    · refine (Chg.setCell w3 _ _).heap ((Chg.of_below0 (S := fun _ => False) HB3.out).heap HFW.out (fun h => h)) (fun h => ?_)
      have h5 : w.heap.size = w1.heap.size := h
      have := HZ1.out
      omega
    · refine ⟨ao3, cap3, heap_setCell_same HB4.out _, ?_, ?_, by have := HSZ.out; simp; omega, ?_⟩
      · refine ownsRow_base ((Chg.setCell w3 _ _).owns HO3.out (fun j hj e => by subst e; exact ownsRow_ne HO3.out HB4.out (by decide) hj)) (fun j hj => ?_)
        have h5 := (ownsRow_lt HO3.out j hj).1
        have := G4.out.size
        omega
      · intro j hj
        have h5 := (ownsRow_lt HO3.out j hj).1
        have := HSZ.out
        omega
      · exact (G4.out.trans (HB3.out.mono G4.out.size)).setCell (by exact HBW1.out.size) _
  case done =>
    rintro Db W hD ⟨-, hI⟩ hd
    rw [← HZS.out] at hI
    obtain ⟨ao, cap, g1, g2, g3, g5, g4⟩ := hI
    have hc := cell_of_heap g1 0
    have G2 := hide g2
    have G4 := hide g4
    clear g1 g2 g3 g4
    gi_wp2
    have hp : Chg (fun k => some k = some Db) W (W.putObj Db (.deferred none)) := Chg.grown (grownBy_putObj' W Db _)
    refine ⟨by simp, .inl ⟨_, _, rfl, run_takeDeferred hd, ?_⟩⟩
    refine ⟨_, results_tmp rfl _ _ _, ao, cap, rfl, hp.owns G2.out (fun k hk e => ?_), G4.out.trans (hp.below G4.out.size (fun k hk e => ?_))⟩
    · cases e
      exact NonC.not_owns G2.out hk ⟨_, hd, rfl⟩
    · cases e
      have := HBW1.out.size
      have := HZ2.out
      omega
end Go.Proofs.Ythhnpafadinheaa
