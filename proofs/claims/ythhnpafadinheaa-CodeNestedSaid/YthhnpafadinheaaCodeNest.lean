/- Lists of lists of texts (chapter 15): layAll, List, readAll, ReadList. Conditions: the slices read as said. -/
import Derived.Test.YthhnpafadinheaaCodeList
import Derived.Test.YthhnpafadinheaaCodeLL
namespace Go.Proofs.Ythhnpafadinheaa
open Go.RowKit Go.Shelf
attribute [local go_sem] Oper.semAt_some

/-- A list of texts in memory: the slice, and what it holds. -/
abbrev TL := Value × List ByteArray
/-- Its bytes. -/
def tlb (x : TL) : List UInt8 := num8 (x.2.length : Int) ++ txts x.2

theorem txts_le (ss : List ByteArray) (M : Nat) (h : ∀ s ∈ ss, s.size ≤ M) : (txts ss).length ≤ ss.length * (8 + M) := by
  induction ss with
  | nil => simp [txts]
  | cons s ss ih =>
    have h1 := h s (by simp)
    have h2 := ih (fun t ht => h t (by simp [ht]))
    rw [txts_cons, List.length_append, List.length_append, num8_length, sb_length, List.length_cons, Nat.add_mul, Nat.one_mul]
    omega

set_option maxHeartbeats 4000000 in
theorem layAll_ok (W : World) (v : Value) (c : List UInt8) (x : TL) (hr : Rd W v c.length (u8s c)) (hx : Rd W x.1 x.2.length (x.2.map Value.string)) (hn : x.2.length ≤ 1000) (S : Nat) (hs : ∀ s ∈ x.2, s.size ≤ S) (hm : c.length + (8 + x.2.length * (8 + S)) ≤ 140737488351232) :
    Calls Try.prog 45 #[v, x.1] W fun e W' => ∃ ao cap, e = .returned (.slice ao (c ++ tlb x).length cap) ∧ W'.ownsRow W.heap.size 5 1 (.slice ao (c ++ tlb x).length cap) (c ++ tlb x).length (u8s (c ++ tlb x)) ∧ Below W.heap.size W W' := by
  obtain ⟨v2, ss⟩ := x
  obtain ⟨av, cv, rfl, -, -⟩ := hr.shape
  dsimp only at hx hn hs hm
  obtain ⟨a2, c2, rfl, -, -⟩ := hx.shape
  have HR := hide hr
  have HX := hide hx
  have HS := hide hs
  obtain ⟨zs, hzs⟩ : ∃ zs, zs = c ++ tlb (.slice a2 ss.length c2, ss) := ⟨_, rfl⟩
  rw [← hzs]
  have hz' : zs = c ++ (num8 (ss.length : Int) ++ ss.flatMap fun s => num8 (s.size : Int) ++ sb s) := by rw [hzs]; simp [tlb, txts]
  have HZ := hide hz'
  clear hr hx hs hzs hz'
  go_enter Try.func45, Try.ntmps45
  go_wp2_with fail
  refine (code_List_S Value.string (fun s => num8 (s.size : Int) ++ sb s) W _ _ c ss zs HZ.out HR.out HX.out (by intro _ _; rfl) (8 + S) (fun s hs => by have := HS.out s hs; simp [num8_length, sb_length]; omega) (by omega) (by omega)
      (fun W' v c s _ hs hr hc => lay_ok W' v c s hr (by have := HS.out s hs; omega))).mono ?_
  rintro e w2 ⟨ao2, cap2, rfl, ho2, hb2⟩
  have HO2 := hide ho2
  have HB2 := hide hb2
  clear ho2 hb2
  go_wp2_with fail
  go_ret
  exact ⟨ao2, cap2, rfl, HO2.out, HB2.out⟩

set_option maxHeartbeats 4000000 in
set_option maxRecDepth 100000 in
/-- code.List at this type, with this function to lay one. -/
theorem code_List_L {τ : Type} (enc : τ → Value) (f : τ → List UInt8) (w : World) (vb vn : Value) (b : List UInt8) (xs : List τ) (zs : List UInt8) (hzs : zs = b ++ (num8 (xs.length : Int) ++ xs.flatMap f)) (hb : Rd w vb b.length (u8s b)) (hn : Rd w vn xs.length (xs.map enc)) (h1 : ∀ x ∈ xs, (enc x).oneCell' = true)
    (M : Nat) (hM : ∀ x ∈ xs, (f x).length ≤ M) (hm : b.length + 8 + xs.length * M ≤ 140737488351232) (hm1 : 24 * xs.length ≤ 140737488351232)
    (hlay : ∀ (W : World) (v : Value) (c : List UInt8) (x : τ), Below w.heap.size w W → x ∈ xs → Rd W v c.length (u8s c) → c.length + M ≤ 140737488351232 →
      Calls Try.prog 45 #[v, enc x] W fun e W' => ∃ ao cap, e = .returned (.slice ao (c ++ f x).length cap) ∧ W'.ownsRow W.heap.size 5 1 (.slice ao (c ++ f x).length cap) (c ++ f x).length (u8s (c ++ f x)) ∧ Below W.heap.size W W') :
    Calls Try.prog 44 #[vb, vn, .func (.func 45) #[] #[]] w fun e w' => ∃ ao cap, e = .returned (.slice ao zs.length cap) ∧ w'.ownsRow w.heap.size 5 1 (.slice ao zs.length cap) zs.length (u8s zs) ∧ Below w.heap.size w w' := by
  obtain ⟨ab, cb, rfl, -, -⟩ := hb.shape
  obtain ⟨an, cn, rfl, -, -⟩ := hn.shape
  have HB := hide hb
  have HN := hide hn
  have HM := hide hM
  have HM2 := hide hm
  have H1 := hide h1
  have HLAY := hide hlay
  obtain ⟨b0, hb0⟩ : ∃ b0, b0 = b ++ nums [(xs.length : Int)] := ⟨_, rfl⟩
  have hzs' : zs = b0 ++ xs.flatMap f := by rw [hb0, hzs]; simp [nums]
  have hl0 : b0.length = b.length + 8 := by rw [hb0]; simp [nums, num8_length]
  have HB0 := hide hb0
  have HZS := hide hzs'
  have HL0 := hide hl0
  have hbm : b.length + 8 ≤ 140737488351232 := by omega
  clear hb hn hM hm hzs hzs' hlay h1 hb0 hl0
  refine (callsIn_wide (n := 9)).1 ?_
  refine callsIn_of_wp_marks Try.func44 rfl trivial ?_ rfl
  simp only [Try.ntmps44, List.size_toArray, List.length_cons, List.length_nil, Nat.reduceAdd, Nat.reduceSub, Array.replicate_succ, Array.replicate_zero, List.push_toArray, List.append_toArray, List.nil_append, List.cons_append]
  gi_wp2_with (first
    | (refine ⟨trivial, ?_⟩; gi_at_call 34; have h4 := Rd_lit (w.alloc (.cells #[.func (.func 45) #[] #[]] 55)) #[.int .i64 xs.length] 3 1; rw [World.size_alloc] at h4; have h5 := code_Num _ _ _ b [(xs.length : Int)] b0 HB0.out ((HB.out.chg (Chg.alloc (fun _ => False) w _) (fun _ _ _ h => h)).chg (Chg.alloc (fun _ => False) (w.alloc (.cells #[.func (.func 45) #[] #[]] 55)) (.cells #[.int .i64 xs.length] 3)) (fun _ _ _ h => h)) h4 (by simp; omega); refine (callsIn_wide.2 h5).mono ?_; clear h4 h5; rintro e w1 ⟨ao1, cap1, rfl, ho1, hb1⟩; have HO1 := hide ho1; have HB1 := hide hb1; clear ho1 hb1)
    | (refine ⟨trivial, ?_⟩; gi_at_call 51; refine (callsIn_wide.2 (seqL_of _ _ xs.length (xs.map enc) (by exact (((HN.out.chg (Chg.alloc (fun _ => False) w _) (fun _ _ _ h => h)).chg (Chg.alloc (fun _ => False) _ _) (fun _ _ _ h => h)).chg (Chg.of_below0 (S := fun _ => False) HB1.out) (fun _ _ _ h => h)).chg (Chg.alloc (fun _ => False) w1 _) (fun _ _ _ h => h)) (by simp) (by intro u hu; obtain ⟨x, hx, rfl⟩ := List.mem_map.1 hu; exact H1.out x hx) (by omega))).mono ?_; rintro e w2 ⟨B, rfl, hs2, hb2⟩; have HS2 := hide hs2; have HB2 := hide hb2; clear hs2 hb2))
  have hz1 := HB1.out.size
  have hz2 := HB2.out.size
  simp only [World.size_alloc] at hz1 hz2
  have hbw1 : Below w.heap.size w w1 := (((Below.refl _ w).alloc (Nat.le_refl _) _).alloc (by simp) _).trans (HB1.out.mono (by simp; omega))
  have hfv : w2.heap[w.heap.size]? = some (.cells #[.func (.func 45) #[] #[]] 55 (0, 0)) :=
    (Chg.of_below0 (S := fun _ => False) HB2.out).heap ((Chg.alloc (fun _ => False) w1 _).heap ((Chg.of_below0 (S := fun _ => False) HB1.out).heap ((Chg.alloc (fun _ => False) _ _).heap (heap_alloc_new w _) (fun h => h)) (fun h => h)) (fun h => h)) (fun h => h)
  have h0 : OutAt w.heap.size w1.heap.size (w1.heap.size + 1) w2.heap.size w w2 (b0 ++ ([] : List τ).flatMap f) := by
    refine ⟨ao1, cap1, ?_, ?_, ?_, Nat.le_refl _, ?_⟩
    · simpa using (Chg.of_below0 (S := fun _ => False) HB2.out).heap (heap_alloc_new w1 _) (fun h => h)
    · refine ownsRow_base (base := (((w.alloc (.cells #[.func (.func 45) #[] #[]] 55)).alloc (.cells #[.int .i64 xs.length] 3)).heap.size)) ?_ (fun k hk => ?_)
      · simpa using (Chg.of_below0 (S := fun _ => False) HB2.out).owns ((Chg.alloc (fun _ => False) w1 _).owns HO1.out (fun _ _ h => h)) (fun _ _ h => h)
      · have := (ownsRow_lt HO1.out k (by simpa using hk)).1
        simp only [World.size_alloc] at this
        omega
    · intro k hk
      have := (ownsRow_lt HO1.out k (by simpa using hk)).2
      omega
    · exact (hbw1.alloc hbw1.size _).trans (HB2.out.mono (by have := hbw1.size; simp; omega))
  have H0 := hide h0
  have HFV := hide hfv
  have HBW1 := hide hbw1
  have HZ1 := hide hz1
  have HZ2 := hide hz2
  clear h0 hfv hbw1 hz1 hz2
  refine wpIn_range xs enc (fun k => w1.heap.size + 1 ≤ k ∧ k < w2.heap.size) rfl (enters_of Try.func60 (by kernel_rfl) rfl)
    (seqL_stops enc (w1.heap.size + 1) w2.heap.size B xs H1.out (by omega) w2 (Nat.le_refl _) (by have h := HS2.out; rw [World.size_alloc] at h; exact h)) rfl
    (fun pre W => ((b0 ++ pre.flatMap f).length ≤ b0.length + pre.length * M ∧ W.heap[w.heap.size]? = some (.cells #[.func (.func 45) #[] #[]] 55 (0, 0))) ∧ OutAt w.heap.size w1.heap.size (w1.heap.size + 1) w2.heap.size w W (b0 ++ pre.flatMap f))
    (fun pre S W W' c hS h => ⟨⟨h.1.1, c.heap h.1.2 (fun hs => NonC.not h.1.2 (hS _ hs).2)⟩, OutAt.abd (Nat.le_trans HBW1.out.size (by have := HZ2.out; omega)) (Nat.le_refl _) _ S W W' c hS h.2⟩) ⟨⟨by simp, HFV.out⟩, H0.out⟩
    (fun x => { tmps := #[.slice ab b.length cb, .slice an xs.length cn, .func (.func 45) #[] #[], undef, undef, .pointer (some ⟨w.heap.size, 0, none⟩), .slice none 0 0, .pointer (some ⟨w1.heap.size, 0, none⟩), enc x, .slice ab b.length cb, .slice an xs.length cn, .int .i64 xs.length, .slice (some ⟨w.heap.size + 1, 0, none⟩) 1 1, .slice ao1 b0.length cap1, .slice an xs.length cn, .func (.func 60) #[] #[.pointer (some ⟨B, 0, none⟩)], enc x, undef, undef, undef, undef, undef, undef, undef], defers := [] }) ?assign ?body ?done
  case assign =>
    intro l x W K hK
    gi_wp2
    exact hK
  case body =>
    rintro l pre x W ⟨⟨hpl, hfv⟩, hI⟩ hlen hpre hx
    obtain ⟨ys, hys⟩ : ∃ ys, ys = b0 ++ pre.flatMap f := ⟨_, rfl⟩
    have hxM := HM.out x hx
    have hmul : (pre.length + 1) * M ≤ xs.length * M := Nat.mul_le_mul_right _ hlen
    rw [Nat.add_mul, Nat.one_mul] at hmul
    have hyl : ys.length + M ≤ 140737488351232 := by have := HM2.out; have := HL0.out; rw [hys]; omega
    obtain ⟨us, hus⟩ : ∃ us, us = ys ++ f x := ⟨_, rfl⟩
    have hxe : b0 ++ (pre ++ [x]).flatMap f = us := by rw [hus, hys]; simp
    have hgoal : us.length ≤ b0.length + (pre ++ [x]).length * M := by
      rw [hus, List.length_append, hys]
      simp only [List.length_append, List.length_cons, List.length_nil, Nat.zero_add, Nat.add_mul, Nat.one_mul] at hpl ⊢
      omega
    rw [hxe]
    rw [← hys] at hI
    obtain ⟨ao, cap, g1, g2, g3, hsz, g4⟩ := hI
    have hcall := HLAY.out W _ ys x g4 hx (Rd.of_owns g2) hyl
    rw [← hus] at hcall
    have HCALL := hide hcall
    have HSZ := hide hsz
    have hc := cell_of_heap g1 0
    have hcf := cell_of_heap hfv 0
    have HFW := hide hfv
    have G1 := hide g1
    have G2 := hide g2
    have G3 := hide g3
    have G4 := hide g4
    have HGOAL := hide hgoal
    have hnn : ∀ w', Sem.run Try.prog (binOp BinOp.neq 55 (.func (.func 45) #[] #[]) .nilFunc) w' = .ok (.bool true) w' := by intro w'; kernel_rfl
    clear g1 g2 g3 g4 hsz hus hxe hys hyl hpl hmul hpre hx hlen hxM hgoal hcall hfv
    gi_wp2_with (first
      | (refine ⟨trivial, ?_⟩; gi_at_call 45; refine (CallsIn.inRound l (callsIn_wide.2 HCALL.out)).mono ?_; rintro e w3 ⟨ao3, cap3, rfl, ho3, hb3⟩; have HO3 := hide ho3; have HB3 := hide hb3; have hb4 := (Chg.of_below0 (S := fun _ => False) hb3).heap G1.out (fun h => h); have hc3 := cell_of_heap hb4 0; have hf3 := free_of_heap hb4 0; have HB4 := hide hb4; clear ho3 hb3 hb4 hc))
    have hz1 := HB3.out.size
    refine ⟨?_, ⟨?_, ?_⟩, ?_⟩
    · refine Rnd.turn (((Rnd.refl _ W).same (Chg.of_below0 HB3.out)).step (Chg.setCell w3 _ _) (fun j hj => ?_)) _
      subst hj
      exact ⟨fun hd => by have h1 : w1.heap.size + 1 ≤ w1.heap.size := hd.1; omega, NonC.not HB4.out⟩
    · simpa using HGOAL.out
    · refine (Chg.setCell w3 _ _).heap ((Chg.of_below0 (S := fun _ => False) HB3.out).heap HFW.out (fun h => h)) (fun h => ?_)
      have h5 : w.heap.size = w1.heap.size := h
      have := HZ1.out
      omega
    · refine ⟨ao3, cap3, heap_setCell_same HB4.out _, ?_, ?_, by have := HSZ.out; simp; omega, ?_⟩
      · refine ownsRow_base ((Chg.setCell w3 _ _).owns HO3.out (fun j hj e => by subst e; exact ownsRow_ne HO3.out HB4.out (by decide) hj)) (fun j hj => ?_)
        have h5 := (ownsRow_lt HO3.out j hj).1
        have := G4.out.size
        omega
      · intro j hj
        have h5 := (ownsRow_lt HO3.out j hj).1
        have := HSZ.out
        omega
      · exact (G4.out.trans (HB3.out.mono G4.out.size)).setCell (by exact HBW1.out.size) _
  case done =>
    rintro Db W hD ⟨-, hI⟩ hd
    rw [← HZS.out] at hI
    obtain ⟨ao, cap, g1, g2, g3, g5, g4⟩ := hI
    have hc := cell_of_heap g1 0
    have G2 := hide g2
    have G4 := hide g4
    clear g1 g2 g3 g4
    gi_wp2
    have hp : Chg (fun k => some k = some Db) W (W.putObj Db (.deferred none)) := Chg.grown (grownBy_putObj' W Db _)
    refine ⟨by simp, .inl ⟨_, _, rfl, run_takeDeferred hd, ?_⟩⟩
    refine ⟨_, results_tmp rfl _ _ _, ao, cap, rfl, hp.owns G2.out (fun k hk e => ?_), G4.out.trans (hp.below G4.out.size (fun k hk e => ?_))⟩
    · cases e
      exact NonC.not_owns G2.out hk ⟨_, hd, rfl⟩
    · cases e
      have := HBW1.out.size
      have := HZ2.out
      omega

set_option maxHeartbeats 4000000 in
theorem readAll_ok (w : World) (vb : Value) (b : List UInt8) (p : Int) (hb : Rd w vb b.length (u8s b)) (hm : b.length ≤ 140737488351232) :
    Calls Try.prog 47 #[vb, .int .i64 p] w fun e w' => ∃ ao cap, e = .returned (.tuple #[.slice ao (rdList b p 6).1.length cap, .int .i64 (rdList b p 6).2.1, .bool (rdList b p 6).2.2]) ∧
      w'.ownsRow w.heap.size 9 1 (.slice ao (rdList b p 6).1.length cap) (rdList b p 6).1.length ((rdList b p 6).1.map Value.string) ∧ Below w.heap.size w w' := by
  have HB := hide hb
  obtain ⟨ab, cb, rfl, -, -⟩ := hb.shape
  clear hb
  obtain ⟨R, hR⟩ : ∃ R, R = rdList b p 6 := ⟨_, rfl⟩
  have hc := code_ReadList_S w _ b p 6 HB.out hm (by decide)
  rw [← hR] at hc ⊢
  have HC := hide hc
  clear hc hR
  go_enter Try.func47, Try.ntmps47
  go_wp2_with fail
  refine HC.out.mono ?_
  rintro e w1 ⟨ao, cap, rfl, ho, hb1⟩
  have HO := hide ho
  have HB1 := hide hb1
  clear ho hb1
  go_wp2_with fail
  go_ret3
  exact ⟨ao, cap, rfl, HO.out, HB1.out⟩

/-- Lists, one behind the other. -/
def lls (L : List (List ByteArray)) : List UInt8 := L.flatMap fun l => num8 (l.length : Int) ++ txts l
theorem lls_append (A B : List (List ByteArray)) : lls (A ++ B) = lls A ++ lls B := by simp [lls]
theorem lls_one (l : List ByteArray) : lls [l] = num8 (l.length : Int) ++ txts l := by simp [lls]
/-- The bytes ahead of list number k. -/
def hd (pre : List UInt8) (L : List (List ByteArray)) (k : Nat) : List UInt8 := pre ++ (num8 (L.length : Int) ++ lls (L.take k))
theorem hd_zero (pre : List UInt8) (L : List (List ByteArray)) : (hd pre L 0).length = pre.length + 8 := by simp [hd, lls, num8_length]
theorem hd_succ (pre : List UInt8) (L : List (List ByteArray)) (k : Nat) (hk : k < L.length) : hd pre L (k + 1) = listOf (hd pre L k) L[k] := by
  rw [hd, take_succ_get L k hk, lls_append, lls_one, hd, listOf]
  simp only [List.append_assoc]
theorem rd_step (pre post : List UInt8) (L : List (List ByteArray)) (k : Nat) (hk : k < L.length) (hs : ∀ l ∈ L, l.length ≤ 6 ∧ ∀ s ∈ l, s.size ≤ 1000) :
    rdList (pre ++ (num8 (L.length : Int) ++ (lls L ++ post))) (hd pre L k).length 6 = (L[k], ((hd pre L (k + 1)).length : Int), true) := by
  have h := hs L[k] (List.getElem_mem hk)
  have e := rdList_laid (hd pre L k) (lls (L.drop (k + 1)) ++ post) L[k] 6 (fun s h' => Nat.le_trans (h.2 s h') (by decide)) (by omega) (by omega)
  rw [← hd_succ pre L k hk] at e
  have e2 : hd pre L (k + 1) ++ (lls (L.drop (k + 1)) ++ post) = pre ++ (num8 (L.length : Int) ++ (lls L ++ post)) := by
    have e3 : lls L = lls (L.take (k + 1)) ++ lls (L.drop (k + 1)) := by
      rw [← lls_append, List.take_append_drop]
    rw [e3, hd]
    simp only [List.append_assoc]
  rw [e2] at e
  exact e

theorem owns_ne2 {w : World} {b b' : Nat} {e e' : TypeId} {s s' : Nat} {v v' : Value} {n n' : Nat} {xs xs' : List Value} (h : w.ownsRow b e s v n xs) (h' : w.ownsRow b' e' s' v' n' xs') (hne : e ≠ e') {k : Nat} (hk : v.ownBlock = some k) : v'.ownBlock ≠ some k := by
  rcases h.2 with ⟨rfl, _⟩ | ⟨g, cap, cur, rfl, _, hg, _⟩
  · cases hk
  · cases hk
    exact ownsRow_ne h' hg hne

/-- k lists that were read: the row of slices, and what each holds. -/
def Got (base : Nat) (L : List (List ByteArray)) (k : Nat) (w : World) (v : Value) : Prop :=
  ∃ ao cap vs, v = .slice ao k cap ∧ w.ownsRow base 50 1 (.slice ao k cap) k vs ∧ ∀ i (hi : i < L.length), i < k → ∃ u, vs[i]? = some u ∧ w.ownsRow base 9 1 u L[i].length (L[i].map Value.string)

set_option maxHeartbeats 4000000 in
set_option maxRecDepth 100000 in
theorem code_ReadList_L (w : World) (vb : Value) (c pre post : List UInt8) (L : List (List ByteArray)) (most : Int) (hc : c = pre ++ (num8 (L.length : Int) ++ (lls L ++ post))) (hb : Rd w vb c.length (u8s c)) (hm : c.length ≤ 140737488351232) (hL : L.length ≤ 1000) (hmo : (L.length : Int) ≤ most)
    (hs : ∀ l ∈ L, l.length ≤ 6 ∧ ∀ s ∈ l, s.size ≤ 1000) :
    Calls Try.prog 46 #[vb, .int .i64 (pre.length : Int), .int .i64 most, .func (.func 47) #[] #[]] w fun e w' => ∃ v, e = .returned (.tuple #[v, .int .i64 ((hd pre L L.length).length : Int), .bool true]) ∧
      Got w.heap.size L L.length w' v ∧ Below w.heap.size w w' := by
  have HB := hide hb
  obtain ⟨ab, cb, rfl, -, -⟩ := hb.shape
  have hrd := rdNum_laid pre (lls L ++ post) (L.length : Int) (wf_nat _ (by omega))
  rw [← hc] at hrd
  have hcN := code_ReadNum w _ c pre.length HB.out hm
  rw [hrd] at hcN
  have HC := hide hcN
  have HS := hide hs
  have HCC := hide hc
  have hnn : ∀ w', Sem.run Try.prog (binOp BinOp.eql 66 (.func (.func 47) #[] #[]) .nilFunc) w' = .ok (.bool false) w' := by intro w'; kernel_rfl
  obtain ⟨n, hn⟩ : ∃ n, n = L.length := ⟨_, rfl⟩
  rw [← hn] at HC hL hmo ⊢
  have HN := hide hn
  clear hb hrd hcN hs hc hn
  go_enter Try.func46, Try.ntmps46
  go_wp2_with fail
  refine HC.out.mono ?_
  rintro e w1 ⟨rfl, rfl⟩
  go_wp2_with fail
  go_loopw [1, 13, 40] (fun pv v i wr => ∃ k : Nat, k ≤ n ∧ i = .int .i64 k ∧ ∃ q : Int, pv = .int .i64 q ∧ Hid (q = ((hd pre L k).length : Int)) ∧ Hid (Below w1.heap.size w1 wr) ∧ Hid (Got w1.heap.size L k wr v)) (fun _ _ i _ => n - (intOf i).toNat)
  case atStart => exact ⟨0, by omega, rfl, _, rfl, by rw [Hid, hd_zero]; omega, Below.refl _ _, none, 0, [], rfl, World.ownsRow_nil _ _ _ _, by omega⟩
  case round =>
    obtain ⟨k, hk, rfl, q, rfl, HQ, HBW, HV⟩ := hrel
    by_cases hlt : k < n
    · obtain ⟨ao, cap, vs, rfl, ho, hvs⟩ := HV.out
      have HO := hide ho
      have HVS := hide hvs
      have hkL : k < L.length := by have := HN.out; omega
      have hcall := readAll_ok wr _ c q (HB.out.chg (Chg.of_below0 (S := fun _ => False) HBW.out) (fun _ _ _ h => h)) hm
      obtain ⟨l, hl⟩ : ∃ l, l = L[k] := ⟨_, rfl⟩
      have hrs := rd_step pre post L k hkL HS.out
      rw [← HCC.out, ← HQ.out, ← hl] at hrs
      rw [hrs] at hcall
      have HCALL := hide hcall
      have HL := hide hl
      clear hcall ho HV hvs hrs hl
      go_wp2_with fail
      refine HCALL.out.mono ?_
      rintro e w2 ⟨al, cl, rfl, hol, hb2⟩
      have OL := hide hol
      have HO2 := hide ((Chg.of_below0 (S := fun _ => False) hb2).owns HO.out (fun _ _ h => h))
      have HVS2 : Hid (∀ i (hi : i < L.length), i < k → ∃ u, vs[i]? = some u ∧ w2.ownsRow w1.heap.size 9 1 u L[i].length (L[i].map Value.string)) := hide (fun i hi hik => by
        obtain ⟨u, h1, h2⟩ := HVS.out i hi hik
        exact ⟨u, h1, (Chg.of_below0 (S := fun _ => False) hb2).owns h2 (fun _ _ h => h)⟩)
      have HB2 := hide (HBW.out.trans (hb2.mono HBW.out.size))
      clear hol hb2
      go_wp2_with (at_builtin; refine wpl_append rfl _ _ _ rfl seqL_sl w1.heap.size (HO2.out.alloc _) (Rd_lit w2 #[.slice al l.length cl] 50 1) rfl rfl rfl (by simp [Value.oneCell']) (by unfold maxLen; omega) (by omega) (by have := HB2.out.size; simp; omega) ?_; intro ao4 cap4 w4 hown hg _ _; have HO4 := hide hown; have HG4 := hide hg; clear hown hg)
      go_roundw
      case rel =>
        refine ⟨k + 1, by omega, by go_num, _, rfl, rfl, ?_, ao4, cap4, _, rfl, HO4.out, ?_⟩
        · exact (HB2.out.alloc HB2.out.size _).trans (HG4.out.below (by have := HB2.out.size; simp; omega) (fun i hi e => by have := (ownsRow_lt HO2.out i e).1; omega))
        · intro i hi hik
          have hvl : vs.length = k := by simpa using HO2.out.1
          by_cases e : i = k
          · subst e
            refine ⟨.slice al l.length cl, by simp [hvl], ?_⟩
            rw [← HL.out]
            refine HG4.out.owns ((Chg.alloc (fun _ => False) w2 _).owns (ownsRow_base OL.out (fun j hj => ?_)) (fun _ _ h => h)) (fun j hj e => owns_ne2 OL.out HO2.out (by decide) hj e)
            have := (ownsRow_lt OL.out j hj).1
            have := HBW.out.size
            omega
          · obtain ⟨u, h1, h2⟩ := HVS2.out i hi (by omega)
            refine ⟨u, by rw [List.getElem?_append_left (by omega)]; exact h1, HG4.out.owns ((Chg.alloc (fun _ => False) w2 _).owns h2 (fun _ _ h => h)) (fun j hj e => owns_ne2 h2 HO2.out (by decide) hj e)⟩
      case measure => simp [intOf]; omega
    · obtain rfl : k = n := by omega
      obtain ⟨ao, cap, vs, rfl, ho, hvs⟩ := HV.out
      have HO := hide ho
      have HVS := hide hvs
      have HQ2 := HQ.out
      subst HQ2
      clear ho hvs HV
      go_wp2_with fail
      go_ret3
      exact ⟨_, rfl, ⟨ao, cap, vs, rfl, HO.out, HVS.out⟩, HBW.out⟩
end Go.Proofs.Ythhnpafadinheaa
