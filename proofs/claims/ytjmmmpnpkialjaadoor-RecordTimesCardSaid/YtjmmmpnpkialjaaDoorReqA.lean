/- seq.Of at files: what it tells. request: what one parent, one file lays; the two lists. Conditions: the bytes read as said. -/
import Derived.Test.YtjmmmpnpkialjaaDoorCmO
import Derived.Test.YtjmmmpnpkialjaaDoorSeq
import Derived.Test.YtjmmmpnpkialjaaDoorRqL
namespace Go.Proofs.YtjmmmpnpkialjaaDoor
open Go.RowKit Go.Shelf
attribute [local go_sem] Oper.semAt_some

def flV (f : Fl) : Value := .agg #[.string f.path, .string f.data]
theorem seqF_values (w : World) (a : Option Addr) (n c : Nat) : Calls Tryd.prog 85 #[.slice a n c] w fun e w' => e = .returned (.func (.func 96) #[] #[.pointer (some ⟨w.heap.size, 0, none⟩)]) ∧ w' = w.alloc (.cells #[.slice a n c] 23) := by
  go_enter Tryd.func85, Tryd.ntmps85
  go_wp2
  go_ret
  exact ⟨rfl, rfl⟩
set_option maxRecDepth 100000 in
set_option maxHeartbeats 2000000 in
/-- slices.Values's closure at files. -/
theorem seqF_go {α : Type} (f : α → Fl) (l B n0 n1 : Nat) (v : Value) (zs : List α) (hreach : zs.length * 32 ≤ 140737488351232) (J Jx : List α → World → Prop) (hJ : ∀ s W o, J s W → J s (W.alloc o))
    (hY : ∀ pre x W, J pre W → pre.length < zs.length → YieldAt Fence.wide 7 Tryd.prog l #[flV (f x)] W fun e W' =>
      (e = .returned (.bool true) ∧ J (pre ++ [x]) W' ∧ Keep (fun k => n0 ≤ k ∧ k < n1) W W') ∨ (e = .returned (.bool false) ∧ Jx (pre ++ [x]) W'))
    (W : World) (_ : n0 ≤ B) (_ : B < n1) (hB : W.cell? ⟨B, 0, none⟩ = some v) (hr : Rd W v zs.length (flat fl_enc (zs.map f))) (hb : ∀ k, v.ownBlock = some k → n0 ≤ k ∧ k < n1) (h0 : J [] W) :
    CallsIn Fence.wide 8 Tryd.prog 96 #[.func (.yield l) #[] #[], .pointer (some ⟨B, 0, none⟩)] W fun e W' => (∃ v, e = .returned v) ∧
      ((∃ ys, ys = zs ∧ J ys W') ∨ (∃ pre, pre <+: zs ∧ Jx pre W')) := by
  refine callsIn_of_wp Tryd.func96 rfl trivial ?_ rfl
  simp only [Tryd.ntmps96, List.size_toArray, List.length_cons, List.length_nil, Nat.reduceAdd, Nat.reduceSub, Array.replicate_succ, Array.replicate_zero, List.push_toArray, List.append_toArray, List.nil_append, List.cons_append]
  have HR := hide hr
  obtain ⟨ao, cap, rfl, -, -⟩ := hr.shape
  clear hr
  have HB := hide hb
  have HY := hide hY
  have HJA := hide hJ
  clear hb hY hJ
  gi_wp2
  gi_loopw [7] (fun i wr => ∃ k : Nat, k ≤ zs.length ∧ i = .int .i64 k ∧ Hid (J (zs.take k) wr) ∧ Hid (Keep (fun k => n0 ≤ k ∧ k < n1) W wr)) (fun i _ => zs.length - (intOf i).toNat)
  case atStart => exact ⟨0, Nat.zero_le _, rfl, h0, Keep.refl _ _⟩
  case round =>
    obtain ⟨k, hk, rfl, HJ, HK⟩ := hrel
    by_cases hlt : k < zs.length
    · obtain ⟨a, cap', e, -, hcs0⟩ := (HK.out.rd HR.out HB.out).shape
      obtain ⟨b, off, rfl, hcs⟩ := hcs0 (by omega)
      cases e
      obtain ⟨hx0, hx1⟩ := fl_cells wr b off (zs.map f) hcs k (by simpa using hlt)
      simp only [List.getElem_map] at hx0 hx1
      obtain ⟨fn, tmps, assign, body, hy, hR⟩ := HY.out _ zs[k] (wr.alloc (.cells #[.string (f zs[k]).path, .string (f zs[k]).data] 68)) (HJA.out _ _ _ HJ.out) (by simp; omega)
      unfold flV at hy
      clear hcs hcs0
      gi_wp2
      refine hR.mono ?_
      rintro e W3 (⟨rfl, hJ3, hk3⟩ | ⟨rfl, hJx3⟩)
      · gi_wp2
        go_roundw
        case rel => exact ⟨k + 1, by omega, by simp, by rw [take_succ_get zs k hlt]; exact hJ3, keep_t (keep_t HK.out (Keep.of_chg (Chg.alloc (fun _ => False) wr _) (fun _ _ h => h))) hk3⟩
        case measure => simp [intOf]; omega
      · gi_wp2
        refine bodyPost_ret (results_none rfl _ _ _) rfl ?_
        exact ⟨⟨_, rfl⟩, .inr ⟨_, by rw [← take_succ_get zs k hlt]; exact List.take_prefix _ _, hJx3⟩⟩
    · obtain rfl : k = zs.length := by omega
      gi_wp2
      go_end0
      exact ⟨⟨_, rfl⟩, .inl ⟨_, rfl, by simpa using HJ.out⟩⟩
theorem seqF_stops (n0 n1 B : Nat) (zs : List Fl) (hreach : zs.length * 32 ≤ 140737488351232) (w : World) (hn : n1 ≤ w.heap.size) (h : SeqAt n0 n1 w B zs.length (flat fl_enc zs)) :
    SeqStopsK Fence.wide 8 Tryd.prog 96 #[.pointer (some ⟨B, 0, none⟩)] (fun x : {x // x ∈ zs} => #[flV x.1]) (Keep (fun k => n0 ≤ k ∧ k < n1)) (fun ys => ys = zs.attach) (fun pre => pre <+: zs.attach) zs.length w := by
  intro l J Jx W hW hJ _ hY h0
  obtain ⟨h1, h2, v, hc, hr, hb⟩ := h.chg (Chg.of_below hW) (fun k _ h2 h3 => by omega)
  refine (seqF_go (fun x : {x // x ∈ zs} => x.1) l B n0 n1 v zs.attach (by simpa using hreach) J Jx (fun s A o h => hJ s A _ none h (World.grownBy_alloc A o none) (fun r e => by cases e)) (by simpa using hY) W h1 h2 hc (by simpa using hr) hb h0)
/-- seq.Of at files. -/
theorem seqF_of (w : World) (va : Value) (xs : List Fl) (ha : Rd w va xs.length (flat fl_enc xs)) (hm : xs.length * 32 ≤ 140737488351232) :
    Calls Tryd.prog 67 #[va] w fun e w' => ∃ B, e = .returned (.func (.func 96) #[] #[.pointer (some ⟨B, 0, none⟩)]) ∧ SeqAt w.heap.size w'.heap.size w' B xs.length (flat fl_enc xs) ∧ Below w.heap.size w w' := by
  obtain ⟨ao, cap, rfl, -, -⟩ := ha.shape
  have HA := hide ha
  clear ha
  go_enter Tryd.func67, Tryd.ntmps67
  go_wp2_with fail
  refine (Clone_fl w _ xs.length (flat fl_enc xs) HA.out (flat_length fl_len xs) (fun u hu => by obtain ⟨x, _, hu⟩ := List.mem_flatMap.1 hu; exact fl_one x u hu) (by omega)).mono ?_
  rintro e w1 ⟨ao1, cap1, rfl, ho, hb, -⟩
  have HO := hide ho
  have HB := hide hb
  clear ho hb
  go_wp2_with fail
  refine (seqF_values w1 _ _ _).mono ?_
  rintro e w2 ⟨rfl, rfl⟩
  go_wp2_with fail
  go_ret
  refine ⟨_, rfl, ⟨HB.out.size, by simp, _, cell_of_heap (heap_alloc_new w1 _) 0, (Rd.of_owns HO.out).chg (Chg.alloc (fun _ => False) w1 _) (fun _ _ _ h => h), fun k hk => ?_⟩, HB.out.alloc HB.out.size _⟩
  have := ownsRow_lt HO.out k hk
  simp
  omega
end Go.Proofs.YtjmmmpnpkialjaaDoor
namespace Go.Proofs.YtjmmmpnpkialjaaDoor
open Go.RowKit Go.Shelf
attribute [local go_sem] Oper.semAt_some

/-- A range over a function whose word lies in a box of its own. -/
theorem wpIn_range_al {P : Program} {τ : Type} {g : Operand} {ps : Array Tmp} {assign body : Code} {Q : Exit → Act → World → Prop} {a : Act} {w : World} {gf : Nat} {lb : Array Value}
    (zs : List τ) (enc : τ → Value) (D : Nat → Prop) (hg : a.eval g = .func (.func gf) #[] lb) (eg : ∀ args w, (callFunc gf args).run P w = .ok (.enter gf args) w)
    (hseq : SeqStopsK Fence.wide 8 P gf lb (fun x : {x // x ∈ zs} => #[enc x.1]) (Keep D) (fun ys => ys = zs.attach) (fun pre => pre <+: zs.attach) zs.length w) (hps : ps.size = 1)
    (I : List τ → World → Prop) (hI : ∀ pre, Abd w.heap.size (I pre)) (h0 : I [] w) (cx : τ → Array Value) (T : TypeId) (a₁ : τ → Nat → Act)
    (hassign : ∀ (l : Nat) (x : τ) (W : World) (K : Act → World → Prop), K (a₁ x W.heap.size) (W.alloc (.cells (cx x) T)) →
      assign.wpIn (Fence.wide.inRound l) 7 P (Exit.then K (fun _ _ _ => False)) { tmps := (ps.zip #[enc x]).foldl (fun t (p, v) => t.setIfInBounds p v) a.tmps, defers := [] } W)
    (hbody : ∀ (l : Nat) (pre : List τ) (x : τ) (Bx : Nat) (W : World), W.heap[Bx]? = some (.cells (cx x) T (0, 0)) → I pre W → pre.length < zs.length → (∀ y ∈ pre, y ∈ zs) → x ∈ zs →
      body.wpIn (Fence.wide.inRound l) 7 P (fun e _ W' => e = .normal ∧ Turn D w.heap.size W W' ∧ I (pre ++ [x]) W') (a₁ x Bx) W)
    (hdone : ∀ (Db : Nat) (W : World), w.heap.size ≤ Db → I zs W → W.heap[Db]? = some (.deferred (some [])) → Q .normal { a with defers := { target := .collected Db, args := #[] } :: a.defers } W) :
    (Code.rangeFunc g ps assign body).wpIn Fence.wide 9 P Q a w := by
  refine wpIn_rangeFunc_ownH (α := {x // x ∈ zs}) rfl (by omega) hg trivial eg hseq keep_t keep_b (Below.refl _ _) (fun _ => by simp [hps])
    (fun pre W => I (pre.map Subtype.val) W) (fun _ _ _ => False) (ownFrom_abd (fun pre => hI _)) (fun _ => fun _ _ _ _ h _ _ => h) h0
    (fun x a' W => ∃ Bx, W.heap[Bx]? = some (.cells (cx x.1) T (0, 0)) ∧ a' = a₁ x.1 Bx) ?_ ?_ ?_ ?_ ?_
  · rintro x a' _ W W' row ⟨Bx, h1, h2⟩ hg hr
    exact ⟨Bx, (Chg.grown hg).heap h1 (fun e => NonC.not h1 (hr _ e.symm).2), h2⟩
  · intro l pre x W K hi hK
    refine hassign l x.1 W K (hK _ _ ?_ (Keep.of_chg (Chg.alloc (fun _ => False) W _) (fun _ _ h => h)) (hI _ (fun _ => False) _ _ (Chg.alloc _ W _) (fun _ h => h.elim) hi) ⟨_, heap_alloc_new W _, rfl⟩)
    exact (Turn.keeps (D := fun _ => False) ⟨_, Chg.alloc (fun _ => False) W _, fun _ h => h.elim⟩).1
  · rintro l pre x a' W hl hr hi ⟨Bx, h1, rfl⟩ hlen
    refine wpIn_mono (hbody l _ x.1 Bx W h1 hi (by simpa using hlen) (fun y hy => ?_) x.2) ?_
    · obtain ⟨z, _, rfl⟩ := List.mem_map.1 hy
      exact z.2
    · rintro e a' W' ⟨rfl, ht, hi'⟩
      exact ⟨ht.keeps.1, ht.keeps.2, by simpa using hi'⟩
  · intro Db xs W hD hxs hi hd
    subst hxs
    exact hdone Db W hD (by simpa using hi) hd
  · intro Db c pre W _ _ h
    exact h.elim

set_option maxHeartbeats 4000000 in
theorem lay_parent (W : World) (v : Value) (c : List UInt8) (x : Int) (hr : Rd W v c.length (u8s c)) (hm : c.length + 8 ≤ 140737488351232) :
    Calls Tryd.prog 37 #[v, .int .i64 x] W fun e W' => ∃ ao cap, e = .returned (.slice ao (c ++ num8 x).length cap) ∧ W'.ownsRow W.heap.size 5 1 (.slice ao (c ++ num8 x).length cap) (c ++ num8 x).length (u8s (c ++ num8 x)) ∧ Below W.heap.size W W' := by
  obtain ⟨av, cv, rfl, -, -⟩ := hr.shape
  have HR := hide hr
  obtain ⟨zs, hzs⟩ : ∃ zs, zs = c ++ num8 x := ⟨_, rfl⟩
  rw [← hzs]
  have hz' : zs = c ++ nums [x] := by rw [hzs]; simp [nums]
  have HZ := hide hz'
  clear hr hzs hz'
  go_enter Tryd.func37, Tryd.ntmps37
  go_wp2_with fail
  have h4 := Rd_lit W #[.int .i64 x] 3 1
  refine (code_Num _ _ _ c [x] zs HZ.out (HR.out.chg (Chg.alloc (fun _ => False) W _) (fun _ _ _ h => h)) h4 (by simp; omega)).mono ?_
  clear h4
  rintro e w2 ⟨ao2, cap2, rfl, ho2, hb2⟩
  have HO2 := hide ho2
  have HB2 := hide hb2
  clear ho2 hb2
  go_wp2_with fail
  go_ret
  refine ⟨ao2, cap2, rfl, ownsRow_base HO2.out (fun k hk => ?_), ((Below.refl _ W).alloc (Nat.le_refl _) _).trans (HB2.out.mono (by simp))⟩
  have := (ownsRow_lt HO2.out k hk).1
  simp only [World.size_alloc] at this
  omega
set_option maxHeartbeats 4000000 in
theorem lay_file (W : World) (v : Value) (c : List UInt8) (x : Fl) (hr : Rd W v c.length (u8s c)) (hx : x.path.size ≤ 1000 ∧ x.data.size ≤ 1000) (hm : c.length + 4000 ≤ 140737488351232) :
    Calls Tryd.prog 38 #[v, flV x] W fun e W' => ∃ ao cap, e = .returned (.slice ao (c ++ flB x).length cap) ∧ W'.ownsRow W.heap.size 5 1 (.slice ao (c ++ flB x).length cap) (c ++ flB x).length (u8s (c ++ flB x)) ∧ Below W.heap.size W W' := by
  obtain ⟨av, cv, rfl, -, -⟩ := hr.shape
  have HR := hide hr
  obtain ⟨zs, hzs⟩ : ∃ zs, zs = c ++ flB x := ⟨_, rfl⟩
  rw [← hzs]
  have hz' : zs = c ++ txts [x.path, x.data] := by rw [hzs]; rfl
  have HZ := hide hz'
  unfold flV
  clear hr hzs hz'
  go_enter Tryd.func38, Tryd.ntmps38
  go_wp2_with fail
  have h3 := (HR.out.chg (Chg.alloc (fun _ => False) W (.cells #[.string x.path, .string x.data] 68)) (fun _ _ _ h => h))
  have h4 := Rd_lit (W.alloc (.cells #[.string x.path, .string x.data] 68)) #[.string x.path, .string x.data] 9 2
  rw [World.size_alloc] at h4
  refine (code_Text _ _ _ c [x.path, x.data] zs HZ.out (h3.chg (Chg.alloc (fun _ => False) _ _) (fun _ _ _ h => h)) h4 1000 (fun t ht => by simp at ht; rcases ht with rfl | rfl <;> omega) (by simp; omega) (by simp)).mono ?_
  clear h3 h4
  rintro e w2 ⟨ao2, cap2, rfl, ho2, hb2⟩
  have HO2 := hide ho2
  have HB2 := hide hb2
  clear ho2 hb2
  go_wp2_with fail
  go_ret
  refine ⟨ao2, cap2, rfl, ownsRow_base HO2.out (fun k hk => ?_), (((Below.refl _ W).alloc (Nat.le_refl _) _).alloc (by simp) _).trans (HB2.out.mono (by simp; omega))⟩
  have := (ownsRow_lt HO2.out k hk).1
  simp only [World.size_alloc] at this
  omega

set_option maxHeartbeats 4000000 in
set_option maxRecDepth 100000 in
/-- code.List at this type, with this function to lay one. -/
theorem code_List_I {τ : Type} (enc : τ → Value) (f : τ → List UInt8) (w : World) (vb vn : Value) (b : List UInt8) (xs : List τ) (zs : List UInt8) (hzs : zs = b ++ (num8 (xs.length : Int) ++ xs.flatMap f)) (hb : Rd w vb b.length (u8s b)) (hn : Rd w vn xs.length (xs.map enc)) (h1 : ∀ x ∈ xs, (enc x).oneCell' = true)
    (M : Nat) (hM : ∀ x ∈ xs, (f x).length ≤ M) (hm : b.length + 8 + xs.length * M ≤ 140737488351232) (hm1 : 8 * xs.length ≤ 140737488351232)
    (hlay : ∀ (W : World) (v : Value) (c : List UInt8) (x : τ), Below w.heap.size w W → x ∈ xs → Rd W v c.length (u8s c) → c.length + M ≤ 140737488351232 →
      Calls Tryd.prog 37 #[v, enc x] W fun e W' => ∃ ao cap, e = .returned (.slice ao (c ++ f x).length cap) ∧ W'.ownsRow W.heap.size 5 1 (.slice ao (c ++ f x).length cap) (c ++ f x).length (u8s (c ++ f x)) ∧ Below W.heap.size W W') :
    Calls Tryd.prog 36 #[vb, vn, .func (.func 37) #[] #[]] w fun e w' => ∃ ao cap, e = .returned (.slice ao zs.length cap) ∧ w'.ownsRow w.heap.size 5 1 (.slice ao zs.length cap) zs.length (u8s zs) ∧ Below w.heap.size w w' := by
  obtain ⟨ab, cb, rfl, -, -⟩ := hb.shape
  obtain ⟨an, cn, rfl, -, -⟩ := hn.shape
  have HB := hide hb
  have HN := hide hn
  have HM := hide hM
  have HM2 := hide hm
  have H1 := hide h1
  have HLAY := hide hlay
  obtain ⟨b0, hb0⟩ : ∃ b0, b0 = b ++ nums [(xs.length : Int)] := ⟨_, rfl⟩
  have hzs' : zs = b0 ++ xs.flatMap f := by rw [hb0, hzs]; simp [nums]
  have hl0 : b0.length = b.length + 8 := by rw [hb0]; simp [nums, num8_length]
  have HB0 := hide hb0
  have HZS := hide hzs'
  have HL0 := hide hl0
  have hbm : b.length + 8 ≤ 140737488351232 := by omega
  clear hb hn hM hm hzs hzs' hlay h1 hb0 hl0
  refine (callsIn_wide (n := 9)).1 ?_
  refine callsIn_of_wp_marks Tryd.func36 rfl trivial ?_ rfl
  simp only [Tryd.ntmps36, List.size_toArray, List.length_cons, List.length_nil, Nat.reduceAdd, Nat.reduceSub, Array.replicate_succ, Array.replicate_zero, List.push_toArray, List.append_toArray, List.nil_append, List.cons_append]
  gi_wp2_with (first
    | (refine ⟨trivial, ?_⟩; gi_at_call 33; have h4 := Rd_lit (w.alloc (.cells #[.func (.func 37) #[] #[]] 70)) #[.int .i64 xs.length] 3 1; rw [World.size_alloc] at h4; have h5 := code_Num _ _ _ b [(xs.length : Int)] b0 HB0.out ((HB.out.chg (Chg.alloc (fun _ => False) w _) (fun _ _ _ h => h)).chg (Chg.alloc (fun _ => False) (w.alloc (.cells #[.func (.func 37) #[] #[]] 70)) (.cells #[.int .i64 xs.length] 3)) (fun _ _ _ h => h)) h4 (by simp; omega); refine (callsIn_wide.2 h5).mono ?_; clear h4 h5; rintro e w1 ⟨ao1, cap1, rfl, ho1, hb1⟩; have HO1 := hide ho1; have HB1 := hide hb1; clear ho1 hb1)
    | (refine ⟨trivial, ?_⟩; gi_at_call 66; refine (callsIn_wide.2 (seqI_of _ _ xs.length (xs.map enc) (by exact (((HN.out.chg (Chg.alloc (fun _ => False) w _) (fun _ _ _ h => h)).chg (Chg.alloc (fun _ => False) _ _) (fun _ _ _ h => h)).chg (Chg.of_below0 (S := fun _ => False) HB1.out) (fun _ _ _ h => h)).chg (Chg.alloc (fun _ => False) w1 _) (fun _ _ _ h => h)) (by simp) (by intro u hu; obtain ⟨x, hx, rfl⟩ := List.mem_map.1 hu; exact H1.out x hx) (by omega))).mono ?_; rintro e w2 ⟨B, rfl, hs2, hb2⟩; have HS2 := hide hs2; have HB2 := hide hb2; clear hs2 hb2))
  have hz1 := HB1.out.size
  have hz2 := HB2.out.size
  simp only [World.size_alloc] at hz1 hz2
  have hbw1 : Below w.heap.size w w1 := (((Below.refl _ w).alloc (Nat.le_refl _) _).alloc (by simp) _).trans (HB1.out.mono (by simp; omega))
  have hfv : w2.heap[w.heap.size]? = some (.cells #[.func (.func 37) #[] #[]] 70 (0, 0)) :=
    (Chg.of_below0 (S := fun _ => False) HB2.out).heap ((Chg.alloc (fun _ => False) w1 _).heap ((Chg.of_below0 (S := fun _ => False) HB1.out).heap ((Chg.alloc (fun _ => False) _ _).heap (heap_alloc_new w _) (fun h => h)) (fun h => h)) (fun h => h)) (fun h => h)
  have h0 : OutAt w.heap.size w1.heap.size (w1.heap.size + 1) w2.heap.size w w2 (b0 ++ ([] : List τ).flatMap f) := by
    refine ⟨ao1, cap1, ?_, ?_, ?_, Nat.le_refl _, ?_⟩
    · simpa using (Chg.of_below0 (S := fun _ => False) HB2.out).heap (heap_alloc_new w1 _) (fun h => h)
    · refine ownsRow_base (base := (((w.alloc (.cells #[.func (.func 37) #[] #[]] 70)).alloc (.cells #[.int .i64 xs.length] 3)).heap.size)) ?_ (fun k hk => ?_)
      · simpa using (Chg.of_below0 (S := fun _ => False) HB2.out).owns ((Chg.alloc (fun _ => False) w1 _).owns HO1.out (fun _ _ h => h)) (fun _ _ h => h)
      · have := (ownsRow_lt HO1.out k (by simpa using hk)).1
        simp only [World.size_alloc] at this
        omega
    · intro k hk
      have := (ownsRow_lt HO1.out k (by simpa using hk)).2
      omega
    · exact (hbw1.alloc hbw1.size _).trans (HB2.out.mono (by have := hbw1.size; simp; omega))
  have H0 := hide h0
  have HFV := hide hfv
  have HBW1 := hide hbw1
  have HZ1 := hide hz1
  have HZ2 := hide hz2
  clear h0 hfv hbw1 hz1 hz2
  refine wpIn_range xs enc (fun k => w1.heap.size + 1 ≤ k ∧ k < w2.heap.size) rfl (enters_of Tryd.func95 (by kernel_rfl) rfl)
    (seqI_stops enc (w1.heap.size + 1) w2.heap.size B xs H1.out (by omega) w2 (Nat.le_refl _) (by have h := HS2.out; rw [World.size_alloc] at h; exact h)) rfl
    (fun pre W => ((b0 ++ pre.flatMap f).length ≤ b0.length + pre.length * M ∧ W.heap[w.heap.size]? = some (.cells #[.func (.func 37) #[] #[]] 70 (0, 0))) ∧ OutAt w.heap.size w1.heap.size (w1.heap.size + 1) w2.heap.size w W (b0 ++ pre.flatMap f))
    (fun pre S W W' c hS h => ⟨⟨h.1.1, c.heap h.1.2 (fun hs => NonC.not h.1.2 (hS _ hs).2)⟩, OutAt.abd (Nat.le_trans HBW1.out.size (by have := HZ2.out; omega)) (Nat.le_refl _) _ S W W' c hS h.2⟩) ⟨⟨by simp, HFV.out⟩, H0.out⟩
    (fun x => { tmps := #[.slice ab b.length cb, .slice an xs.length cn, .func (.func 37) #[] #[], undef, undef, .pointer (some ⟨w.heap.size, 0, none⟩), .slice none 0 0, .pointer (some ⟨w1.heap.size, 0, none⟩), enc x, .slice ab b.length cb, .slice an xs.length cn, .int .i64 xs.length, .slice (some ⟨w.heap.size + 1, 0, none⟩) 1 1, .slice ao1 b0.length cap1, .slice an xs.length cn, .func (.func 95) #[] #[.pointer (some ⟨B, 0, none⟩)], enc x, undef, undef, undef, undef, undef, undef, undef], defers := [] }) ?assign ?body ?done
  case assign =>
    intro l x W K hK
    gi_wp2
    exact hK
  case body =>
    rintro l pre x W ⟨⟨hpl, hfv⟩, hI⟩ hlen hpre hx
    obtain ⟨ys, hys⟩ : ∃ ys, ys = b0 ++ pre.flatMap f := ⟨_, rfl⟩
    have hxM := HM.out x hx
    have hmul : (pre.length + 1) * M ≤ xs.length * M := Nat.mul_le_mul_right _ hlen
    rw [Nat.add_mul, Nat.one_mul] at hmul
    have hyl : ys.length + M ≤ 140737488351232 := by have := HM2.out; have := HL0.out; rw [hys]; omega
    obtain ⟨us, hus⟩ : ∃ us, us = ys ++ f x := ⟨_, rfl⟩
    have hxe : b0 ++ (pre ++ [x]).flatMap f = us := by rw [hus, hys]; simp
    have hgoal : us.length ≤ b0.length + (pre ++ [x]).length * M := by
      rw [hus, List.length_append, hys]
      simp only [List.length_append, List.length_cons, List.length_nil, Nat.zero_add, Nat.add_mul, Nat.one_mul] at hpl ⊢
      omega
    rw [hxe]
    rw [← hys] at hI
    obtain ⟨ao, cap, g1, g2, g3, hsz, g4⟩ := hI
    have hcall := HLAY.out W _ ys x g4 hx (Rd.of_owns g2) hyl
    rw [← hus] at hcall
    have HCALL := hide hcall
    have HSZ := hide hsz
    have hc := cell_of_heap g1 0
    have hcf := cell_of_heap hfv 0
    have HFW := hide hfv
    have G1 := hide g1
    have G2 := hide g2
    have G3 := hide g3
    have G4 := hide g4
    have HGOAL := hide hgoal
    have hnn : ∀ w', Sem.run Tryd.prog (binOp BinOp.neq 70 (.func (.func 37) #[] #[]) .nilFunc) w' = .ok (.bool true) w' := by intro w'; kernel_rfl
    clear g1 g2 g3 g4 hsz hus hxe hys hyl hpl hmul hpre hx hlen hxM hgoal hcall hfv
    gi_wp2_with (first
      | (refine ⟨trivial, ?_⟩; gi_at_call 37; refine (CallsIn.inRound l (callsIn_wide.2 HCALL.out)).mono ?_; rintro e w3 ⟨ao3, cap3, rfl, ho3, hb3⟩; have HO3 := hide ho3; have HB3 := hide hb3; have hb4 := (Chg.of_below0 (S := fun _ => False) hb3).heap G1.out (fun h => h); have hc3 := cell_of_heap hb4 0; have hf3 := free_of_heap hb4 0; have HB4 := hide hb4; clear ho3 hb3 hb4 hc))
    have hz1 := HB3.out.size
    refine ⟨?_, ⟨?_, ?_⟩, ?_⟩
    · refine Rnd.turn (((Rnd.refl _ W).same (Chg.of_below0 HB3.out)).step (Chg.setCell w3 _ _) (fun j hj => ?_)) _
      subst hj
      exact ⟨fun hd => by have h1 : w1.heap.size + 1 ≤ w1.heap.size := hd.1; omega, NonC.not HB4.out⟩
    · simpa using HGOAL.out
    · refine (Chg.setCell w3 _ _).heap ((Chg.of_below0 (S := fun _ => False) HB3.out).heap HFW.out (fun h => h)) (fun h => ?_)
      have h5 : w.heap.size = w1.heap.size := h
      have := HZ1.out
      omega
    · refine ⟨ao3, cap3, heap_setCell_same HB4.out _, ?_, ?_, by have := HSZ.out; simp; omega, ?_⟩
      · refine ownsRow_base ((Chg.setCell w3 _ _).owns HO3.out (fun j hj e => by subst e; exact ownsRow_ne HO3.out HB4.out (by decide) hj)) (fun j hj => ?_)
        have h5 := (ownsRow_lt HO3.out j hj).1
        have := G4.out.size
        omega
      · intro j hj
        have h5 := (ownsRow_lt HO3.out j hj).1
        have := HSZ.out
        omega
      · exact (G4.out.trans (HB3.out.mono G4.out.size)).setCell (by exact HBW1.out.size) _
  case done =>
    rintro Db W hD ⟨-, hI⟩ hd
    rw [← HZS.out] at hI
    obtain ⟨ao, cap, g1, g2, g3, g5, g4⟩ := hI
    have hc := cell_of_heap g1 0
    have G2 := hide g2
    have G4 := hide g4
    clear g1 g2 g3 g4
    gi_wp2
    have hp : Chg (fun k => some k = some Db) W (W.putObj Db (.deferred none)) := Chg.grown (grownBy_putObj' W Db _)
    refine ⟨by simp, .inl ⟨_, _, rfl, run_takeDeferred hd, ?_⟩⟩
    refine ⟨_, results_tmp rfl _ _ _, ao, cap, rfl, hp.owns G2.out (fun k hk e => ?_), G4.out.trans (hp.below G4.out.size (fun k hk e => ?_))⟩
    · cases e
      exact NonC.not_owns G2.out hk ⟨_, hd, rfl⟩
    · cases e
      have := HBW1.out.size
      have := HZ2.out
      omega
set_option maxHeartbeats 4000000 in
set_option maxRecDepth 100000 in
/-- code.List at this type, with this function to lay one. -/
theorem code_List_F (f : Fl → List UInt8) (w : World) (vb vn : Value) (b : List UInt8) (xs : List Fl) (zs : List UInt8) (hzs : zs = b ++ (num8 (xs.length : Int) ++ xs.flatMap f)) (hb : Rd w vb b.length (u8s b)) (hn : Rd w vn xs.length (flat fl_enc xs))
    (M : Nat) (hM : ∀ x ∈ xs, (f x).length ≤ M) (hm : b.length + 8 + xs.length * M ≤ 140737488351232) (hm1 : 32 * xs.length ≤ 140737488351232)
    (hlay : ∀ (W : World) (v : Value) (c : List UInt8) (x : Fl), Below w.heap.size w W → x ∈ xs → Rd W v c.length (u8s c) → c.length + M ≤ 140737488351232 →
      Calls Tryd.prog 38 #[v, flV x] W fun e W' => ∃ ao cap, e = .returned (.slice ao (c ++ f x).length cap) ∧ W'.ownsRow W.heap.size 5 1 (.slice ao (c ++ f x).length cap) (c ++ f x).length (u8s (c ++ f x)) ∧ Below W.heap.size W W') :
    Calls Tryd.prog 35 #[vb, vn, .func (.func 38) #[] #[]] w fun e w' => ∃ ao cap, e = .returned (.slice ao zs.length cap) ∧ w'.ownsRow w.heap.size 5 1 (.slice ao zs.length cap) zs.length (u8s zs) ∧ Below w.heap.size w w' := by
  obtain ⟨ab, cb, rfl, -, -⟩ := hb.shape
  obtain ⟨an, cn, rfl, -, -⟩ := hn.shape
  have HB := hide hb
  have HN := hide hn
  have HM := hide hM
  have HM2 := hide hm
  have HLAY := hide hlay
  obtain ⟨b0, hb0⟩ : ∃ b0, b0 = b ++ nums [(xs.length : Int)] := ⟨_, rfl⟩
  have hzs' : zs = b0 ++ xs.flatMap f := by rw [hb0, hzs]; simp [nums]
  have hl0 : b0.length = b.length + 8 := by rw [hb0]; simp [nums, num8_length]
  have HB0 := hide hb0
  have HZS := hide hzs'
  have HL0 := hide hl0
  have hbm : b.length + 8 ≤ 140737488351232 := by omega
  clear hb hn hM hm hzs hzs' hlay hb0 hl0
  refine (callsIn_wide (n := 9)).1 ?_
  refine callsIn_of_wp_marks Tryd.func35 rfl trivial ?_ rfl
  simp only [Tryd.ntmps35, List.size_toArray, List.length_cons, List.length_nil, Nat.reduceAdd, Nat.reduceSub, Array.replicate_succ, Array.replicate_zero, List.push_toArray, List.append_toArray, List.nil_append, List.cons_append]
  gi_wp2_with (first
    | (refine ⟨trivial, ?_⟩; gi_at_call 33; have h4 := Rd_lit (w.alloc (.cells #[.func (.func 38) #[] #[]] 71)) #[.int .i64 xs.length] 3 1; rw [World.size_alloc] at h4; have h5 := code_Num _ _ _ b [(xs.length : Int)] b0 HB0.out ((HB.out.chg (Chg.alloc (fun _ => False) w _) (fun _ _ _ h => h)).chg (Chg.alloc (fun _ => False) (w.alloc (.cells #[.func (.func 38) #[] #[]] 71)) (.cells #[.int .i64 xs.length] 3)) (fun _ _ _ h => h)) h4 (by simp; omega); refine (callsIn_wide.2 h5).mono ?_; clear h4 h5; rintro e w1 ⟨ao1, cap1, rfl, ho1, hb1⟩; have HO1 := hide ho1; have HB1 := hide hb1; clear ho1 hb1)
    | (refine ⟨trivial, ?_⟩; gi_at_call 67; refine (callsIn_wide.2 (seqF_of _ _ xs (by exact (((HN.out.chg (Chg.alloc (fun _ => False) w _) (fun _ _ _ h => h)).chg (Chg.alloc (fun _ => False) _ _) (fun _ _ _ h => h)).chg (Chg.of_below0 (S := fun _ => False) HB1.out) (fun _ _ _ h => h)).chg (Chg.alloc (fun _ => False) w1 _) (fun _ _ _ h => h)) (by omega))).mono ?_; rintro e w2 ⟨B, rfl, hs2, hb2⟩; have HS2 := hide hs2; have HB2 := hide hb2; clear hs2 hb2))
  have hz1 := HB1.out.size
  have hz2 := HB2.out.size
  simp only [World.size_alloc] at hz1 hz2
  have hbw1 : Below w.heap.size w w1 := (((Below.refl _ w).alloc (Nat.le_refl _) _).alloc (by simp) _).trans (HB1.out.mono (by simp; omega))
  have hfv : w2.heap[w.heap.size]? = some (.cells #[.func (.func 38) #[] #[]] 71 (0, 0)) :=
    (Chg.of_below0 (S := fun _ => False) HB2.out).heap ((Chg.alloc (fun _ => False) w1 _).heap ((Chg.of_below0 (S := fun _ => False) HB1.out).heap ((Chg.alloc (fun _ => False) _ _).heap (heap_alloc_new w _) (fun h => h)) (fun h => h)) (fun h => h)) (fun h => h)
  have h0 : OutAt w.heap.size w1.heap.size (w1.heap.size + 1) w2.heap.size w w2 (b0 ++ ([] : List Fl).flatMap f) := by
    refine ⟨ao1, cap1, ?_, ?_, ?_, Nat.le_refl _, ?_⟩
    · simpa using (Chg.of_below0 (S := fun _ => False) HB2.out).heap (heap_alloc_new w1 _) (fun h => h)
    · refine ownsRow_base (base := (((w.alloc (.cells #[.func (.func 38) #[] #[]] 71)).alloc (.cells #[.int .i64 xs.length] 3)).heap.size)) ?_ (fun k hk => ?_)
      · simpa using (Chg.of_below0 (S := fun _ => False) HB2.out).owns ((Chg.alloc (fun _ => False) w1 _).owns HO1.out (fun _ _ h => h)) (fun _ _ h => h)
      · have := (ownsRow_lt HO1.out k (by simpa using hk)).1
        simp only [World.size_alloc] at this
        omega
    · intro k hk
      have := (ownsRow_lt HO1.out k (by simpa using hk)).2
      omega
    · exact (hbw1.alloc hbw1.size _).trans (HB2.out.mono (by have := hbw1.size; simp; omega))
  have H0 := hide h0
  have HFV := hide hfv
  have HBW1 := hide hbw1
  have HZ1 := hide hz1
  have HZ2 := hide hz2
  clear h0 hfv hbw1 hz1 hz2
  refine wpIn_range_al xs flV (fun k => w1.heap.size + 1 ≤ k ∧ k < w2.heap.size) rfl (enters_of Tryd.func96 (by kernel_rfl) rfl)
    (seqF_stops (w1.heap.size + 1) w2.heap.size B xs (by omega) w2 (Nat.le_refl _) (by have h := HS2.out; rw [World.size_alloc] at h; exact h)) rfl
    (fun pre W => ((b0 ++ pre.flatMap f).length ≤ b0.length + pre.length * M ∧ W.heap[w.heap.size]? = some (.cells #[.func (.func 38) #[] #[]] 71 (0, 0))) ∧ OutAt w.heap.size w1.heap.size (w1.heap.size + 1) w2.heap.size w W (b0 ++ pre.flatMap f))
    (fun pre S W W' c hS h => ⟨⟨h.1.1, c.heap h.1.2 (fun hs => NonC.not h.1.2 (hS _ hs).2)⟩, OutAt.abd (Nat.le_trans HBW1.out.size (by have := HZ2.out; omega)) (Nat.le_refl _) _ S W W' c hS h.2⟩) ⟨⟨by simp, HFV.out⟩, H0.out⟩
    (fun x => #[.string x.path, .string x.data]) 68 (fun x Bx => { tmps := #[.slice ab b.length cb, .slice an xs.length cn, .func (.func 38) #[] #[], undef, undef, .pointer (some ⟨w.heap.size, 0, none⟩), .slice none 0 0, .pointer (some ⟨w1.heap.size, 0, none⟩), .pointer (some ⟨Bx, 0, none⟩), .slice ab b.length cb, .slice an xs.length cn, .int .i64 xs.length, .slice (some ⟨w.heap.size + 1, 0, none⟩) 1 1, .slice ao1 b0.length cap1, .slice an xs.length cn, .func (.func 96) #[] #[.pointer (some ⟨B, 0, none⟩)], flV x, undef, undef, undef, undef, undef, undef, undef], defers := [] }) ?assign ?body ?done
  case assign =>
    intro l x W K hK
    simp only [flV]
    gi_wp2
    exact hK
  case body =>
    rintro l pre x Bx W hbx ⟨⟨hpl, hfv⟩, hI⟩ hlen hpre hx
    have hx0 := cell_of_heap hbx 0
    have hx1 := cell_of_heap hbx 1
    obtain ⟨ys, hys⟩ : ∃ ys, ys = b0 ++ pre.flatMap f := ⟨_, rfl⟩
    have hxM := HM.out x hx
    have hmul : (pre.length + 1) * M ≤ xs.length * M := Nat.mul_le_mul_right _ hlen
    rw [Nat.add_mul, Nat.one_mul] at hmul
    have hyl : ys.length + M ≤ 140737488351232 := by have := HM2.out; have := HL0.out; rw [hys]; omega
    obtain ⟨us, hus⟩ : ∃ us, us = ys ++ f x := ⟨_, rfl⟩
    have hxe : b0 ++ (pre ++ [x]).flatMap f = us := by rw [hus, hys]; simp
    have hgoal : us.length ≤ b0.length + (pre ++ [x]).length * M := by
      rw [hus, List.length_append, hys]
      simp only [List.length_append, List.length_cons, List.length_nil, Nat.zero_add, Nat.add_mul, Nat.one_mul] at hpl ⊢
      omega
    rw [hxe]
    rw [← hys] at hI
    obtain ⟨ao, cap, g1, g2, g3, hsz, g4⟩ := hI
    have hcall := HLAY.out W _ ys x g4 hx (Rd.of_owns g2) hyl
    rw [← hus] at hcall
    have HCALL := hide hcall
    have HSZ := hide hsz
    have hc := cell_of_heap g1 0
    have hcf := cell_of_heap hfv 0
    have HFW := hide hfv
    have G1 := hide g1
    have G2 := hide g2
    have G3 := hide g3
    have G4 := hide g4
    have HGOAL := hide hgoal
    have hnn : ∀ w', Sem.run Tryd.prog (binOp BinOp.neq 71 (.func (.func 38) #[] #[]) .nilFunc) w' = .ok (.bool true) w' := by intro w'; kernel_rfl
    clear g1 g2 g3 g4 hsz hus hxe hys hyl hpl hmul hpre hx hlen hxM hgoal hcall hfv
    gi_wp2_with (first
      | (refine ⟨trivial, ?_⟩; gi_at_call 38; refine (CallsIn.inRound l (callsIn_wide.2 HCALL.out)).mono ?_; rintro e w3 ⟨ao3, cap3, rfl, ho3, hb3⟩; have HO3 := hide ho3; have HB3 := hide hb3; have hb4 := (Chg.of_below0 (S := fun _ => False) hb3).heap G1.out (fun h => h); have hc3 := cell_of_heap hb4 0; have hf3 := free_of_heap hb4 0; have HB4 := hide hb4; clear ho3 hb3 hb4 hc))
    have hz1 := HB3.out.size
    refine ⟨?_, ⟨?_, ?_⟩, ?_⟩
    · refine Rnd.turn (((Rnd.refl _ W).same (Chg.of_below0 HB3.out)).step (Chg.setCell w3 _ _) (fun j hj => ?_)) _
      subst hj
      exact ⟨fun hd => by have h1 : w1.heap.size + 1 ≤ w1.heap.size := hd.1; omega, NonC.not HB4.out⟩
    · simpa using HGOAL.out
    · refine (Chg.setCell w3 _ _).heap ((Chg.of_below0 (S := fun _ => False) HB3.out).heap HFW.out (fun h => h)) (fun h => ?_)
      have h5 : w.heap.size = w1.heap.size := h
      have := HZ1.out
      omega
    · refine ⟨ao3, cap3, heap_setCell_same HB4.out _, ?_, ?_, by have := HSZ.out; simp; omega, ?_⟩
      · refine ownsRow_base ((Chg.setCell w3 _ _).owns HO3.out (fun j hj e => by subst e; exact ownsRow_ne HO3.out HB4.out (by decide) hj)) (fun j hj => ?_)
        have h5 := (ownsRow_lt HO3.out j hj).1
        have := G4.out.size
        omega
      · intro j hj
        have h5 := (ownsRow_lt HO3.out j hj).1
        have := HSZ.out
        omega
      · exact (G4.out.trans (HB3.out.mono G4.out.size)).setCell (by exact HBW1.out.size) _
  case done =>
    rintro Db W hD ⟨-, hI⟩ hd
    rw [← HZS.out] at hI
    obtain ⟨ao, cap, g1, g2, g3, g5, g4⟩ := hI
    have hc := cell_of_heap g1 0
    have G2 := hide g2
    have G4 := hide g4
    clear g1 g2 g3 g4
    gi_wp2
    have hp : Chg (fun k => some k = some Db) W (W.putObj Db (.deferred none)) := Chg.grown (grownBy_putObj' W Db _)
    refine ⟨by simp, .inl ⟨_, _, rfl, run_takeDeferred hd, ?_⟩⟩
    refine ⟨_, results_tmp rfl _ _ _, ao, cap, rfl, hp.owns G2.out (fun k hk e => ?_), G4.out.trans (hp.below G4.out.size (fun k hk e => ?_))⟩
    · cases e
      exact NonC.not_owns G2.out hk ⟨_, hd, rfl⟩
    · cases e
      have := HBW1.out.size
      have := HZ2.out
      omega
end Go.Proofs.YtjmmmpnpkialjaaDoor
