/- code.Num, code.Text: what each call lays. Conditions: the slices read as said. -/
import Derived.Test.YtjmmmpnpkialjaaDoorSeqA
import Derived.Test.YtjmmmpnpkialjaaDoorBytes
namespace Go.Proofs.YtjmmmpnpkialjaaDoor
open Go.RowKit Go.Shelf
attribute [local go_sem] Oper.semAt_some

/-- The byte i of a number's eight. -/
def numByte (n : Int) (i : Nat) : UInt8 := UInt8.ofNat ((IntKind.u64.wrap n / 2 ^ (8 * (7 - i)) % 256).toNat)
theorem numByte_val (n : Int) (i : Nat) : IntKind.u64.wrap n / 2 ^ (8 * (7 - i)) % 256 = ((numByte n i).toNat : Int) := by
  have h1 := Int.emod_nonneg (IntKind.u64.wrap n / 2 ^ (8 * (7 - i))) (b := 256) (by decide)
  have h2 := Int.emod_lt_of_pos (IntKind.u64.wrap n / 2 ^ (8 * (7 - i))) (b := 256) (by decide)
  simp only [numByte, UInt8.toNat_ofNat']
  omega
def num8 (n : Int) : List UInt8 := (List.range 8).map (numByte n)
def nums (ns : List Int) : List UInt8 := ns.flatMap num8
theorem num8_length (n : Int) : (num8 n).length = 8 := by simp [num8]
theorem nums_length (ns : List Int) : (nums ns).length = 8 * ns.length := by
  induction ns with
  | nil => rfl
  | cons n ns ih => simp [nums, num8_length] at ih ⊢; omega
theorem nums_snoc (ns : List Int) (n : Int) : nums (ns ++ [n]) = nums ns ++ num8 n := by simp [nums]

/-- The boxed slice of bytes 'out': its box at bo, its row. -/
def OutAt (base bo n0 n1 : Nat) (w W : World) (xs : List UInt8) : Prop :=
  ∃ ao cap, W.heap[bo]? = some (.cells #[.slice ao xs.length cap] 30 (0, 0)) ∧ W.ownsRow base 5 1 (.slice ao xs.length cap) xs.length (u8s xs) ∧
    (∀ k, (Value.slice ao xs.length cap).ownBlock = some k → k < n0 ∨ n1 ≤ k) ∧ n1 ≤ W.heap.size ∧ Below base w W
theorem OutAt.abd {base bo n0 n1 B : Nat} {w : World} (hb : base ≤ B) (hw : base ≤ w.heap.size) (xs : List UInt8) : Abd B (fun W => OutAt base bo n0 n1 w W xs) := by
  rintro S W W' c hS ⟨ao, cap, h1, h2, h3, h5, h4⟩
  have hn : ∀ k, S k → NonC W k := fun k hk => (hS k hk).2
  exact ⟨ao, cap, c.heap h1 (fun h => NonC.not h1 (hn _ h)), c.owns h2 (fun k hk h => NonC.not_owns h2 hk (hn _ h)), h3, Nat.le_trans h5 c.size,
    h4.trans (c.below (Nat.le_trans hw h4.size) (fun k hk h => by have := (hS k h).1; omega))⟩

set_option maxHeartbeats 4000000 in
set_option maxRecDepth 100000 in
theorem code_Num (w : World) (vb vn : Value) (b : List UInt8) (ns : List Int) (zs : List UInt8) (hzs : zs = b ++ nums ns) (hb : Rd w vb b.length (u8s b)) (hn : Rd w vn ns.length (i64s ns)) (hm : b.length + 8 * ns.length ≤ 140737488351232) :
    Calls Tryd.prog 33 #[vb, vn] w fun e w' => ∃ ao cap, e = .returned (.slice ao zs.length cap) ∧ w'.ownsRow w.heap.size 5 1 (.slice ao zs.length cap) zs.length (u8s zs) ∧ Below w.heap.size w w' := by
  obtain ⟨ab, cb, rfl, -, -⟩ := hb.shape
  obtain ⟨an, cn, rfl, -, -⟩ := hn.shape
  have HB := hide hb
  have HN := hide hn
  have HZS := hide hzs
  clear hb hn hzs
  refine (callsIn_wide (n := 9)).1 ?_
  refine callsIn_of_wp_marks Tryd.func33 rfl trivial ?_ rfl
  simp only [Tryd.ntmps33, List.size_toArray, List.length_cons, List.length_nil, Nat.reduceAdd, Nat.reduceSub, Array.replicate_succ, Array.replicate_zero, List.push_toArray, List.append_toArray, List.nil_append, List.cons_append]
  gi_wp2_with (first
    | (refine ⟨trivial, ?_⟩; gi_at_call 65; refine (callsIn_wide.2 (Clone_u8 w _ b.length (u8s b) HB.out (u8s_len1 b) (u8s_one b) (by omega))).mono ?_; rintro e w1 ⟨ao1, cap1, rfl, ho1, hb1, -⟩; have HO1 := hide ho1; have HB1 := hide hb1; clear ho1 hb1)
    | (refine ⟨trivial, ?_⟩; gi_at_call 66; refine (callsIn_wide.2 (seqI_of _ _ ns.length (i64s ns) (by exact HN.out.chg ((Chg.of_below0 (S := fun _ => False) HB1.out).trans (Chg.alloc (fun _ => False) w1 _) (fun _ _ h => h) (fun _ _ h => h)) (fun _ _ _ h => h)) (by simp [i64s]) (by intro u hu; obtain ⟨_, _, rfl⟩ := List.mem_map.1 hu; rfl) (by omega))).mono ?_; rintro e w2 ⟨B, rfl, hs2, hb2⟩; have HS2 := hide hs2; have HB2 := hide hb2; clear hs2 hb2))
  have h0 : OutAt w.heap.size w1.heap.size (w1.heap.size + 1) w2.heap.size w w2 (b ++ nums []) := by
    have ho := hide (HO1.out)
    refine ⟨ao1, cap1, ?_, ?_, ?_, Nat.le_refl _, ?_⟩
    · simpa [nums] using (Chg.of_below0 (S := fun _ => False) HB2.out).heap (heap_alloc_new w1 _) (fun h => h)
    · simpa [nums] using (Chg.of_below0 (S := fun _ => False) HB2.out).owns ((Chg.alloc (fun _ => False) w1 _).owns HO1.out (fun _ _ h => h)) (fun _ _ h => h)
    · intro k hk
      have := (ownsRow_lt HO1.out k (by simpa [nums] using hk)).2
      omega
    · exact (HB1.out.alloc HB1.out.size _).trans (HB2.out.mono (by have := HB1.out.size; simp; omega))
  have H0 := hide h0
  clear h0
  refine wpIn_range ns (Value.int .i64) (fun k => w1.heap.size + 1 ≤ k ∧ k < w2.heap.size) rfl (enters_of Tryd.func95 (by kernel_rfl) rfl)
    (seqI_stops (Value.int .i64) (w1.heap.size + 1) w2.heap.size B ns (by intro y _; rfl) (by omega) w2 (Nat.le_refl _) (by have h := HS2.out; rw [World.size_alloc] at h; exact h)) rfl
    (fun pre W => OutAt w.heap.size w1.heap.size (w1.heap.size + 1) w2.heap.size w W (b ++ nums pre)) (fun pre => OutAt.abd (Nat.le_trans HB1.out.size (by have := HB2.out.size; simp at this; omega)) (Nat.le_refl _) _) H0.out
    (fun x => { tmps := #[.slice ab b.length cb, .slice an ns.length cn, undef, undef, .slice none 0 0, .pointer (some ⟨w1.heap.size, 0, none⟩), .int .i64 x, undef, .slice ab b.length cb, .slice ao1 b.length cap1, .slice an ns.length cn, .func (.func 95) #[] #[.pointer (some ⟨B, 0, none⟩)], .int .i64 x, undef, undef, undef, undef, undef, undef, undef, undef, undef, undef, undef, undef, undef, undef, undef, undef], defers := [] }) ?assign ?body ?done
  case assign =>
    intro l x W K hK
    gi_wp2
    exact hK
  case body =>
    intro l pre x W hI hlen hpre hx
    obtain ⟨xs, hxs⟩ : ∃ xs, xs = b ++ nums pre := ⟨_, rfl⟩
    have hxl : xs.length + 8 ≤ 140737488351232 := by rw [hxs, List.length_append, nums_length]; omega
    have hxe : b ++ nums (pre ++ [x]) = xs ++ (num8 x).take 8 := by rw [hxs, nums_snoc, List.take_of_length_le (by simp [num8_length])]; simp
    rw [← hxs] at hI
    rw [hxe]
    have HI := hide hI
    have HXL := hide hxl
    clear hI hxs hxe hxl hpre hx hlen
    gi_wp2
    gi_loopw [13] (fun i wr => ∃ k : Nat, k ≤ 8 ∧ i = .int .i64 k ∧ Hid (OutAt w.heap.size w1.heap.size (w1.heap.size + 1) w2.heap.size w wr (xs ++ (num8 x).take k)) ∧ Hid (Rnd (fun k => w1.heap.size + 1 ≤ k ∧ k < w2.heap.size) W wr)) (fun i _ => 8 - (intOf i).toNat)
    case atStart => exact ⟨0, by omega, rfl, by simpa using HI, Rnd.refl _ _⟩
    case round =>
      obtain ⟨k, hk, rfl, HO, HR⟩ := hrel
      by_cases hlt : k < 8
      · obtain ⟨ys, hys⟩ : ∃ ys, ys = xs ++ (num8 x).take k := ⟨_, rfl⟩
        have hyl : ys.length = xs.length + k := by rw [hys]; simp [num8_length]; omega
        have hye : xs ++ (num8 x).take (k + 1) = ys ++ [numByte x k] := by rw [hys, take_succ_get _ _ (by simp [num8_length]; omega)]; simp [num8]
        rw [← hys] at HO
        obtain ⟨ao, cap, g1, g2, g3, hsz, g4⟩ := HO.out
        have HSZ := hide hsz
        have hc := cell_of_heap g1 0
        have hf := free_of_heap g1 0
        have G1 := hide g1
        have G2 := hide g2
        have G3 := hide g3
        have G4 := hide g4
        have HYL := hide hyl
        have HYE := hide hye
        clear g1 g2 g3 g4 hsz HO hys hyl hye
        gi_wp2_with (gi_at_builtin; rw [numByte_val]; (refine wpi_append rfl _ _ _ rfl slU8 w.heap.size (G2.out.alloc _) (Rd_lit wr #[.int .u8 (numByte x k).toNat] _ 1) rfl rfl rfl (by simp [Value.oneCell']) (by have := HXL.out; have := HYL.out; unfold maxLen; omega) (by have := HXL.out; have := HYL.out; omega) (by have := G4.out.size; simp; omega) ?_); intro ao' cap' w3 hown hg hat _; have hne := ownsRow_ne G2.out G1.out (by decide); have hb3 := hg.heap ((Chg.alloc (fun _ => False) wr _).heap G1.out (fun h => h)) (fun h => hne h); have hc3 := cell_of_heap hb3 0; have hf3 := free_of_heap hb3 0; have HOWN := hide hown; have HG := hide hg; have HAT := hide hat; have HB3 := hide hb3; have HNE := hide hne; clear hown hg hat hb3 hne hc hf)
        go_roundw
        case rel =>
          have hz := HG.out.size
          simp only [World.size_alloc] at hz
          have hsl : (ys ++ [numByte x k]).length = ys.length + 1 := by simp
          refine ⟨k + 1, by omega, by go_num, ?_, ?_⟩
          · rw [HYE.out]
            refine ⟨ao', cap', ?_, ?_, ?_, by have := HSZ.out; simp; omega, ?_⟩
            · rw [hsl]
              exact heap_setCell_same HB3.out _
            · rw [hsl, u8s_append]
              exact (Chg.setCell w3 _ _).owns HOWN.out (fun j hj e => by subst e; exact ownsRow_ne HOWN.out HB3.out (by decide) hj)
            · rw [hsl]
              intro j hj
              rcases HAT.out with e | e
              · exact G3.out j (by rw [← e]; exact hj)
              · rw [e] at hj
                cases hj
                have := HB2.out.size
                have := HSZ.out
                simp at this ⊢
                omega
            · exact ((G4.out.alloc G4.out.size _).trans (HG.out.below (by have := G4.out.size; simp; omega) (fun j hj e => by have := (ownsRow_lt G2.out j e).1; omega))).setCell (by exact HB1.out.size) _
          · refine ((HR.out.same (Chg.alloc _ wr _)).step HG.out (fun j hj => ?_)).step (Chg.setCell w3 _ _) (fun j hj => ?_)
            · refine ⟨fun hd => ?_, NonC.not_owns (G2.out.alloc _) hj⟩
              have := G3.out j hj
              omega
            · subst hj
              exact ⟨fun hd => by have h1 : w1.heap.size + 1 ≤ w1.heap.size := hd.1; omega, NonC.not HB3.out⟩
        case measure => simp [intOf]; omega
      · obtain rfl : k = 8 := by omega
        gi_wp2
        exact ⟨HR.out.turn _, HO.out⟩
  case done =>
    intro Db W hD hI hd
    rw [← HZS.out] at hI
    obtain ⟨ao, cap, g1, g2, g3, g5, g4⟩ := hI
    have hc := cell_of_heap g1 0
    have G2 := hide g2
    have G4 := hide g4
    clear g1 g2 g3 g4
    gi_wp2
    have hp : Chg (fun k => some k = some Db) W (W.putObj Db (.deferred none)) := Chg.grown (grownBy_putObj' W Db _)
    refine ⟨by simp, .inl ⟨_, _, rfl, run_takeDeferred hd, ?_⟩⟩
    refine ⟨_, results_tmp rfl _ _ _, ao, cap, rfl, hp.owns G2.out (fun k hk e => ?_), G4.out.trans (hp.below G4.out.size (fun k hk e => ?_))⟩
    · cases e
      exact NonC.not_owns G2.out hk ⟨_, hd, rfl⟩
    · cases e
      have := HB1.out.size
      have := HB2.out.size
      simp at this
      omega

def txts (ss : List ByteArray) : List UInt8 := ss.flatMap fun s => num8 (s.size : Int) ++ sb s
theorem txts_snoc (ss : List ByteArray) (s : ByteArray) : txts (ss ++ [s]) = txts ss ++ (nums [(s.size : Int)] ++ sb s) := by simp [txts, nums]
theorem txts_length (ss : List ByteArray) : (txts ss).length = 8 * ss.length + (ss.map ByteArray.size).sum := by
  induction ss with
  | nil => rfl
  | cons s ss ih => simp [txts, num8_length, sb_length] at ih ⊢; omega

set_option maxHeartbeats 4000000 in
set_option maxRecDepth 100000 in
theorem code_Text (w : World) (vb vn : Value) (b : List UInt8) (ss : List ByteArray) (zs : List UInt8) (hzs : zs = b ++ txts ss) (hb : Rd w vb b.length (u8s b)) (hn : Rd w vn ss.length (ss.map Value.string)) (M : Nat) (hM : ∀ s ∈ ss, s.size ≤ M) (hm : b.length + ss.length * (8 + M) ≤ 140737488351232) (hm1 : 16 * ss.length ≤ 140737488351232) :
    Calls Tryd.prog 39 #[vb, vn] w fun e w' => ∃ ao cap, e = .returned (.slice ao zs.length cap) ∧ w'.ownsRow w.heap.size 5 1 (.slice ao zs.length cap) zs.length (u8s zs) ∧ Below w.heap.size w w' := by
  obtain ⟨ab, cb, rfl, -, -⟩ := hb.shape
  obtain ⟨an, cn, rfl, -, -⟩ := hn.shape
  have HB := hide hb
  have HN := hide hn
  have HM := hide hM
  have HM2 := hide hm
  have HZS := hide hzs
  have hbm : b.length ≤ 140737488351232 := by omega
  clear hb hn hM hm hzs
  refine (callsIn_wide (n := 9)).1 ?_
  refine callsIn_of_wp_marks Tryd.func39 rfl trivial ?_ rfl
  simp only [Tryd.ntmps39, List.size_toArray, List.length_cons, List.length_nil, Nat.reduceAdd, Nat.reduceSub, Array.replicate_succ, Array.replicate_zero, List.push_toArray, List.append_toArray, List.nil_append, List.cons_append]
  gi_wp2_with (first
    | (refine ⟨trivial, ?_⟩; gi_at_call 65; refine (callsIn_wide.2 (Clone_u8 w _ b.length (u8s b) HB.out (u8s_len1 b) (u8s_one b) (by omega))).mono ?_; rintro e w1 ⟨ao1, cap1, rfl, ho1, hb1, -⟩; have HO1 := hide ho1; have HB1 := hide hb1; clear ho1 hb1)
    | (refine ⟨trivial, ?_⟩; gi_at_call 68; refine (callsIn_wide.2 (seqS_of _ _ ss.length (ss.map Value.string) (by exact HN.out.chg ((Chg.of_below0 (S := fun _ => False) HB1.out).trans (Chg.alloc (fun _ => False) w1 _) (fun _ _ h => h) (fun _ _ h => h)) (fun _ _ _ h => h)) (by simp) (by intro u hu; obtain ⟨_, _, rfl⟩ := List.mem_map.1 hu; rfl) (by omega))).mono ?_; rintro e w2 ⟨B, rfl, hs2, hb2⟩; have HS2 := hide hs2; have HB2 := hide hb2; clear hs2 hb2))
  have h0 : OutAt w.heap.size w1.heap.size (w1.heap.size + 1) w2.heap.size w w2 (b ++ txts []) := by
    have ho := hide (HO1.out)
    refine ⟨ao1, cap1, ?_, ?_, ?_, Nat.le_refl _, ?_⟩
    · simpa [txts] using (Chg.of_below0 (S := fun _ => False) HB2.out).heap (heap_alloc_new w1 _) (fun h => h)
    · simpa [txts] using (Chg.of_below0 (S := fun _ => False) HB2.out).owns ((Chg.alloc (fun _ => False) w1 _).owns HO1.out (fun _ _ h => h)) (fun _ _ h => h)
    · intro k hk
      have := (ownsRow_lt HO1.out k (by simpa [txts] using hk)).2
      omega
    · exact (HB1.out.alloc HB1.out.size _).trans (HB2.out.mono (by have := HB1.out.size; simp; omega))
  have H0 := hide h0
  clear h0
  refine wpIn_range ss Value.string (fun k => w1.heap.size + 1 ≤ k ∧ k < w2.heap.size) rfl (enters_of Tryd.func97 (by kernel_rfl) rfl)
    (seqS_stops Value.string (w1.heap.size + 1) w2.heap.size B ss (by intro y _; rfl) (by omega) w2 (Nat.le_refl _) (by have h := HS2.out; rw [World.size_alloc] at h; exact h)) rfl
    (fun pre W => (b ++ txts pre).length ≤ b.length + pre.length * (8 + M) ∧ OutAt w.heap.size w1.heap.size (w1.heap.size + 1) w2.heap.size w W (b ++ txts pre)) (fun pre S W W' c hS h => ⟨h.1, OutAt.abd (Nat.le_trans HB1.out.size (by have := HB2.out.size; simp at this; omega)) (Nat.le_refl _) _ S W W' c hS h.2⟩) ⟨by simp [txts], H0.out⟩
    (fun x => { tmps := #[.slice ab b.length cb, .slice an ss.length cn, undef, undef, .slice none 0 0, .pointer (some ⟨w1.heap.size, 0, none⟩), .string x, .slice ab b.length cb, .slice ao1 b.length cap1, .slice an ss.length cn, .func (.func 97) #[] #[.pointer (some ⟨B, 0, none⟩)], .string x, undef, undef, undef, undef, undef, undef, undef, undef], defers := [] }) ?assign ?body ?done
  case assign =>
    intro l x W K hK
    gi_wp2
    exact hK
  case body =>
    rintro l pre x W ⟨hpl, hI⟩ hlen hpre hx
    obtain ⟨xs, hxs⟩ : ∃ xs, xs = b ++ txts pre := ⟨_, rfl⟩
    have hxM := HM.out x hx
    have hmul : (pre.length + 1) * (8 + M) ≤ ss.length * (8 + M) := Nat.mul_le_mul_right _ hlen
    rw [Nat.add_mul, Nat.one_mul] at hmul
    have hxl : xs.length + (8 + x.size) ≤ 140737488351232 := by have := HM2.out; rw [hxs]; omega
    obtain ⟨ys, hys⟩ : ∃ ys, ys = xs ++ nums [(x.size : Int)] := ⟨_, rfl⟩
    have hyl : ys.length = xs.length + 8 := by rw [hys]; simp [nums, num8_length]
    have hxe : b ++ txts (pre ++ [x]) = ys ++ sb x := by rw [hys, hxs, txts_snoc]; simp
    have hgoal : (b ++ txts (pre ++ [x])).length ≤ b.length + (pre ++ [x]).length * (8 + M) := by
      rw [hxe, List.length_append, sb_length, hyl, hxs]
      simp only [List.length_append, List.length_cons, List.length_nil, Nat.zero_add, Nat.add_mul, Nat.one_mul] at hpl ⊢
      omega
    rw [← hxs] at hI
    obtain ⟨ao, cap, g1, g2, g3, hsz, g4⟩ := hI
    have HSZ := hide hsz
    have hc := cell_of_heap g1 0
    have G1 := hide g1
    have G2 := hide g2
    have G3 := hide g3
    have G4 := hide g4
    have HXL := hide hxl
    have HXE := hide hxe
    have HYS := hide hys
    have HYL := hide hyl
    have HGOAL := hide hgoal
    clear g1 g2 g3 g4 hsz hxl hxs hxe hys hyl hpl hmul hpre hx hlen hxM hgoal
    gi_wp2_with (first
      | (refine ⟨trivial, ?_⟩; gi_at_call 33; (refine (CallsIn.inRound l (callsIn_wide.2 (code_Num _ _ _ xs [(x.size : Int)] ys HYS.out ((Rd.of_owns G2.out).chg (Chg.alloc (fun _ => False) W _) (fun _ _ _ h => h)) (Rd_lit W #[.int .i64 x.size] _ 1) (by have := HXL.out; simp; omega)))).mono ?_; rintro e w3 ⟨ao3, cap3, rfl, ho3, hb3⟩; have HO3 := hide ho3; have HB3 := hide hb3; have hb4 := (Chg.of_below0 (S := fun _ => False) hb3).heap ((Chg.alloc (fun _ => False) W _).heap G1.out (fun h => h)) (fun h => h); have HB4 := hide hb4; clear ho3 hb3 hb4))
      | (gi_at_builtin; (refine wpi_append_str rfl _ _ _ _ rfl slU8 Tryd.underlying9 _ HO3.out rfl rfl (by have := HXL.out; have := HYL.out; omega) HB3.out.size ?_); intro ao' cap' w4 hown hg _; have hne := ownsRow_ne HO3.out HB4.out (by decide); have hb5 := hg.heap HB4.out (fun h => hne h); have hc3 := cell_of_heap hb5 0; have hf3 := free_of_heap hb5 0; have HOWN := hide hown; have HG := hide hg; have HB5 := hide hb5; have HNE := hide hne; clear hown hg hb5 hne hc))
    have hz1 := HB3.out.size
    simp only [World.size_alloc] at hz1
    have hz2 := HG.out.size
    have hsl : (ys ++ sb x).length = ys.length + x.size := by simp [sb_length]
    refine ⟨?_, by simpa using HGOAL.out, ?_⟩
    · refine Rnd.turn ((((Rnd.refl _ W).same (Chg.alloc _ W _)).same (Chg.of_below0 HB3.out)).step HG.out (fun j hj => ?_) |>.step (Chg.setCell w4 _ _) (fun j hj => ?_)) _
      · have := (ownsRow_lt HO3.out j hj).1
        simp only [World.size_alloc] at this
        exact ⟨fun hd => by have := HSZ.out; omega, NonC.not_owns HO3.out hj⟩
      · subst hj
        exact ⟨fun hd => by have h1 : w1.heap.size + 1 ≤ w1.heap.size := hd.1; omega, NonC.not HB5.out⟩
    · rw [HXE.out]
      refine ⟨ao', cap', ?_, ?_, ?_, by have := HSZ.out; simp; omega, ?_⟩
      · rw [hsl]
        exact heap_setCell_same HB5.out _
      · rw [hsl, u8s_append]
        refine ownsRow_base ((Chg.setCell w4 _ _).owns HOWN.out (fun j hj e => by subst e; exact ownsRow_ne HOWN.out HB5.out (by decide) hj)) (fun j hj => ?_)
        have h1 := (ownsRow_lt HOWN.out j hj).1
        have := G4.out.size
        simp only [World.size_alloc] at h1
        omega
      · rw [hsl]
        intro j hj
        have h1 := (ownsRow_lt HOWN.out j hj).1
        have := HSZ.out
        simp only [World.size_alloc] at h1
        omega
      · exact (((G4.out.alloc G4.out.size _).trans (HB3.out.mono (by have := G4.out.size; simp; omega))).trans (HG.out.below (by have := G4.out.size; omega) (fun j hj e => by have h1 := (ownsRow_lt HO3.out j e).1; have := G4.out.size; simp only [World.size_alloc] at h1; omega))).setCell (by exact HB1.out.size) _
  case done =>
    rintro Db W hD ⟨-, hI⟩ hd
    rw [← HZS.out] at hI
    obtain ⟨ao, cap, g1, g2, g3, g5, g4⟩ := hI
    have hc := cell_of_heap g1 0
    have G2 := hide g2
    have G4 := hide g4
    clear g1 g2 g3 g4
    gi_wp2
    have hp : Chg (fun k => some k = some Db) W (W.putObj Db (.deferred none)) := Chg.grown (grownBy_putObj' W Db _)
    refine ⟨by simp, .inl ⟨_, _, rfl, run_takeDeferred hd, ?_⟩⟩
    refine ⟨_, results_tmp rfl _ _ _, ao, cap, rfl, hp.owns G2.out (fun k hk e => ?_), G4.out.trans (hp.below G4.out.size (fun k hk e => ?_))⟩
    · cases e
      exact NonC.not_owns G2.out hk ⟨_, hd, rfl⟩
    · cases e
      have := HB1.out.size
      have := HB2.out.size
      simp at this
      omega
end Go.Proofs.YtjmmmpnpkialjaaDoor
