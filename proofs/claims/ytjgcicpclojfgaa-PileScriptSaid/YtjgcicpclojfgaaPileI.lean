/- A pile of ints. -/
import Derived.Test.YtjgcicpclojfgaaPile
import Derived.Test.YtjgcicpclojfgaaPileW
import Derived.Test.YtjgcicpclojfgaaLow
namespace Go.Proofs.Ytjgcicpclojfgaa
open Go.RowKit Go.Shelf

/-- What a pile's order answers. -/
def pi_Less (g : Nat) (lt : Int → Int → Bool) : Prop := (∀ args w, (callFunc g args).run Try.prog w = .ok (.enter g args) w) ∧ ∀ (W : World) (x y : Int), Calls Try.prog g #[Value.int .i64 x, Value.int .i64 y] W fun e W' => e = .returned (.bool (lt x y)) ∧ W' = W
def pi_At (base : Nat) (w : World) (p g : Nat) (ao : Option Addr) (cap : Nat) (l : List (Int)) : Prop := PileAt 89 3 1 base w p (.func (.func g) #[] #[]) ao cap l.length (l.map (Value.int .i64))
def pi_Grew (base : Nat) (w : World) (p g : Nat) (ao : Option Addr) (l : List (Int)) (w' : World) : Prop := Grew 89 3 1 base w p (.func (.func g) #[] #[]) ao l.length (l.map (Value.int .i64)) w'

set_option maxHeartbeats 4000000 in
set_option maxRecDepth 100000 in
theorem pi_put {base : Nat} (w : World) (p g : Nat) (ao : Option Addr) (cap : Nat) (l : List (Int)) (lt : Int → Int → Bool) (x : Int) (hle : pi_Less g lt) (h : pi_At base w p g ao cap l) (hl : l.length < 1000) :
    Calls Try.prog 56 #[.pointer (some ⟨p, 0, none⟩), Value.int .i64 x] w fun e w' => e = .returned (.tuple #[]) ∧ pi_Grew base w p g ao (ins lt l x) w' := by
  have eg := hle.1
  have EG := hide eg
  have HL := hide hle.2
  have HP := hide h
  have h0 := h.c0
  have h1 := h.c1
  have HB := hide h.low
  have hpl := (h.lt p (.inl rfl)).2
  have HPL := hide hpl
  clear hle eg h hpl
  go_enter Try.func56, Try.ntmps56
  go_wp2_with fail
  go_loopw [4] (fun i wr => ∃ k q : Nat, k ≤ l.length ∧ i = .int .i64 k ∧ wr = w.drewN q ∧ Hid (∀ j (hj : j < l.length), k ≤ j → lt x l[j] = true)) (fun i _ => (intOf i).toNat)
  case atStart => exact ⟨l.length, 0, Nat.le_refl _, rfl, rfl, fun j hj h => absurd hj (by omega)⟩
  case round =>
    obtain ⟨k, q, hk, rfl, rfl, HA⟩ := hrel
    cases k with
    | zero =>
      have hd : decide ((0 : Int) < 0) = false := rfl
      go_wp2_with fail
      go_quiet (fail)
      go_wp2_with fail
      have hb2 := HP.out
      have hi := pi_insert (base := base) ((w.drewN (q + nq)).alloc (.cells #[Value.int .i64 x] 3)) ao l.length cap (0) (l.map (Value.int .i64)) w.heap.size [Value.int .i64 x] (((hb2.drewN (q + nq)).chg (Chg.alloc (fun _ => False) _ _) (fun _ _ h => h)).2.1) hk (heap_alloc_new (w.drewN (q + nq)) _) rfl (fun u hu => by obtain ⟨y, _, rfl⟩ := List.mem_map.1 hu; rfl) (fun u hu => by rw [List.mem_singleton.1 hu]; rfl) (fun k hk => by have := (hb2.lt k (.inr (own_slice ao _ _ _ _ ▸ hk))).2; omega) (by omega) (by have := HB.out; simp; omega)
      clear hb2
      refine (hi).mono ?_
      rintro e w1 hins
      obtain ⟨ao1, cap1, rfl, hc1, hf1, hgr⟩ := pile_ins (HP.out.drewN (q + nq)) (by decide) hl hins
      have HGR := hide hgr
      clear hins hgr hi
      go_wp2_with fail
      go_end0
      refine ⟨rfl, ?_⟩
      have hpl := placeOf_eq lt x l (0) hk HA.out (fun h => absurd h (by omega))
      have hg := HGR.out.of_drewN
      rw [← flat_one, flat_ins (size := 1) (fun _ => rfl) l _ x hk, flat_one] at hg
      unfold pi_Grew
      rw [ins_length]
      unfold ins
      rw [hpl]
      exact hg
    | succ m =>
      have hcm := HP.out.rd
      obtain ⟨ao', cap', e0, hnc, hcs0⟩ := hcm.shape
      obtain ⟨b, off, e1, hcs⟩ := hcs0 (by omega)
      cases e0
      subst e1
      have hcx := hcs m (Value.int .i64 l[m]) (by simp)
      have eg := EG.out
      have hml : m < l.length := by omega
      have a1 : IntKind.i64.wrap (m : Int) = m := IntWalk.i64_in _ (by omega)
      clear hcs hcs0 hcm
      cases hlx : lt x l[m] with
      | true =>
        have HX := hide hlx
        have hc : ∀ W, Calls Try.prog g #[Value.int .i64 x, Value.int .i64 l[m]] W fun e W' => e = .returned (.bool true) ∧ W' = W := fun W => by have := HL.out W x l[m]; rwa [hlx] at this
        clear hlx
        go_wp2_with fail
        go_quiet ((go_at_fn g; exact quiet_s (hc _)))
        clear hc
        go_wp2_with fail
        go_roundw
        case rel =>
          refine ⟨m, q + nq, by omega, by go_num, rfl, fun j hj h => ?_⟩
          by_cases e : j = m
          · subst e; exact HX.out
          · exact HA.out j hj (by omega)
        case measure => simp [intOf]
      | false =>
        have HX := hide hlx
        have hc : ∀ W, Calls Try.prog g #[Value.int .i64 x, Value.int .i64 l[m]] W fun e W' => e = .returned (.bool false) ∧ W' = W := fun W => by have := HL.out W x l[m]; rwa [hlx] at this
        clear hlx
        go_wp2_with fail
        go_quiet ((go_at_fn g; exact quiet_s (hc _)))
        clear hc
        go_wp2_with fail
        have hb2 := HP.out
        have hi := pi_insert (base := base) ((w.drewN (q + nq)).alloc (.cells #[Value.int .i64 x] 3)) (some ⟨b, off, none⟩) l.length cap (m + 1) (l.map (Value.int .i64)) w.heap.size [Value.int .i64 x] (((hb2.drewN (q + nq)).chg (Chg.alloc (fun _ => False) _ _) (fun _ _ h => h)).2.1) hk (heap_alloc_new (w.drewN (q + nq)) _) rfl (fun u hu => by obtain ⟨y, _, rfl⟩ := List.mem_map.1 hu; rfl) (fun u hu => by rw [List.mem_singleton.1 hu]; rfl) (fun k hk => by have := (hb2.lt k (.inr (own_slice (some ⟨b, off, none⟩) _ _ _ _ ▸ hk))).2; omega) (by omega) (by have := HB.out; simp; omega)
        clear hb2
        refine (hi).mono ?_
        rintro e w1 hins
        obtain ⟨ao1, cap1, rfl, hc1, hf1, hgr⟩ := pile_ins (HP.out.drewN (q + nq)) (by decide) hl hins
        have HGR := hide hgr
        clear hins hgr hi
        go_wp2_with fail
        go_end0
        refine ⟨rfl, ?_⟩
        have hpl := placeOf_eq lt x l (m + 1) hk HA.out (fun _ => HX.out)
        have hg := HGR.out.of_drewN
        rw [← flat_one, flat_ins (size := 1) (fun _ => rfl) l _ x hk, flat_one] at hg
        unfold pi_Grew
        rw [ins_length]
        unfold ins
        rw [hpl]
        exact hg
set_option maxRecDepth 100000 in
theorem pi_New (w : World) (g : Nat) : Calls Try.prog 13 #[.func (.func g) #[] #[]] w fun e w' => e = .returned (.pointer (some ⟨w.heap.size, 0, none⟩)) ∧ pi_At w.heap.size w' w.heap.size g none 0 [] ∧ Below w.heap.size w w' := by
  have hnn : ∀ w', Sem.run Try.prog (binOp BinOp.eql 26 (.func (.func g) #[] #[]) .nilFunc) w' = .ok (.bool false) w' := by intro w'; kernel_rfl
  go_enter Try.func13, Try.ntmps13
  go_wp2
  go_ret
  refine ⟨rfl, ?_, (Below.refl _ w).alloc (Nat.le_refl _) _⟩
  have h0 := heap_alloc_new w (.cells #[.func (.func g) #[] #[], .slice none 0 0] 89)
  unfold pi_At PileAt
  rw [List.length_nil, List.map_nil]
  refine ⟨h0, ?_, Nat.le_refl _, by omega⟩
  exact World.ownsRow_nil (w.alloc (.cells #[.func (.func g) #[] #[], .slice none 0 0] 89)) w.heap.size 3 1
set_option maxRecDepth 100000 in
theorem pi_New_nil (w : World) : Calls Try.prog 13 #[.nilFunc] w fun e w' => e = .returned (.pointer none) ∧ w' = w := by
  have hnn : ∀ w', Sem.run Try.prog (binOp BinOp.eql 26 .nilFunc .nilFunc) w' = .ok (.bool true) w' := by intro w'; kernel_rfl
  go_enter Try.func13, Try.ntmps13
  go_wp2
  go_ret
  exact ⟨rfl, rfl⟩
theorem pi_Len {base : Nat} (w : World) (p g : Nat) (ao : Option Addr) (cap : Nat) (l : List (Int)) (h : pi_At base w p g ao cap l) : Calls Try.prog 20 #[.pointer (some ⟨p, 0, none⟩)] w fun e w' => e = .returned (.int .i64 l.length) ∧ w' = w := by
  have h1 := h.c1
  clear h
  go_enter Try.func20, Try.ntmps20
  go_wp2
  go_ret
  exact ⟨rfl, rfl⟩
theorem pi_Len_nil (w : World) : Calls Try.prog 20 #[.pointer none] w fun e w' => e = .returned (.int .i64 0) ∧ w' = w := by
  go_enter Try.func20, Try.ntmps20
  go_wp2
  go_ret
  exact ⟨rfl, rfl⟩
theorem pi_First_nil (w : World) : Calls Try.prog 32 #[.pointer none] w fun e w' => e = .returned (.tuple #[.int .i64 0, .bool false]) ∧ w' = w := by
  go_enter Try.func32, Try.ntmps32
  go_wp2
  go_ret2
  exact ⟨rfl, rfl⟩
theorem pi_First_none {base : Nat} (w : World) (p g : Nat) (ao : Option Addr) (cap : Nat) (h : pi_At base w p g ao cap []) : Calls Try.prog 32 #[.pointer (some ⟨p, 0, none⟩)] w fun e w' => e = .returned (.tuple #[.int .i64 0, .bool false]) ∧ w' = w := by
  have h1 := h.c1
  simp only [List.length_nil] at h1
  clear h
  go_enter Try.func32, Try.ntmps32
  go_wp2
  go_ret2
  exact ⟨rfl, rfl⟩
theorem pi_First {base : Nat} (w : World) (p g : Nat) (ao : Option Addr) (cap : Nat) (x : Int) (l : List (Int)) (h : pi_At base w p g ao cap (x :: l)) : Calls Try.prog 32 #[.pointer (some ⟨p, 0, none⟩)] w fun e w' => e = .returned (.tuple #[Value.int .i64 x, .bool true]) ∧ w' = w := by
  have h1 := h.c1
  obtain ⟨ao', cap', e0, hnc, hcs0⟩ := h.rd.shape
  obtain ⟨b, off, e1, hcs⟩ := hcs0 (by simp)
  cases e0
  subst e1
  have hc0 := hcs 0 (Value.int .i64 x) rfl
  rw [Nat.add_zero] at hc0
  clear h hcs hcs0
  simp only [List.length_cons] at h1
  go_enter Try.func32, Try.ntmps32
  go_wp2
  go_ret2
  exact ⟨rfl, rfl⟩
theorem pi_All (w : World) (p : Option Addr) : Calls Try.prog 17 #[.pointer p] w fun e w' => e = .returned (.func (.func 57) #[] #[.pointer (some ⟨w.heap.size, 0, none⟩)]) ∧ w' = w.alloc (.cells #[.pointer p] 24) := by
  go_enter Try.func17, Try.ntmps17
  go_wp2
  go_ret
  exact ⟨rfl, rfl⟩

set_option maxHeartbeats 1000000 in
theorem pi_Put {base : Nat} (w : World) (p g : Nat) (ao : Option Addr) (cap : Nat) (l : List (Int)) (lt : Int → Int → Bool) (hle : pi_Less g lt) (h : pi_At base w p g ao cap l) (vx : Value) (xs : List (Int)) (hx : Rd w vx xs.length (xs.map (Value.int .i64)))
    (hb : ∀ b, vx.ownBlock = some b → xs ≠ [] → ¬ PSet p ao b ∧ b < w.heap.size) (hl : l.length + xs.length ≤ 1000) :
    Calls Try.prog 15 #[.pointer (some ⟨p, 0, none⟩), vx] w fun e w' => e = .returned (.tuple #[]) ∧ pi_Grew base w p g ao (xs.foldl (ins lt) l) w' := by
  obtain ⟨av, cv, rfl, -, -⟩ := hx.shape
  have HX := hide hx
  have HL := hide hle
  have HB := hide hb
  have HP := hide h
  clear hx hle hb h
  go_enter Try.func15, Try.ntmps15
  go_wp2_with fail
  go_loopw [10] (fun i wr => ∃ k : Nat, k ≤ xs.length ∧ i = .int .i64 k ∧ Hid (pi_Grew base w p g ao ((xs.take k).foldl (ins lt) l) wr)) (fun i _ => xs.length - (intOf i).toNat)
  case atStart => exact ⟨0, Nat.zero_le _, rfl, Grew.refl HP.out⟩
  case round =>
    obtain ⟨k, hk, rfl, HG⟩ := hrel
    by_cases hlt : k < xs.length
    · obtain ⟨ao1, cap1, h1, hc1, hs1⟩ := HG.out
      have hne : xs ≠ [] := by rintro rfl; simp at hlt
      have hxr := HX.out.chg hc1 (fun b hb' _ => (HB.out b hb' hne).1)
      obtain ⟨a', c', e, -, hcs0⟩ := hxr.shape
      obtain ⟨b, off, rfl, hcs⟩ := hcs0 (by omega)
      cases e
      have hcx := hcs k (Value.int .i64 xs[k]) (by simp [hlt])
      have hlen : ∀ (ys l0 : List (Int)), (ys.foldl (ins lt) l0).length = l0.length + ys.length := by
        intro ys
        induction ys with
        | nil => simp
        | cons y ys ih => intro l0; rw [List.foldl_cons, ih, ins_length, List.length_cons]; omega
      have hll : ((xs.take k).foldl (ins lt) l).length < 1000 := by rw [hlen, List.length_take]; omega
      have H1 := hide h1
      have HC1 := hide hc1
      have HS1 := hide hs1
      have hput := pi_put wr p g ao1 cap1 ((xs.take k).foldl (ins lt) l) lt xs[k] HL.out h1 hll
      have HPUT := hide hput
      clear h1 hc1 hs1 hxr hcs hcs0 hlen hll hput HG hne
      go_wp2_with fail
      refine HPUT.out.mono ?_
      rintro e w2 ⟨rfl, hg2⟩
      have HG2 := hide hg2
      clear hg2
      go_wp2_with fail
      go_roundw
      case rel =>
        refine ⟨k + 1, by omega, by go_num, ?_⟩
        have hg := grew_trans HC1.out HS1.out HG2.out
        rw [take_succ_get xs k hlt, List.foldl_append]
        exact hg
      case measure => simp [intOf]; omega
    · obtain rfl : k = xs.length := by omega
      go_wp2_with fail
      go_end0
      refine ⟨rfl, ?_⟩
      have hg := HG.out
      rwa [List.take_length] at hg
theorem pi_Put_nil (w : World) (v : Value) : Calls Try.prog 15 #[.pointer none, v] w fun e w' => e = .returned (.tuple #[]) ∧ w' = w := by
  go_enter Try.func15, Try.ntmps15
  go_wp2_with fail
  exact bodyPost_ret (results_none rfl _ _ _) rfl ⟨rfl, rfl⟩
theorem pi_Pop_nil (w : World) : Calls Try.prog 19 #[.pointer none] w fun e w' => e = .returned (.tuple #[.int .i64 0, .bool false]) ∧ w' = w := by
  go_enter Try.func19, Try.ntmps19
  go_wp2_with fail
  refine (pi_First_nil w).mono ?_
  rintro e w1 ⟨rfl, rfl⟩
  go_wp2_with fail
  go_ret2
  exact ⟨rfl, rfl⟩
theorem pi_Pop_none {base : Nat} (w : World) (p g : Nat) (ao : Option Addr) (cap : Nat) (h : pi_At base w p g ao cap []) : Calls Try.prog 19 #[.pointer (some ⟨p, 0, none⟩)] w fun e w' => e = .returned (.tuple #[.int .i64 0, .bool false]) ∧ w' = w := by
  have HP := hide h
  clear h
  go_enter Try.func19, Try.ntmps19
  go_wp2_with fail
  refine (pi_First_none w p g ao cap HP.out).mono ?_
  rintro e w1 ⟨rfl, rfl⟩
  go_wp2_with fail
  go_ret2
  exact ⟨rfl, rfl⟩
set_option maxHeartbeats 1000000 in
theorem pi_Pop {base : Nat} (w : World) (p g : Nat) (ao : Option Addr) (cap : Nat) (x : Int) (l : List (Int)) (h : pi_At base w p g ao cap (x :: l)) : Calls Try.prog 19 #[.pointer (some ⟨p, 0, none⟩)] w fun e w' => e = .returned (.tuple #[Value.int .i64 x, .bool true]) ∧ pi_Grew base w p g ao l w' := by
  have h1 := h.c1
  simp only [List.length_cons] at h1
  have HP := hide h
  have hm := h.2.2.2
  clear h
  go_enter Try.func19, Try.ntmps19
  go_wp2_with fail
  refine (pi_First w p g ao cap x l HP.out).mono ?_
  rintro e w1 ⟨rfl, rfl⟩
  go_wp2_with fail
  refine (pi_delete (base := base) w1 ao l.length cap ((x :: l).map (Value.int .i64)) HP.out.2.1 (fun u hu => by obtain ⟨y, _, rfl⟩ := List.mem_map.1 hu; rfl) (by simp at hm; omega)).mono ?_
  intro e w2 hd
  obtain ⟨rfl, hc2, hf2, hg2⟩ := pile_del HP.out (by decide) hd
  have HG2 := hide hg2
  clear hd hg2
  go_wp2_with fail
  go_ret2
  exact ⟨rfl, HG2.out⟩
theorem pi_Remove_nil (w : World) (f : Value) : Calls Try.prog 33 #[.pointer none, f] w fun e w' => e = .returned (.int .i64 0) ∧ w' = w := by
  go_enter Try.func33, Try.ntmps33
  go_wp2_with fail
  go_ret
  exact ⟨rfl, rfl⟩
end Go.Proofs.Ytjgcicpclojfgaa
