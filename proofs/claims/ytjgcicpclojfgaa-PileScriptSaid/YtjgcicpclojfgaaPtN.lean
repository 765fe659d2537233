/- A pile of cortegelaw2.Thing: New, Put, Len, All. -/
import Derived.Test.YtjgcicpclojfgaaPt
namespace Go.Proofs.Ytjgcicpclojfgaa
open Go.RowKit Go.Shelf

set_option maxRecDepth 100000 in
theorem pt_New (w : World) (g : Nat) : Calls Try.prog 22 #[.func (.func g) #[] #[]] w fun e w' => e = .returned (.pointer (some ⟨w.heap.size, 0, none⟩)) ∧ pt_At w.heap.size w' w.heap.size g none 0 [] ∧ Below w.heap.size w w' := by
  have hnn : ∀ w', Sem.run Try.prog (binOp BinOp.eql 44 (.func (.func g) #[] #[]) .nilFunc) w' = .ok (.bool false) w' := by intro w'; kernel_rfl
  go_enter Try.func22, Try.ntmps22
  go_wp2
  go_ret
  refine ⟨rfl, ?_, (Below.refl _ w).alloc (Nat.le_refl _) _⟩
  have h0 := heap_alloc_new w (.cells #[.func (.func g) #[] #[], .slice none 0 0] 95)
  unfold pt_At PileAt
  rw [List.length_nil, flat_nil]
  exact ⟨h0, World.ownsRow_nil _ _ _ _, Nat.le_refl _, by omega⟩
theorem pt_Len {base : Nat} (w : World) (p g : Nat) (ao : Option Addr) (cap : Nat) (l : List Th) (h : pt_At base w p g ao cap l) : Calls Try.prog 30 #[.pointer (some ⟨p, 0, none⟩)] w fun e w' => e = .returned (.int .i64 l.length) ∧ w' = w := by
  have h1 := h.c1
  clear h
  go_enter Try.func30, Try.ntmps30
  go_wp2
  go_ret
  exact ⟨rfl, rfl⟩
theorem pt_All (w : World) (p : Option Addr) : Calls Try.prog 31 #[.pointer p] w fun e w' => e = .returned (.func (.func 63) #[] #[.pointer (some ⟨w.heap.size, 0, none⟩)]) ∧ w' = w.alloc (.cells #[.pointer p] 40) := by
  go_enter Try.func31, Try.ntmps31
  go_wp2
  go_ret
  exact ⟨rfl, rfl⟩

set_option maxRecDepth 100000 in
set_option maxHeartbeats 2000000 in
theorem pt_Put {base : Nat} (w : World) (p g : Nat) (ao : Option Addr) (cap : Nat) (l : List Th) (lt : Th → Th → Bool) (hle : pt_Less g lt) (h : pt_At base w p g ao cap l) (vx : Value) (xs : List Th) (hx : Rd w vx xs.length (flat pt_enc xs))
    (hb : ∀ b, vx.ownBlock = some b → xs ≠ [] → ¬ PSet p ao b ∧ b < w.heap.size) (hl : l.length + xs.length ≤ 1000) :
    Calls Try.prog 24 #[.pointer (some ⟨p, 0, none⟩), vx] w fun e w' => e = .returned (.tuple #[]) ∧ pt_Grew base w p g ao (xs.foldl (ins lt) l) w' := by
  obtain ⟨av, cv, rfl, -, -⟩ := hx.shape
  have HX := hide hx
  have HL := hide hle
  have HB := hide hb
  have HP := hide h
  clear hx hle hb h
  go_enter Try.func24, Try.ntmps24
  go_wp2_with fail
  go_loopw [10] (fun i wr => ∃ k : Nat, k ≤ xs.length ∧ i = .int .i64 k ∧ Hid (pt_Grew base w p g ao ((xs.take k).foldl (ins lt) l) wr)) (fun i _ => xs.length - (intOf i).toNat)
  case atStart => exact ⟨0, Nat.zero_le _, rfl, Grew.refl HP.out⟩
  case round =>
    obtain ⟨k, hk, rfl, HG⟩ := hrel
    by_cases hlt : k < xs.length
    · obtain ⟨ao1, cap1, h1, hc1, hs1⟩ := HG.out
      have hne : xs ≠ [] := by rintro rfl; simp at hlt
      have hxr := HX.out.chg hc1 (fun b hb' _ => (HB.out b hb' hne).1)
      obtain ⟨a', c', e, -, hcs0⟩ := hxr.shape
      obtain ⟨b, off, rfl, hcs⟩ := hcs0 (by omega)
      cases e
      obtain ⟨hx0, hx1⟩ := pt_cells wr b off xs hcs k hlt
      have hlen : ∀ (ys l0 : List Th), (ys.foldl (ins lt) l0).length = l0.length + ys.length := by
        intro ys
        induction ys with
        | nil => simp
        | cons y ys ih => intro l0; rw [List.foldl_cons, ih, ins_length, List.length_cons]; omega
      have hll : ((xs.take k).foldl (ins lt) l).length < 1000 := by rw [hlen, List.length_take]; omega
      have H1 := hide h1
      have HC1 := hide hc1
      have HS1 := hide hs1
      have HLL := hide hll
      clear h1 hc1 hs1 hxr hcs hcs0 hlen hll HG hne
      go_wp2_with fail
      refine (pt_put _ p g ao1 cap1 ((xs.take k).foldl (ins lt) l) lt xs[k] HL.out (H1.out.chg (Chg.alloc (fun _ => False) wr _) (fun _ _ h => h)) HLL.out).mono ?_
      rintro e w2 ⟨rfl, hg2⟩
      have HG2 := hide hg2
      clear hg2
      go_wp2_with fail
      go_roundw
      case rel =>
        refine ⟨k + 1, by omega, by go_num, ?_⟩
        have hc : Chg (PSet p ao) w (wr.alloc (.cells #[.int .i64 (xs[k]).key, .int .i64 (xs[k]).which] 43)) := HC1.out.trans (Chg.alloc (fun _ => False) wr _) (fun _ _ h => h) (fun _ _ h => h.elim)
        have hg := grew_trans hc HS1.out HG2.out
        rw [take_succ_get xs k hlt, List.foldl_append]
        exact hg
      case measure => simp [intOf]; omega
    · obtain rfl : k = xs.length := by omega
      go_wp2_with fail
      go_end0
      refine ⟨rfl, ?_⟩
      have hg := HG.out
      rwa [List.take_length] at hg
set_option maxRecDepth 100000 in
theorem pt_First_none {base : Nat} (w : World) (p g : Nat) (ao : Option Addr) (cap : Nat) (h : pt_At base w p g ao cap []) : Calls Try.prog 29 #[.pointer (some ⟨p, 0, none⟩)] w fun e w' => e = .returned (.tuple #[.agg #[.int .i64 0, .int .i64 0], .bool false]) ∧ Below w.heap.size w w' := by
  have h1 := h.c1
  simp only [List.length_nil] at h1
  have hpl := (h.lt p (.inl rfl)).2
  clear h
  go_enter Try.func29, Try.ntmps29
  go_wp2
  refine bodyPost_ret (v := .tuple #[.agg #[.int .i64 0, .int .i64 0], .bool false]) (by simp [results, Try.results29, go_sem]) rfl ⟨rfl, ?_⟩
  exact ((Below.refl _ w).alloc (Nat.le_refl _) _).alloc (by simp) _
set_option maxRecDepth 100000 in
theorem pt_First {base : Nat} (w : World) (p g : Nat) (ao : Option Addr) (cap : Nat) (x : Th) (l : List Th) (h : pt_At base w p g ao cap (x :: l)) : Calls Try.prog 29 #[.pointer (some ⟨p, 0, none⟩)] w fun e w' => e = .returned (.tuple #[.agg #[.int .i64 (x).key, .int .i64 (x).which], .bool true]) ∧ Below w.heap.size w w' := by
  have h1 := h.c1
  have hpl := (h.lt p (.inl rfl)).2
  obtain ⟨ao', cap', e0, hnc, hcs0⟩ := h.rd.shape
  obtain ⟨b, off, e1, hcs⟩ := hcs0 (by simp)
  cases e0
  subst e1
  have hbl := (h.lt b (.inr rfl)).2
  obtain ⟨hx0, hx1⟩ := pt_cells w b off (x :: l) hcs 0 (by simp)
  simp only [Nat.zero_mul, Nat.add_zero, List.getElem_cons_zero] at hx0 hx1
  clear h hcs hcs0
  simp only [List.length_cons] at h1
  go_enter Try.func29, Try.ntmps29
  go_wp2
  refine bodyPost_ret (v := .tuple #[.agg #[.int .i64 (x).key, .int .i64 (x).which], .bool true]) (by simp [results, Try.results29, go_sem]) rfl ⟨rfl, ?_⟩
  exact ((Below.refl _ w).alloc (Nat.le_refl _) _).alloc (by simp) _
set_option maxRecDepth 100000 in
theorem pt_Pop_none {base : Nat} (w : World) (p g : Nat) (ao : Option Addr) (cap : Nat) (h : pt_At base w p g ao cap []) : Calls Try.prog 26 #[.pointer (some ⟨p, 0, none⟩)] w fun e w' => e = .returned (.tuple #[.agg #[.int .i64 0, .int .i64 0], .bool false]) ∧ Below w.heap.size w w' := by
  have HP := hide h
  clear h
  go_enter Try.func26, Try.ntmps26
  go_wp2_with fail
  refine (pt_First_none (base := base) _ p g ao cap (HP.out.chg (Chg.alloc (fun _ => False) w _) (fun _ _ h => h))).mono ?_
  rintro e w1 ⟨rfl, hb1⟩
  have HB1 := hide hb1
  have hx := (Chg.of_below0 (S := fun _ => False) hb1).heap (heap_alloc_new w _) (fun h => h)
  have hz1 := hb1.size
  simp only [World.size_alloc] at hz1
  have hr0 := cell_of_heap hx 0; have hr1 := cell_of_heap hx 1; have hf0 := free_of_heap hx 0; have hf1 := free_of_heap hx 1
  have hz2 : w.heap.size < w1.heap.size := by omega
  clear hb1 hx hz1
  go_wp2_with fail
  refine bodyPost_ret (v := .tuple #[.agg #[.int .i64 0, .int .i64 0], .bool false]) (by simp [results, Try.results26, go_sem, *]) rfl ⟨rfl, ?_⟩
  refine Below.alloc ?_ (by simp [World.setCell]; omega) _
  iterate 2 (refine Below.setCell (p := ⟨w.heap.size, _, none⟩) ?_ (by exact Nat.le_refl _) _)
  have hB : Below w.heap.size (w.alloc _) w1 := HB1.out.mono (by simp)
  exact ((Below.refl _ w).alloc (Nat.le_refl _) _).trans hB
set_option maxHeartbeats 1000000 in
set_option maxRecDepth 100000 in
theorem pt_Pop {base : Nat} (w : World) (p g : Nat) (ao : Option Addr) (cap : Nat) (x : Th) (l : List Th) (h : pt_At base w p g ao cap (x :: l)) : Calls Try.prog 26 #[.pointer (some ⟨p, 0, none⟩)] w fun e w' => e = .returned (.tuple #[.agg #[.int .i64 (x).key, .int .i64 (x).which], .bool true]) ∧ pt_Grew base w p g ao l w' := by
  have HP := hide h
  have hpl := (h.lt p (.inl rfl)).2
  have hm := h.2.2.2
  clear h
  go_enter Try.func26, Try.ntmps26
  go_wp2_with fail
  refine (pt_First (base := base) _ p g ao cap x l (HP.out.chg (Chg.alloc (fun _ => False) w _) (fun _ _ h => h))).mono ?_
  rintro e w1 ⟨rfl, hb1⟩
  have hc01 : Chg (fun _ => False) w w1 := (Chg.alloc (fun _ => False) w _).trans (Chg.of_below0 hb1) (fun _ _ h => h) (fun _ _ h => h)
  have hx := (Chg.of_below0 (S := fun _ => False) hb1).heap (heap_alloc_new w _) (fun h => h)
  have HX := hide hx
  have HC01 := hide hc01
  have hz1 := hb1.size
  simp only [World.size_alloc] at hz1
  have hz2 : w.heap.size < w1.heap.size := by omega
  have hp1 := HP.out.chg hc01 (fun _ _ h => h)
  have h1 := hp1.c1
  simp only [List.length_cons] at h1
  have hpl1 : p < w1.heap.size := by omega
  have HP1 := hide hp1
  clear hb1 hx hz1 hc01 hp1
  go_wp2_with fail
  have hp2 := HP1.out.chg (Chg.alloc (fun _ => False) w1 (.cells #[.int .i64 (x).key, .int .i64 (x).which] 43)) (fun _ _ h => h)
  refine (pt_delete (base := base) (w1.alloc (.cells #[.int .i64 (x).key, .int .i64 (x).which] 43)) ao l.length cap (flat pt_enc (x :: l)) hp2.2.1 (flat_one' pt_one _) (by simp at hm; omega)).mono ?_
  intro e w2 hd
  have hcd : Chg (fun k => (Value.slice ao l.length cap).ownBlock = some k) (w1.alloc (.cells #[.int .i64 (x).key, .int .i64 (x).which] 43)) w2 := hd.2.2
  have hrl : ∀ k, (Value.slice ao l.length cap).ownBlock = some k → k < w.heap.size := fun k hk => (HP.out.lt k (.inr (own_slice ao _ _ _ _ ▸ hk))).2
  have hx := hcd.heap ((Chg.alloc (fun _ => False) w1 _).heap HX.out (fun h => h)) (fun e => by have := hrl _ e; omega)
  have hr0 := cell_of_heap hx 0; have hr1 := cell_of_heap hx 1; have hf0 := free_of_heap hx 0; have hf1 := free_of_heap hx 1
  have hx := hcd.heap (heap_alloc_new w1 _) (fun e => by have := hrl _ e; omega)
  have hs0 := cell_of_heap hx 0; have hs1 := cell_of_heap hx 1
  obtain ⟨rfl, hc2, hf2, hg2⟩ := pile_del hp2 (by decide) hd
  obtain ⟨hp3, hc3⟩ := pile_del2 hp2 (by decide) hd
  have HP3 := hide hp3
  have HC3 := hide ((HC01.out.trans (Chg.alloc (fun _ => False) w1 (.cells #[.int .i64 (x).key, .int .i64 (x).which] 43)) (S'' := PSet p ao) (fun _ _ h => h.elim) (fun _ _ h => h.elim)).trans hc3 (S'' := PSet p ao) (fun _ _ h => h) (fun _ _ h => h))
  clear hd hg2 hcd hrl hx hp2 hp3 hc3
  go_wp2_with fail
  refine bodyPost_ret (v := .tuple #[.agg #[.int .i64 (x).key, .int .i64 (x).which], .bool true]) (by simp [results, Try.results26, go_sem, *]) rfl ⟨rfl, ?_⟩
  have e1 : delRow 2 (flat pt_enc (x :: l)) = flat pt_enc l := by rw [delRow, flat_cons, List.drop_left' (pt_len x)]
  unfold pt_Grew
  rw [← e1]
  refine grew_far HP3.out HC3.out (fun k hk => (HP.out.lt k hk).2) ?_
  repeat (refine Chg.trans ?_ (Chg.setCell _ ⟨w.heap.size, _, none⟩ _) (S := fun k => w.heap.size ≤ k) (fun _ _ h => h) (fun k _ h => by have h2 : k = w.heap.size := h; omega))
  exact Chg.refl _ _
end Go.Proofs.Ytjgcicpclojfgaa
