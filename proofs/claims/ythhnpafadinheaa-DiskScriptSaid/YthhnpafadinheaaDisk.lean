/- The methods of disk.Disk and of the document's Disk: what each call gives, of a disk that lies at a block of the call's own. Conditions: the disk is there; bytes below 2^46. -/
import Derived.Test.YthhnpafadinheaaBytes
import Derived.Deep.RegionHeld3
import Derived.Test.YthhnpafadinheaaTail
namespace Go.Proofs.Ythhnpafadinheaa
open Go.RowKit

/-- At block p lies a struct of a slice of bytes and a number: the bytes bs in a row of the call's own. -/
def BufAt (T base : Nat) (w : World) (p : Nat) (ao : Option Addr) (cap : Nat) (bs : List UInt8) (n : Nat) : Prop :=
  w.heap[p]? = some (.cells #[.slice ao bs.length cap, .int .i64 n] T (0, 0)) ∧ w.ownsRow base 5 1 (.slice ao bs.length cap) bs.length (u8s bs) ∧ n ≤ bs.length ∧ bs.length ≤ 70368744177664 ∧ base ≤ p

/-- The blocks of a disk. -/
def BufSet (p : Nat) (ao : Option Addr) (k : Nat) : Prop := k = p ∨ (Value.slice ao 0 0).ownBlock = some k

theorem own_slice (ao : Option Addr) (n c n' c' : Nat) : (Value.slice ao n c).ownBlock = (Value.slice ao n' c').ownBlock := by cases ao <;> rfl

theorem BufAt.chg {T base : Nat} {w w' : World} {p : Nat} {ao : Option Addr} {cap : Nat} {bs : List UInt8} {n : Nat} {S : Nat → Prop} (h : BufAt T base w p ao cap bs n) (c : Chg S w w')
    (hs : ∀ k, BufSet p ao k → ¬ S k) : BufAt T base w' p ao cap bs n :=
  ⟨c.heap h.1 (hs p (.inl rfl)), c.owns h.2.1 (fun b hb => hs b (.inr (own_slice ao _ _ _ _ ▸ hb))), h.2.2⟩
theorem BufAt.rd {T base : Nat} {w : World} {p : Nat} {ao : Option Addr} {cap : Nat} {bs : List UInt8} {n : Nat} (h : BufAt T base w p ao cap bs n) : Rd w (.slice ao bs.length cap) bs.length (u8s bs) := Rd.of_owns h.2.1
theorem BufAt.c0 {T base : Nat} {w : World} {p : Nat} {ao : Option Addr} {cap : Nat} {bs : List UInt8} {n : Nat} (h : BufAt T base w p ao cap bs n) : w.cell? ⟨p, 0, none⟩ = some (.slice ao bs.length cap) := by rw [cell_of_heap h.1]; rfl
theorem BufAt.c1 {T base : Nat} {w : World} {p : Nat} {ao : Option Addr} {cap : Nat} {bs : List UInt8} {n : Nat} (h : BufAt T base w p ao cap bs n) : w.cell? ⟨p, 1, none⟩ = some (.int .i64 n) := by rw [cell_of_heap h.1]; rfl
theorem BufAt.f {T base : Nat} {w : World} {p : Nat} {ao : Option Addr} {cap : Nat} {bs : List UInt8} {n : Nat} (h : BufAt T base w p ao cap bs n) (i : Nat) : w.frozen? ⟨p, i, none⟩ = false := free_of_heap h.1 i
theorem BufAt.lt {T base : Nat} {w : World} {p : Nat} {ao : Option Addr} {cap : Nat} {bs : List UInt8} {n : Nat} (h : BufAt T base w p ao cap bs n) : ∀ k, BufSet p ao k → base ≤ k ∧ k < w.heap.size := by
  rintro k (rfl | hk)
  · exact ⟨h.2.2.2.2, (Array.getElem?_eq_some_iff.1 h.1).1⟩
  · exact ownsRow_lt h.2.1 k (own_slice ao _ _ _ _ ▸ hk)

theorem disk_New (w : World) : Calls Try.prog 13 #[] w fun e w' => e = .returned (.pointer (some ⟨w.heap.size, 0, none⟩)) ∧ BufAt 69 w.heap.size w' w.heap.size none 0 [] 0 ∧ Below w.heap.size w w' := by
  go_enter Try.func13, Try.ntmps13
  go_wp2
  go_ret
  exact ⟨rfl, ⟨heap_alloc_new w _, World.ownsRow_nil _ _ _ _, by simp, by simp, Nat.le_refl _⟩, (Below.refl _ w).alloc (Nat.le_refl _) _⟩

theorem disk_Synced {base : Nat} (w : World) (p : Nat) (ao : Option Addr) (cap : Nat) (bs : List UInt8) (n : Nat) (h : BufAt 69 base w p ao cap bs n) :
    Calls Try.prog 26 #[.pointer (some ⟨p, 0, none⟩)] w fun e w' => e = .returned (.int .i64 n) ∧ w' = w := by
  have h1 := h.c1
  go_enter Try.func26, Try.ntmps26
  go_wp2
  go_ret
  exact ⟨rfl, rfl⟩

theorem disk_Unsynced {base : Nat} (w : World) (p : Nat) (ao : Option Addr) (cap : Nat) (bs : List UInt8) (n : Nat) (h : BufAt 69 base w p ao cap bs n) :
    Calls Try.prog 27 #[.pointer (some ⟨p, 0, none⟩)] w fun e w' => e = .returned (.int .i64 ((bs.length : Int) - (n : Int))) ∧ ∃ k, w' = w.drewN k := by
  have h0 := h.c0
  have h1 := h.c1
  have hn := h.2.2.1
  have hm := h.2.2.2.1
  go_enter Try.func27, Try.ntmps27
  go_wp2
  go_quiet (fail)
  go_wp2
  go_ret
  exact ⟨rfl, _, rfl⟩

theorem disk_Bytes {base : Nat} (w : World) (p : Nat) (ao : Option Addr) (cap : Nat) (bs : List UInt8) (n : Nat) (h : BufAt 69 base w p ao cap bs n) :
    Calls Try.prog 24 #[.pointer (some ⟨p, 0, none⟩)] w fun e w' => ∃ ao' cap', e = .returned (.slice ao' bs.length cap') ∧ w'.ownsRow w.heap.size 5 1 (.slice ao' bs.length cap') bs.length (u8s bs) ∧ Below w.heap.size w w' := by
  have h0 := h.c0
  have hm := h.2.2.2.1
  go_enter Try.func24, Try.ntmps24
  go_wp2_with fail
  refine (Clone_u8 w _ _ _ h.rd (u8s_len1 bs) (u8s_one bs) (by omega)).mono ?_
  rintro e w1 ⟨ao', cap', rfl, ho, hb, -⟩
  have HO := hide ho
  clear ho
  go_wp2_with fail
  go_ret
  exact ⟨ao', cap', rfl, HO.out, hb⟩

theorem disk_Sync {base : Nat} (w : World) (p : Nat) (ao : Option Addr) (cap : Nat) (bs : List UInt8) (n : Nat) (h : BufAt 69 base w p ao cap bs n) :
    Calls Try.prog 19 #[.pointer (some ⟨p, 0, none⟩)] w fun e w' => e = .returned (.tuple #[]) ∧ BufAt 69 base w' p ao cap bs bs.length ∧ Chg (fun k => k = p) w w' := by
  have h0 := h.c0
  have h1 := h.c1
  have hf := h.f 1
  go_enter Try.func19, Try.ntmps19
  go_wp2
  go_end0
  refine ⟨rfl, ⟨heap_setCell_same h.1 _, (Chg.setCell w ⟨p, 1, none⟩ _).owns h.2.1 ?_, Nat.le_refl _, h.2.2.2⟩, Chg.setCell w ⟨p, 1, none⟩ _⟩
  intro b hb e
  subst e
  exact ownsRow_ne h.2.1 h.1 (by decide) hb

/-- What a method that appends to a disk leaves. -/
def Grown1 (T base : Nat) (w : World) (p : Nat) (ao : Option Addr) (bs : List UInt8) (n : Nat) (w' : World) : Prop :=
  ∃ ao' cap', BufAt T base w' p ao' cap' bs n ∧ Chg (BufSet p ao) w w' ∧ ∀ k, BufSet p ao' k → BufSet p ao k ∨ w.heap.size ≤ k

theorem Grown1.of_drewN {T base : Nat} {w w' : World} {k p : Nat} {ao : Option Addr} {bs : List UInt8} {n : Nat} (h : Grown1 T base (w.drewN k) p ao bs n w') : Grown1 T base w p ao bs n w' := by
  obtain ⟨ao', cap', h1, h2, h3⟩ := h
  exact ⟨ao', cap', h1, h2.of_drewN, h3⟩

/-- Behind an append onto the disk's row, and the store of the new slice. -/
theorem grown1_mk {T base : Nat} {w w1 : World} {p : Nat} {ao ao1 : Option Addr} {cap cap1 : Nat} {bs cs : List UInt8} {n : Nat} (hT : T ≠ 5) (h : BufAt T base w p ao cap bs n)
    (hown : w1.ownsRow base 5 1 (.slice ao1 cs.length cap1) cs.length (u8s cs)) (hg : Chg (fun k => (Value.slice ao bs.length cap).ownBlock = some k) w w1)
    (hat : ∀ k, (Value.slice ao1 cs.length cap1).ownBlock = some k → (Value.slice ao bs.length cap).ownBlock = some k ∨ w.heap.size ≤ k) (hn : n ≤ cs.length) (hl : cs.length ≤ 70368744177664) :
    Grown1 T base w p ao cs n (w1.setCell ⟨p, 0, none⟩ (.slice ao1 cs.length cap1)) := by
  have hp : w1.heap[p]? = some (.cells #[.slice ao bs.length cap, .int .i64 n] T (0, 0)) := hg.heap h.1 (fun e => ownsRow_ne h.2.1 h.1 hT e)
  refine ⟨ao1, cap1, ⟨heap_setCell_same hp _, (Chg.setCell w1 ⟨p, 0, none⟩ _).owns hown ?_, hn, hl, h.2.2.2.2⟩, ?_, ?_⟩
  · intro b hb e
    subst e
    exact ownsRow_ne hown hp hT hb
  · refine hg.trans (Chg.setCell w1 ⟨p, 0, none⟩ _) (fun i _ e => .inr (own_slice ao _ _ _ _ ▸ e)) (fun i _ e => .inl e)
  · rintro k (rfl | hk)
    · exact .inl (.inl rfl)
    · rw [own_slice ao1 _ _ cs.length cap1] at hk
      rcases hat k hk with e | e
      · exact .inl (.inr (own_slice ao _ _ _ _ ▸ e))
      · exact .inr e

/-- An append's word on where its value lies. -/
theorem hat_of {o o' : Option Nat} {n : Nat} (h : o = o' ∨ o = some n) : ∀ k, o = some k → o' = some k ∨ n ≤ k := by
  intro k hk
  rcases h with h | h
  · exact .inl (h ▸ hk)
  · rw [h] at hk; cases hk; exact .inr (Nat.le_refl _)

theorem disk_Append {base : Nat} (w : World) (p : Nat) (ao : Option Addr) (cap : Nat) (bs : List UInt8) (n : Nat) (vx : Value) (xs : List UInt8) (h : BufAt 69 base w p ao cap bs n)
    (hx : Rd w vx xs.length (u8s xs)) (hl : bs.length + xs.length ≤ 70368744177664) :
    Calls Try.prog 15 #[.pointer (some ⟨p, 0, none⟩), vx] w fun e w' => e = .returned (.tuple #[]) ∧ Grown1 69 base w p ao (bs ++ xs) n w' := by
  have h0 := h.c0
  have HB := hide h
  have HX := hide hx
  have hb := hide (Nat.le_of_lt (Nat.lt_of_le_of_lt (h.lt p (.inl rfl)).1 (h.lt p (.inl rfl)).2))
  clear h hx
  go_enter Try.func15, Try.ntmps15
  go_wp2_with (at_builtin; refine wpl_append rfl _ _ _ rfl slU8 base HB.out.2.1 HX.out rfl rfl (u8s_len1 xs) (u8s_one xs) (by unfold maxLen; omega) (by omega) hb.out ?_; intro ao1 cap1 w1 hown hg hat hnil; have hp : w1.heap[p]? = some (.cells #[.slice ao bs.length cap, .int .i64 n] 69 (0, 0)) := hg.heap HB.out.1 (fun e => ownsRow_ne HB.out.2.1 HB.out.1 (by decide) e); have hc := cell_of_heap hp 0; have hf := free_of_heap hp 0; have HO := hide hown; have HG := hide hg; have HA := hide hat; have HP := hide hp; clear hown hg hat hnil hp)
  go_end0
  refine ⟨rfl, ?_⟩
  have ho := HO.out
  have ha := HA.out
  rw [← u8s_append, ← List.length_append] at ho
  rw [← List.length_append] at ha ⊢
  exact grown1_mk (by decide) HB.out ho HG.out (hat_of ha) (by have := HB.out.2.2.1; simp; omega) (by simp; omega)

/-- A cut of a row of bytes. -/
theorem own_cut {w : World} {base : Nat} {ao : Option Addr} {cap : Nat} {bs : List UInt8} (h : w.ownsRow base 5 1 (.slice ao bs.length cap) bs.length (u8s bs)) (m : Nat) (hm : m ≤ bs.length) :
    w.ownsRow base 5 1 (.slice ao (bs.take m).length cap) (bs.take m).length (u8s (bs.take m)) := by
  have := ownsRow_take h m hm
  rw [Nat.mul_one, u8s_take] at this
  have e : (bs.take m).length = m := by simp; omega
  rw [e]; exact this

theorem disk_Cut_yes {base : Nat} (w : World) (p : Nat) (ao : Option Addr) (cap : Nat) (bs : List UInt8) (n m : Nat) (h : BufAt 69 base w p ao cap bs n) (hm : m ≤ bs.length) :
    Calls Try.prog 22 #[.pointer (some ⟨p, 0, none⟩), .int .i64 m] w fun e w' => e = .returned (.bool true) ∧ Grown1 69 base w p ao (bs.take m) m w' := by
  have h0 := h.c0
  have h1 := h.c1
  have HB := hide h
  have hl := h.2.2.2.1
  have hf0 := h.f 0
  have hf1 := h.f 1
  have hcap := ownsRow_cap h.2.1
  clear h
  go_enter Try.func22, Try.ntmps22
  go_wp2
  go_ret
  have h := HB.out
  have e : (bs.take m).length = m := by simp; omega
  refine ⟨rfl, ao, cap, ⟨?_, ?_, by omega, by omega, h.2.2.2.2⟩, ?_, fun k hk => .inl hk⟩
  · rw [heap_setCell_same (heap_setCell_same h.1 _) _]
    simp [e]
  · exact ((Chg.setCell w ⟨p, 0, none⟩ _).trans (Chg.setCell _ ⟨p, 1, none⟩ _) (S'' := fun k => k = p) (fun _ _ h => h) (fun _ _ h => h)).owns (own_cut h.2.1 m hm) (fun b hb e => by subst e; exact ownsRow_ne h.2.1 h.1 (by decide) (by rw [own_slice ao _ _ (bs.take m).length cap]; exact hb))
  · exact (Chg.setCell w ⟨p, 0, none⟩ _).trans (Chg.setCell _ ⟨p, 1, none⟩ _) (fun _ _ h => .inl h) (fun _ _ h => .inl h)

theorem disk_Cut_no {base : Nat} (w : World) (p : Nat) (ao : Option Addr) (cap : Nat) (bs : List UInt8) (n : Nat) (m : Int) (h : BufAt 69 base w p ao cap bs n) (hm : m < 0 ∨ (bs.length : Int) < m) :
    Calls Try.prog 22 #[.pointer (some ⟨p, 0, none⟩), .int .i64 m] w fun e w' => e = .returned (.bool false) ∧ w' = w := by
  have h0 := h.c0
  have hl := h.2.2.2.1
  clear h
  rcases hm with hm | hm
  · have hd : decide (m < 0) = true := by simp; omega
    go_enter Try.func22, Try.ntmps22
    go_wp2
    go_ret
    exact ⟨rfl, rfl⟩
  · have hd : decide (m < 0) = false := by simp; omega
    go_enter Try.func22, Try.ntmps22
    go_wp2
    go_ret
    exact ⟨rfl, rfl⟩

/-- How many bytes a crash leaves. -/
def kept (n l : Nat) (keep : Int) : Nat := n + ((keep % 18446744073709551616) % ((l - n : Nat) + 1)).toNat

theorem kept_le (n l : Nat) (keep : Int) (hn : n ≤ l) : kept n l keep ≤ l := by
  unfold kept
  have h2 : ((keep % 18446744073709551616) % ((l - n : Nat) + 1)) < ((l - n : Nat) : Int) + 1 := Int.emod_lt_of_pos _ (by omega)
  omega
theorem kept_eq (n l : Nat) (keep : Int) (hn : n ≤ l) (hl : l ≤ 70368744177664) : wrap64 ((n : Int) + wrap64 ((IntKind.u64.wrap keep).tmod ((l : Int) - (n : Int) + 1))) = (kept n l keep : Int) := by
  have e1 : IntKind.u64.wrap keep = keep % 18446744073709551616 := by simp [IntKind.wrap, IntKind.signed, IntKind.bits]
  have e0 : 0 ≤ keep % 18446744073709551616 := Int.emod_nonneg _ (by omega)
  have h1 : 0 ≤ (keep % 18446744073709551616) % ((l : Int) - (n : Int) + 1) := Int.emod_nonneg _ (by omega)
  have h2 : (keep % 18446744073709551616) % ((l : Int) - (n : Int) + 1) < (l : Int) - (n : Int) + 1 := Int.emod_lt_of_pos _ (by omega)
  rw [e1, Int.tmod_eq_emod_of_nonneg e0]
  unfold kept
  rw [show (((l - n : Nat) : Int) + 1) = (l : Int) - (n : Int) + 1 by omega]
  generalize (keep % 18446744073709551616) % ((l : Int) - (n : Int) + 1) = r at *
  rw [IntWalk.wrap64_in r (by omega), IntWalk.wrap64_in _ (by omega)]
  omega

theorem disk_Crash {base : Nat} (w : World) (p : Nat) (ao : Option Addr) (cap : Nat) (bs : List UInt8) (n : Nat) (keep : Int) (h : BufAt 69 base w p ao cap bs n) :
    Calls Try.prog 20 #[.pointer (some ⟨p, 0, none⟩), .int .i64 keep] w fun e w' => e = .returned (.tuple #[]) ∧ Grown1 69 base w p ao (bs.take (kept n bs.length keep)) (kept n bs.length keep) w' := by
  have h1 := h.c1
  have HB := hide h
  have hl := h.2.2.2.1
  have hn := h.2.2.1
  clear h
  go_enter Try.func20, Try.ntmps20
  go_wp2
  have a1 : IntKind.i64.wrap ((bs.length : Int) - (n : Int) + 1) = (bs.length : Int) - (n : Int) + 1 := IntWalk.i64_in _ (by omega)
  have a2 : IntKind.u64.wrap ((bs.length : Int) - (n : Int) + 1) = (bs.length : Int) - (n : Int) + 1 := IntWalk.u64_in _ (by omega)
  have a3 : ((bs.length : Int) - (n : Int) + 1 = 0) = False := by simp; omega
  refine wp_region_quiet_tail 14 (by kernel_rfl) (by kernel_rfl) ?_
  simp only [List.take_succ_cons, List.take_zero, List.drop_succ_cons, List.drop_zero]
  repeat (go_big_quiet_step ((go_at_call 27; exact Calls.quiet_of (disk_Unsynced _ p ao cap bs n (by exact HB.out)))))
  refine wpQuiet_nil ?_
  intro _ hw'
  obtain ⟨nq, hw''⟩ := hw'
  subst hw''
  go_wp2_with fail
  rw [kept_eq n bs.length keep hn hl]
  refine (disk_Cut_yes _ p ao cap bs n (kept n bs.length keep) (by exact HB.out) (kept_le _ _ _ hn)).mono ?_
  rintro e w1 ⟨rfl, hg⟩
  have HG := hide hg
  clear hg
  go_wp2_with fail
  go_end0
  exact ⟨rfl, HG.out.of_drewN⟩

theorem ref_Append {base : Nat} (w : World) (p : Nat) (ao : Option Addr) (cap : Nat) (bs : List UInt8) (n : Nat) (vx : Value) (xs : List UInt8) (h : BufAt 30 base w p ao cap bs n)
    (hx : Rd w vx xs.length (u8s xs)) (hl : bs.length + xs.length ≤ 70368744177664) :
    Calls Try.prog 16 #[.pointer (some ⟨p, 0, none⟩), vx] w fun e w' => e = .returned (.tuple #[]) ∧ Grown1 30 base w p ao (bs ++ xs) n w' := by
  have h0 := h.c0
  have HB := hide h
  have HX := hide hx
  have hb := hide (Nat.le_of_lt (Nat.lt_of_le_of_lt (h.lt p (.inl rfl)).1 (h.lt p (.inl rfl)).2))
  clear h hx
  go_enter Try.func16, Try.ntmps16
  go_wp2_with (first
    | (at_builtin; refine wpl_append0 rfl (.const (.slice none 0 0)) (.tmp 8) _ rfl slU8 base (World.ownsRow_nil w base _ 1) HB.out.rd rfl rfl (u8s_len1 bs) (u8s_one bs) (by omega) (by unfold maxLen; omega) hb.out ?_; intro ao1 cap1 w1 hown hg hat hnil; have HO := hide hown; have HG := hide hg; have HA := hide hat; clear hown hg hat hnil)
    | (at_builtin; refine wpl_append rfl (.tmp 9) (.tmp 10) _ rfl slU8 base HO.out (HX.out.chg HG.out (fun _ _ _ h => by cases h)) rfl rfl (u8s_len1 xs) (u8s_one xs) (by unfold maxLen; omega) (by omega) (Nat.le_trans hb.out HG.out.size) ?_; intro ao2 cap2 w2 hown2 hg2 hat2 hnil2; have HO2 := hide hown2; have HG2 := hide (HG.out.trans (S'' := fun k => (Value.slice ao bs.length cap).ownBlock = some k) hg2 (fun _ _ e => by cases e) (fun k hk e => by rcases HA.out with e1 | e1 <;> rw [e1] at e <;> cases e; omega)); have HA2 := hide hat2; clear hown2 hg2 hat2 hnil2; have hp : w2.heap[p]? = some (.cells #[.slice ao bs.length cap, .int .i64 n] 30 (0, 0)) := HG2.out.heap HB.out.1 (fun e => ownsRow_ne HB.out.2.1 HB.out.1 (by decide) e); have hc := cell_of_heap hp 0; have hf := free_of_heap hp 0; have HP := hide hp; clear hp))
  go_end0
  refine ⟨rfl, ?_⟩
  have ho := HO2.out
  have hg := HG2.out
  have ha1 := HA.out
  have ha := HA2.out
  have hz := HG.out.size
  rw [← u8s_append, ← List.length_append] at ho
  rw [← List.length_append] at ha ⊢
  refine grown1_mk (by decide) HB.out ho hg ?_ (by have := HB.out.2.2.1; simp; omega) (by simp; omega)
  intro k hk
  right
  rcases hat_of ha k hk with e | e
  · rcases ha1 with e1 | e1 <;> rw [e1] at e <;> cases e
    exact Nat.le_refl _
  · omega

/-- A cut of the document's disk: a new row. -/
theorem ref_Cut_yes {base : Nat} (w : World) (p : Nat) (ao : Option Addr) (cap : Nat) (bs : List UInt8) (n m : Nat) (h : BufAt 30 base w p ao cap bs n) (hm : m ≤ bs.length) :
    Calls Try.prog 23 #[.pointer (some ⟨p, 0, none⟩), .int .i64 m] w fun e w' => e = .returned (.bool true) ∧ Grown1 30 base w p ao (bs.take m) m w' := by
  have h0 := h.c0
  have HB := hide h
  have hl := h.2.2.2.1
  have hcap := ownsRow_cap h.2.1
  have hb := hide (Nat.le_of_lt (Nat.lt_of_le_of_lt (h.lt p (.inl rfl)).1 (h.lt p (.inl rfl)).2))
  have em : (bs.take m).length = m := by simp; omega
  have HE := hide em
  have HR : Hid (Rd w (.slice ao m cap) m (u8s (bs.take m))) := by
    have := Rd.of_owns (own_cut h.2.1 m hm)
    rwa [em] at this
  clear h em
  go_enter Try.func23, Try.ntmps23
  go_wp2_with (at_builtin; refine wpl_append0 rfl (.const (.slice none 0 0)) (.tmp 22) _ rfl slU8 base (World.ownsRow_nil w base _ 1) HR.out rfl rfl (by rw [u8s_len1, HE.out]) (u8s_one _) (by omega) (by unfold maxLen; omega) hb.out ?_; intro ao1 cap1 w1 hown hg hat hnil; have hp : w1.heap[p]? = some (.cells #[.slice ao bs.length cap, .int .i64 n] 30 (0, 0)) := hg.heap HB.out.1 (fun e => by cases e); have hc := cell_of_heap hp 0; have hf := free_of_heap hp 0; have hc1 := cell_of_heap hp 1; have hf1 := free_of_heap hp 1; have HO := hide hown; have HG := hide hg; have HA := hide hat; have HP := hide hp; clear hown hg hat hnil hp)
  go_ret
  refine ⟨rfl, ?_⟩
  have ho := HO.out
  have ha := HA.out
  have e := HE.out
  refine ⟨ao1, cap1, ⟨?_, ?_, by omega, by omega, HB.out.2.2.2.2⟩, ?_, ?_⟩
  · rw [heap_setCell_same (heap_setCell_same HP.out _) _, e]
    simp
  · rw [e]
    exact ((Chg.setCell w1 ⟨p, 0, none⟩ _).trans (Chg.setCell _ ⟨p, 1, none⟩ _) (S'' := fun k => k = p) (fun _ _ h => h) (fun _ _ h => h)).owns ho (fun b hb e => by subst e; exact ownsRow_ne ho HP.out (by decide) hb)
  · exact HG.out.trans ((Chg.setCell w1 ⟨p, 0, none⟩ _).trans (Chg.setCell _ ⟨p, 1, none⟩ _) (S'' := fun k => k = p) (fun _ _ h => h) (fun _ _ h => h)) (fun _ _ e => by cases e) (fun _ _ e => .inl e)
  · rintro k (rfl | hk)
    · exact .inl (.inl rfl)
    · right
      rw [own_slice ao1 _ _ m cap1] at hk
      rcases ha with e1 | e1 <;> rw [e1] at hk <;> cases hk
      exact Nat.le_refl _

theorem ref_Cut_no {base : Nat} (w : World) (p : Nat) (ao : Option Addr) (cap : Nat) (bs : List UInt8) (n : Nat) (m : Int) (h : BufAt 30 base w p ao cap bs n) (hm : m < 0 ∨ (bs.length : Int) < m) :
    Calls Try.prog 23 #[.pointer (some ⟨p, 0, none⟩), .int .i64 m] w fun e w' => e = .returned (.bool false) ∧ w' = w := by
  have h0 := h.c0
  have hl := h.2.2.2.1
  clear h
  rcases hm with hm | hm
  · have hd : decide (m < 0) = true := by simp; omega
    go_enter Try.func23, Try.ntmps23
    go_wp2
    go_ret
    exact ⟨rfl, rfl⟩
  · have hd : decide (m < 0) = false := by simp; omega
    go_enter Try.func23, Try.ntmps23
    go_wp2
    go_ret
    exact ⟨rfl, rfl⟩

theorem ref_Crash {base : Nat} (w : World) (p : Nat) (ao : Option Addr) (cap : Nat) (bs : List UInt8) (n : Nat) (keep : Int) (h : BufAt 30 base w p ao cap bs n) :
    Calls Try.prog 21 #[.pointer (some ⟨p, 0, none⟩), .int .i64 keep] w fun e w' => e = .returned (.tuple #[]) ∧ Grown1 30 base w p ao (bs.take (kept n bs.length keep)) (kept n bs.length keep) w' := by
  have h0 := h.c0
  have h1 := h.c1
  have HB := hide h
  have hl := h.2.2.2.1
  have hn := h.2.2.1
  clear h
  have a1 : IntKind.i64.wrap ((bs.length : Int) - (n : Int)) = (bs.length : Int) - (n : Int) := IntWalk.i64_in _ (by omega)
  have a2 : IntKind.u64.wrap ((bs.length : Int) - (n : Int)) = (bs.length : Int) - (n : Int) := IntWalk.u64_in _ (by omega)
  have a4 : IntKind.u64.wrap ((bs.length : Int) - (n : Int) + 1) = (bs.length : Int) - (n : Int) + 1 := IntWalk.u64_in _ (by omega)
  have a3 : ((bs.length : Int) - (n : Int) + 1 = 0) = False := by simp; omega
  go_enter Try.func21, Try.ntmps21
  go_wp2_with fail
  go_quiet (fail)
  go_wp2_with fail
  refine wp_region_quiet_tail 12 (by kernel_rfl) (by kernel_rfl) ?_
  simp only [List.take_succ_cons, List.take_zero, List.drop_succ_cons, List.drop_zero]
  repeat (go_big_quiet_step (fail))
  refine wpQuiet_nil ?_
  intro _ hw'
  obtain ⟨nq, hw''⟩ := hw'
  subst hw''
  go_wp2_with fail
  rw [kept_eq n bs.length keep hn hl]
  refine (ref_Cut_yes _ p ao cap bs n (kept n bs.length keep) (by exact HB.out) (kept_le _ _ _ hn)).mono ?_
  rintro e w1 ⟨rfl, hg⟩
  have HG := hide hg
  clear hg
  go_wp2_with fail
  go_end0
  exact ⟨rfl, HG.out.of_drewN⟩

end Go.Proofs.Ythhnpafadinheaa
