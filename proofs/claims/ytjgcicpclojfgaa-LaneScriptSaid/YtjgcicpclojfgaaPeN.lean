/- A pile of api.Entry: New, Put, Len, All. -/
import Derived.Test.YtjgcicpclojfgaaPe
namespace Go.Proofs.Ytjgcicpclojfgaa
open Go.RowKit Go.Shelf

set_option maxRecDepth 100000 in
theorem pe_New (w : World) (g : Nat) : Calls Try.prog 66 #[.func (.func g) #[] #[]] w fun e w' => e = .returned (.pointer (some ⟨w.heap.size, 0, none⟩)) ∧ pe_At w.heap.size w' w.heap.size g none 0 [] ∧ Below w.heap.size w w' := by
  have hnn : ∀ w', Sem.run Try.prog (binOp BinOp.eql 103 (.func (.func g) #[] #[]) .nilFunc) w' = .ok (.bool false) w' := by intro w'; kernel_rfl
  go_enter Try.func66, Try.ntmps66
  go_wp2
  go_ret
  refine ⟨rfl, ?_, (Below.refl _ w).alloc (Nat.le_refl _) _⟩
  have h0 := heap_alloc_new w (.cells #[.func (.func g) #[] #[], .slice none 0 0] 119)
  unfold pe_At PileAt
  rw [List.length_nil, flat_nil]
  exact ⟨h0, World.ownsRow_nil _ _ _ _, Nat.le_refl _, by omega⟩
theorem pe_Len {base : Nat} (w : World) (p g : Nat) (ao : Option Addr) (cap : Nat) (l : List En) (h : pe_At base w p g ao cap l) : Calls Try.prog 73 #[.pointer (some ⟨p, 0, none⟩)] w fun e w' => e = .returned (.int .i64 l.length) ∧ w' = w := by
  have h1 := h.c1
  clear h
  go_enter Try.func73, Try.ntmps73
  go_wp2
  go_ret
  exact ⟨rfl, rfl⟩
theorem pe_All (w : World) (p : Option Addr) : Calls Try.prog 72 #[.pointer p] w fun e w' => e = .returned (.func (.func 89) #[] #[.pointer (some ⟨w.heap.size, 0, none⟩)]) ∧ w' = w.alloc (.cells #[.pointer p] 101) := by
  go_enter Try.func72, Try.ntmps72
  go_wp2
  go_ret
  exact ⟨rfl, rfl⟩

set_option maxRecDepth 100000 in
set_option maxHeartbeats 2000000 in
theorem pe_Put {base : Nat} (w : World) (p g : Nat) (ao : Option Addr) (cap : Nat) (l : List En) (lt : En → En → Bool) (hle : pe_Less g lt) (h : pe_At base w p g ao cap l) (vx : Value) (xs : List En) (hx : Rd w vx xs.length (flat pe_enc xs))
    (hb : ∀ b, vx.ownBlock = some b → xs ≠ [] → ¬ PSet p ao b ∧ b < w.heap.size) (hl : l.length + xs.length ≤ 1000) :
    Calls Try.prog 68 #[.pointer (some ⟨p, 0, none⟩), vx] w fun e w' => e = .returned (.tuple #[]) ∧ pe_Grew base w p g ao (xs.foldl (ins lt) l) w' := by
  obtain ⟨av, cv, rfl, -, -⟩ := hx.shape
  have HX := hide hx
  have HL := hide hle
  have HB := hide hb
  have HP := hide h
  clear hx hle hb h
  go_enter Try.func68, Try.ntmps68
  go_wp2_with fail
  go_loopw [10] (fun i wr => ∃ k : Nat, k ≤ xs.length ∧ i = .int .i64 k ∧ Hid (pe_Grew base w p g ao ((xs.take k).foldl (ins lt) l) wr)) (fun i _ => xs.length - (intOf i).toNat)
  case atStart => exact ⟨0, Nat.zero_le _, rfl, Grew.refl HP.out⟩
  case round =>
    obtain ⟨k, hk, rfl, HG⟩ := hrel
    by_cases hlt : k < xs.length
    · obtain ⟨ao1, cap1, h1, hc1, hs1⟩ := HG.out
      have hne : xs ≠ [] := by rintro rfl; simp at hlt
      have hxr := HX.out.chg hc1 (fun b hb' _ => (HB.out b hb' hne).1)
      obtain ⟨a', c', e, -, hcs0⟩ := hxr.shape
      obtain ⟨b, off, rfl, hcs⟩ := hcs0 (by omega)
      cases e
      obtain ⟨hx0, hx1, hx2, hx3⟩ := pe_cells wr b off xs hcs k hlt
      have hlen : ∀ (ys l0 : List En), (ys.foldl (ins lt) l0).length = l0.length + ys.length := by
        intro ys
        induction ys with
        | nil => simp
        | cons y ys ih => intro l0; rw [List.foldl_cons, ih, ins_length, List.length_cons]; omega
      have hll : ((xs.take k).foldl (ins lt) l).length < 1000 := by rw [hlen, List.length_take]; omega
      have H1 := hide h1
      have HC1 := hide hc1
      have HS1 := hide hs1
      have HLL := hide hll
      clear h1 hc1 hs1 hxr hcs hcs0 hlen hll HG hne
      go_wp2_with fail
      refine (pe_put _ p g ao1 cap1 ((xs.take k).foldl (ins lt) l) lt xs[k] HL.out (H1.out.chg (Chg.alloc (fun _ => False) wr _) (fun _ _ h => h)) HLL.out).mono ?_
      rintro e w2 ⟨rfl, hg2⟩
      have HG2 := hide hg2
      clear hg2
      go_wp2_with fail
      go_roundw
      case rel =>
        refine ⟨k + 1, by omega, by go_num, ?_⟩
        have hc : Chg (PSet p ao) w (wr.alloc (.cells #[.int .i64 (xs[k]).number, .int .i64 (xs[k]).commit, .int .i64 (xs[k]).lane, .int .i64 (xs[k]).code] 71)) := HC1.out.trans (Chg.alloc (fun _ => False) wr _) (fun _ _ h => h) (fun _ _ h => h.elim)
        have hg := grew_trans hc HS1.out HG2.out
        rw [take_succ_get xs k hlt, List.foldl_append]
        exact hg
      case measure => simp [intOf]; omega
    · obtain rfl : k = xs.length := by omega
      go_wp2_with fail
      go_end0
      refine ⟨rfl, ?_⟩
      have hg := HG.out
      rwa [List.take_length] at hg
end Go.Proofs.Ytjgcicpclojfgaa
