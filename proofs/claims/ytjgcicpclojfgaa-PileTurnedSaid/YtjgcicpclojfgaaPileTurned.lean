/- PileTurned: by the turned order unlike numbers come out the other way round; in whatever order of two parts they come out alike. Conditions: none. -/
import Derived.Test.YtjgcicpclojfgaaRows
import Derived.WalkKit
import Derived.ProofKit
import Derived.OpenShut
import Derived.ShutString
import Derived.ChangeOld
import Derived.Below
import Derived.Test.YtjgcicpclojfgaaPileB
import Derived.Test.YtjgcicpclojfgaaPileP
import Derived.Test.YtjgcicpclojfgaaPileDI
namespace Go.Proofs.Ytjgcicpclojfgaa
open Go.ChangeShapes Go.WideShapes Go.ChangeAt Go.RowKit
open Go.ChangeMaps (open_string shut_string)
set_option linter.unusedVariables false

theorem law_own : ownKnob Try.prog.godebug = none := by kernel_rfl
theorem law_laid : laidOutB Try.prog = true := by kernel_rfl
open Go.Shelf

theorem ltI_ord : IsOrd ltI := ⟨fun a b h => by simp [ltI] at *; omega, fun a b c h1 h2 => by simp [ltI] at *; omega⟩
/-- The turned order. -/
def gtI (a b : Int) : Bool := decide (b < a)
theorem gtI_ord : IsOrd gtI := ⟨fun a b h => by simp [gtI] at *; omega, fun a b c h1 h2 => by simp [gtI] at *; omega⟩
theorem turned_less : pi_Less 35 gtI := by
  refine ⟨enters_of Try.func35 (by kernel_rfl) rfl, fun W x y => ?_⟩
  go_enter Try.func35, Try.ntmps35
  go_wp2
  go_ret
  exact ⟨rfl, rfl⟩
def evn (x : Int) : Bool := x.tmod 2 == 0
theorem even_ok (W : World) (x : Int) : Calls Try.prog 36 #[.int .i64 x] W fun e W' => e = .returned (.bool (evn x)) ∧ W' = W := by
  have t1 := Int.tmod_lt_of_pos x (show (0 : Int) < 2 by decide)
  have t2 := Int.lt_tmod_of_pos x (show (0 : Int) < 2 by decide)
  have a1 : IntKind.i64.wrap (x.tmod 2) = x.tmod 2 := IntWalk.i64_in _ (by omega)
  clear t1 t2
  go_enter Try.func36, Try.ntmps36
  go_wp2
  go_ret
  exact ⟨by simp [evn], rfl⟩
theorem even_pred (Q : World → Prop) : pi_Pred 36 #[] evn Q :=
  ⟨enters_of Try.func36 (by kernel_rfl) rfl, fun W x _ => (even_ok W x).mono (fun _ _ ⟨h1, h2⟩ => ⟨h1, h2 ▸ Below.refl _ _⟩)⟩
theorem odd_pred (Q : World → Prop) : pi_Pred 37 #[] (fun x => !evn x) Q := by
  refine ⟨enters_of Try.func37 (by kernel_rfl) rfl, fun W x _ => ?_⟩
  go_enter Try.func37, Try.ntmps37
  go_wp2_with fail
  refine (even_ok W x).mono ?_
  rintro e w1 ⟨rfl, rfl⟩
  go_wp2_with fail
  go_ret
  exact ⟨rfl, Below.refl _ _⟩

theorem sorted_unique : ∀ (l m : List Int), l.Perm m → l.Pairwise (· ≤ ·) → m.Pairwise (· ≤ ·) → l = m
  | [], m, h, _, _ => (List.nil_perm.1 h).symm
  | x :: l, [], h, _, _ => absurd (List.perm_nil.1 h) (by simp)
  | x :: l, y :: m, h, h1, h2 => by
    have hxy : x = y := by
      have hx : x ∈ y :: m := h.subset (by simp)
      have hy : y ∈ x :: l := h.symm.subset (by simp)
      rcases List.mem_cons.1 hx with e | hx
      · exact e
      rcases List.mem_cons.1 hy with e | hy
      · exact e.symm
      have := (List.pairwise_cons.1 h1).1 y hy
      have := (List.pairwise_cons.1 h2).1 x hx
      omega
    subst hxy
    rw [sorted_unique l m (List.perm_cons x |>.1 h) (List.pairwise_cons.1 h1).2 (List.pairwise_cons.1 h2).2]
theorem ltI_sorted {l : List Int} (h : Sorted ltI l) : l.Pairwise (· ≤ ·) := h.imp (fun h => by simp [ltI] at h; exact h)
theorem gtI_sorted {l : List Int} (h : Sorted gtI l) : l.reverse.Pairwise (· ≤ ·) := by
  rw [List.pairwise_reverse]
  exact h.imp (fun h => by simp [gtI] at h; exact h)
theorem turned_lists (xs ys : List Int) :
    (xs ++ ys).foldl (ins ltI) [] = (ys ++ xs).foldl (ins ltI) [] ∧ ((xs ++ ys).foldl (ins gtI) []).reverse = (xs ++ ys).foldl (ins ltI) [] := by
  have p1 : ((xs ++ ys).foldl (ins ltI) []).Perm (xs ++ ys) := by simpa using foldl_ins_perm ltI (xs ++ ys) []
  have p2 : ((ys ++ xs).foldl (ins ltI) []).Perm (ys ++ xs) := by simpa using foldl_ins_perm ltI (ys ++ xs) []
  have p3 : ((xs ++ ys).foldl (ins gtI) []).Perm (xs ++ ys) := by simpa using foldl_ins_perm gtI (xs ++ ys) []
  have s1 := ltI_sorted (foldl_ins_sorted ltI_ord (xs ++ ys) (l := []) List.Pairwise.nil)
  have s2 := ltI_sorted (foldl_ins_sorted ltI_ord (ys ++ xs) (l := []) List.Pairwise.nil)
  have s3 := gtI_sorted (foldl_ins_sorted gtI_ord (xs ++ ys) (l := []) List.Pairwise.nil)
  exact ⟨sorted_unique _ _ (p1.trans (List.perm_append_comm.trans p2.symm)) s1 s2, sorted_unique _ _ ((List.reverse_perm _).trans (p3.trans p1.symm)) s3 s1⟩

theorem filter_two (f : Int → Bool) : ∀ l : List Int, (l.filter fun x => !f x).length + (l.filter f).length = l.length
  | [] => rfl
  | x :: l => by
    have ih := filter_two f l
    cases h : f x <;> simp [h] <;> omega
/-- Three piles apart from each other. -/
structure Pd where
  p : Nat
  g : Nat
  ao : Option Addr
  cap : Nat
  l : List Int
def Pd.At (n0 : Nat) (w : World) (d : Pd) : Prop := pi_At n0 w d.p d.g d.ao d.cap d.l
def Pd.S (d : Pd) (k : Nat) : Prop := PSet d.p d.ao k
def Tri (n0 : Nat) (W : World) (A B C : Pd) (w : World) : Prop :=
  A.At n0 w ∧ B.At n0 w ∧ C.At n0 w ∧ Below n0 W w ∧ (∀ k, A.S k → ¬ B.S k ∧ ¬ C.S k) ∧ ∀ k, B.S k → ¬ C.S k
theorem Tri.rot {n0 : Nat} {W w : World} {A B C : Pd} (h : Tri n0 W A B C w) : Tri n0 W B C A w := by
  obtain ⟨h1, h2, h3, h4, h5, h6⟩ := h
  exact ⟨h2, h3, h1, h4, fun k hk => ⟨h6 k hk, fun ha => (h5 k ha).1 hk⟩, fun k hk ha => (h5 k ha).2 hk⟩
theorem Tri.below {n0 : Nat} {W w w' : World} {A B C : Pd} (h : Tri n0 W A B C w) (hb : Below w.heap.size w w') : Tri n0 W A B C w' := by
  obtain ⟨h1, h2, h3, h4, h5⟩ := h
  have c := Chg.of_below0 (S := fun _ => False) hb
  exact ⟨h1.chg c (fun _ _ h => h), h2.chg c (fun _ _ h => h), h3.chg c (fun _ _ h => h), h4.trans (hb.mono h1.low), h5⟩
theorem Tri.drewN {n0 : Nat} {W w : World} {A B C : Pd} (h : Tri n0 W A B C w) (n : Nat) : Tri n0 W A B C (w.drewN n) := ⟨h.1, h.2.1, h.2.2.1, bdrewN h.2.2.2.1 n, h.2.2.2.2⟩
theorem Tri.grow {n0 : Nat} {W w w' : World} {p g cap : Nat} {ao : Option Addr} {l l' : List Int} {B C : Pd} (h : Tri n0 W ⟨p, g, ao, cap, l⟩ B C w) (hg : pi_Grew n0 w p g ao l' w') : ∃ ao' cap', Tri n0 W ⟨p, g, ao', cap', l'⟩ B C w' := by
  obtain ⟨h1, h2, h3, h4, h5, h6⟩ := h
  obtain ⟨ao', cap', g1, g2, g3⟩ := hg
  refine ⟨ao', cap', g1, h2.chg g2 (fun k hk e => (h5 k e).1 hk), h3.chg g2 (fun k hk e => (h5 k e).2 hk), h4.trans (g2.below h1.low (fun k hk e => by have := (h1.lt k e).1; omega)), fun k hk => ?_, h6⟩
  rcases g3 k hk with h | h
  · exact h5 k h
  · exact ⟨fun hb => by have := (h2.lt k hb).2; omega, fun hc => by have := (h3.lt k hc).2; omega⟩
theorem At_low {n0 b : Nat} {w : World} {p g : Nat} {ao : Option Addr} {cap : Nat} {l : List Int} (h : pi_At b w p g ao cap l) (hb : n0 ≤ b) : pi_At n0 w p g ao cap l :=
  ⟨h.1, ownsRow_base h.2.1 (fun k hk => Nat.le_trans hb (ownsRow_lt h.2.1 k hk).1), Nat.le_trans hb h.2.2.1, h.2.2.2⟩
/-- Three new ones. -/
theorem Tri.new {W w1 w2 w3 : World} {g1 g2 g3 : Nat} (h1 : pi_At W.heap.size w1 W.heap.size g1 none 0 []) (b1 : Below W.heap.size W w1) (h2 : pi_At w1.heap.size w2 w1.heap.size g2 none 0 []) (b2 : Below w1.heap.size w1 w2)
    (h3 : pi_At w2.heap.size w3 w2.heap.size g3 none 0 []) (b3 : Below w2.heap.size w2 w3) :
    Tri W.heap.size W ⟨W.heap.size, g1, none, 0, []⟩ ⟨w1.heap.size, g2, none, 0, []⟩ ⟨w2.heap.size, g3, none, 0, []⟩ w3 := by
  have l1 := (h1.lt _ (.inl rfl)).2
  have l2 := (h2.lt _ (.inl rfl)).2
  have z1 := b1.size
  have z2 := b2.size
  have e : ∀ (p k : Nat), PSet p none k → k = p := fun p k h => h.elim id (fun h => by cases h)
  refine ⟨(h1.chg (Chg.of_below0 (S := fun _ => False) b2) (fun _ _ h => h)).chg (Chg.of_below0 (S := fun _ => False) b3) (fun _ _ h => h), At_low (h2.chg (Chg.of_below0 (S := fun _ => False) b3) (fun _ _ h => h)) z1, At_low h3 (Nat.le_trans z1 z2),
    b1.trans ((b2.mono z1).trans (b3.mono (Nat.le_trans z1 z2))), fun k hk => ⟨fun hb => ?_, fun hc => ?_⟩, fun k hk hc => ?_⟩
  · have := e _ _ hk; have := e _ _ hb; dsimp only at *; omega
  · have := e _ _ hk; have := e _ _ hc; dsimp only at *; omega
  · have := e _ _ hk; have := e _ _ hc; dsimp only at *; omega
/-- A list that was handed in, in whatever later world. -/
def In (W : World) (v : Value) (xs : List Int) : Prop := ∀ w', Below W.heap.size W w' → Rd w' v xs.length (xs.map (Value.int .i64)) ∧ ∀ b, v.ownBlock = some b → xs ≠ [] → b < W.heap.size
theorem In.put {W w : World} {v : Value} {xs : List Int} {A B C : Pd} (h : In W v xs) (t : Tri W.heap.size W A B C w) : Rd w v xs.length (xs.map (Value.int .i64)) ∧ ∀ b, v.ownBlock = some b → xs ≠ [] → ¬ A.S b ∧ b < w.heap.size := by
  obtain ⟨h1, h2⟩ := h w t.2.2.2.1
  exact ⟨h1, fun b hb hn => ⟨fun hs => by have := h2 b hb hn; have := (t.1.lt b hs).1; omega, Nat.lt_of_lt_of_le (h2 b hb hn) t.2.2.2.1.size⟩⟩

set_option maxRecDepth 100000 in
set_option maxHeartbeats 8000000 in
theorem PileTurned_walk {H : Type} {enc : TypeId × Value → H} (W : World) (a0 : Option Addr) (n0 c0 : Nat) (hv : Readable enc Try.prog W 22 [.slice a0 n0 c0]) (a1 : Option Addr) (n1 c1 : Nat) (hv1 : Readable enc Try.prog W 22 [.slice a1 n1 c1]) :
    Calls Try.prog 7 #[.slice a0 n0 c0, .slice a1 n1 c1] W fun e W' => e = .returned (.bool true) ∧ Below W.heap.size W W' := by
  obtain ⟨v', xs, hv', hr, hl, hwf, hbl⟩ := hv.ints Try.underlying22 Try.underlying3 (by kernel_rfl)
  obtain rfl : .slice a0 n0 c0 = v' := by simpa using hv'
  obtain ⟨v'', ys, hv'', hr1, hl1, hwf1, hbl1⟩ := hv1.ints Try.underlying22 Try.underlying3 (by kernel_rfl)
  obtain rfl : .slice a1 n1 c1 = v'' := by simpa using hv''
  obtain ⟨ao', cap', e, -, -⟩ := hr.shape
  cases e
  obtain ⟨ao', cap', e, -, -⟩ := hr1.shape
  cases e
  have rdx : In W (.slice a0 xs.length c0) xs := fun w' hb =>
    ⟨hr.chg (Chg.of_below hb) (fun b h1 h2 h3 => by have := hbl b h1 (by rintro rfl; exact h2 rfl); omega), hbl⟩
  have rdy : In W (.slice a1 ys.length c1) ys := fun w' hb =>
    ⟨hr1.chg (Chg.of_below hb) (fun b h1 h2 h3 => by have := hbl1 b h1 (by rintro rfl; exact h2 rfl); omega), hbl1⟩
  have HRX := hide rdx
  have HRY := hide rdy
  have hmx : xs.length ≤ 9223372036854775807 := hl
  have hmy : ys.length ≤ 9223372036854775807 := hl1
  clear hr hbl hv hv' hwf hl hr1 hbl1 hv1 hv'' hwf1 hl1 rdx rdy
  by_cases hlen : xs.length ≤ 60 ∧ ys.length ≤ 60
  · obtain ⟨hlx, hly⟩ := hlen
    go_enter Try.func7, Try.ntmps7
    go_wp2_with fail
    refine (pi_New W _).mono ?_
    rintro e w1 ⟨rfl, h1, hb1⟩
    have H1 := hide h1
    have HB1 := hide hb1
    clear h1 hb1
    go_wp2_with fail
    refine (pi_New w1 _).mono ?_
    rintro e w2 ⟨rfl, h2, hb2⟩
    have H2 := hide h2
    have HB2 := hide hb2
    clear h2 hb2
    go_wp2_with fail
    refine (pi_New w2 _).mono ?_
    rintro e w3 ⟨rfl, h3, hb3⟩
    have T3 := hide (Tri.new H1.out HB1.out H2.out HB2.out h3 hb3)
    obtain ⟨p, hp⟩ : ∃ p, p = W.heap.size := ⟨_, rfl⟩
    obtain ⟨q, hq⟩ : ∃ q, q = w1.heap.size := ⟨_, rfl⟩
    obtain ⟨r, hr⟩ : ∃ r, r = w2.heap.size := ⟨_, rfl⟩
    have T3' : Hid (Tri W.heap.size W ⟨p, 14, none, 0, []⟩ ⟨q, 14, none, 0, []⟩ ⟨r, 35, none, 0, []⟩ w3) := by rw [hp, hq, hr]; exact T3
    rw [← hp, ← hq, ← hr]
    have HP0 := hide hp
    clear h3 hb3 H1 HB1 H2 HB2 T3 hp hq hr
    go_wp2_with fail
    refine (pi_Put (base := W.heap.size) w3 p _ _ _ [] ltI lower_less T3'.out.1 _ xs (HRX.out.put T3'.out).1 (HRX.out.put T3'.out).2 (by simp; omega)).mono ?_
    rintro e w4 ⟨rfl, hg4⟩
    obtain ⟨ap4, cp4, ht4⟩ := T3'.out.grow hg4
    have T4 := hide ht4
    clear hg4 ht4
    go_wp2_with fail
    refine (pi_Put (base := W.heap.size) w4 p _ _ _ _ ltI lower_less T4.out.1 _ ys (HRY.out.put T4.out).1 (HRY.out.put T4.out).2 (by rw [foldl_ins_length]; simp; omega)).mono ?_
    rintro e w5 ⟨rfl, hg5⟩
    obtain ⟨ap5, cp5, ht5⟩ := T4.out.grow hg5
    rw [← List.foldl_append] at ht5
    have T5 := hide ht5.rot
    clear hg5 ht5
    go_wp2_with fail
    refine (pi_Put (base := W.heap.size) w5 q _ _ _ [] ltI lower_less T5.out.1 _ ys (HRY.out.put T5.out).1 (HRY.out.put T5.out).2 (by simp; omega)).mono ?_
    rintro e w6 ⟨rfl, hg6⟩
    obtain ⟨ap6, cp6, ht6⟩ := T5.out.grow hg6
    have T6 := hide ht6
    clear hg6 ht6
    go_wp2_with fail
    refine (pi_Put (base := W.heap.size) w6 q _ _ _ _ ltI lower_less T6.out.1 _ xs (HRX.out.put T6.out).1 (HRX.out.put T6.out).2 (by rw [foldl_ins_length]; simp; omega)).mono ?_
    rintro e w7 ⟨rfl, hg7⟩
    obtain ⟨ap7, cp7, ht7⟩ := T6.out.grow hg7
    rw [← List.foldl_append] at ht7
    have T7 := hide ht7.rot
    have HX7 := hide (HRX.out w7 ht7.2.2.2.1)
    clear hg7 ht7
    have hps7 := T7.out.2.2.2.1.size
    have HPS7 := hide hps7
    clear hps7
    go_wp2_with (first
      | (at_builtin; refine wpl_append0 rfl (.const (.slice none 0 0)) (.tmp 49) _ rfl seqI_sl W.heap.size (World.ownsRow_nil w7 W.heap.size _ 1) HX7.out.1 rfl rfl (by simp) (fun u hu => by obtain ⟨y, _, rfl⟩ := List.mem_map.1 hu; rfl) (by omega) (by unfold maxLen; omega) HPS7.out ?_; intro ao8 cap8 w8 hown hg hat hnil; have HO8 := hide hown; have HB8 : Hid (Below w7.heap.size w7 w8) := hg.below (Nat.le_refl _) (fun _ _ e => by cases e); have HA8 := hide hat; clear hown hg hat hnil; have T8 := hide (T7.out.below HB8.out); have HY8 := hide (HRY.out w8 T8.out.2.2.2.1))
      | (at_builtin; refine wpl_append rfl (.tmp 50) (.tmp 51) _ rfl seqI_sl W.heap.size HO8.out HY8.out.1 rfl rfl (by simp) (fun u hu => by obtain ⟨y, _, rfl⟩ := List.mem_map.1 hu; rfl) (by unfold maxLen; omega) (by omega) (by have := HPS7.out; have := HB8.out.size; omega) ?_; intro ao9 cap9 w9 hown hg hat hnil; have HO9 := hide hown; have HB9 : Hid (Below w7.heap.size w8 w9) := hg.below HB8.out.size (fun k hk e => by rcases HA8.out with h | h; rw [h] at e; cases e; rw [h] at e; cases e; omega); have HA9 := hide hat; clear hown hg hat hnil))
    have hd9 : ∀ k, (Value.slice ao9 (xs.length + ys.length) cap9).ownBlock = some k → w7.heap.size ≤ k := fun k hk => by
      rcases HA9.out with h | h
      · rcases HA8.out with h8 | h8
        · rw [h, h8] at hk; cases hk
        · rw [h, h8] at hk; cases hk; exact Nat.le_refl _
      · rw [h] at hk; cases hk; exact HB8.out.size
    have ht9 : Tri W.heap.size W ⟨r, 35, none, 0, []⟩ ⟨p, 14, ap5, cp5, (xs ++ ys).foldl (ins ltI) []⟩ ⟨q, 14, ap7, cp7, (ys ++ xs).foldl (ins ltI) []⟩ w9 := by
      have c : Chg (fun k => w7.heap.size ≤ k) w8 w9 := Chg.of_below HB9.out
      obtain ⟨h1, h2, h3, h4, h5, h6⟩ := T8.out
      obtain ⟨g1, g2, g3, -, -, -⟩ := T7.out
      exact ⟨h1.chg c (fun k hk e => by have := (g1.lt k hk).2; omega), h2.chg c (fun k hk e => by have := (g2.lt k hk).2; omega), h3.chg c (fun k hk e => by have := (g3.lt k hk).2; omega), h4.trans (HB9.out.mono HPS7.out), h5, h6⟩
    have T9 := hide ht9
    have HD9 := hide hd9
    have HZ7 := hide (fun k (hk : PSet r none k) => (T7.out.1.lt k hk).2)
    have hl9 : (xs ++ ys).length = xs.length + ys.length := List.length_append
    have HO9' : Hid (w9.ownsRow W.heap.size 3 1 (.slice ao9 (xs ++ ys).length cap9) (xs ++ ys).length ((xs ++ ys).map (Value.int .i64))) := by rw [List.map_append, hl9]; exact HO9.out
    have HL9 := hide hl9
    clear ht9 hd9 hl9
    rw [← HL9.out]
    refine (pi_Put (base := W.heap.size) w9 r _ _ _ [] gtI turned_less T9.out.1 _ (xs ++ ys) (Rd.of_owns HO9'.out) (fun b hb _ => ?_) (by rw [HL9.out]; simp; omega)).mono ?_
    · refine ⟨fun h => ?_, (ownsRow_lt HO9'.out b hb).2⟩
      have := HZ7.out b h
      have := HD9.out b (by rw [← HL9.out]; exact hb)
      omega
    obtain ⟨l, hl⟩ : ∃ l, l = (xs ++ ys).foldl (ins ltI) [] := ⟨_, rfl⟩
    obtain ⟨e1, e2⟩ := turned_lists xs ys
    rw [← e1, ← hl] at T9
    have hll : l.length = xs.length + ys.length := by rw [hl, foldl_ins_length, List.length_append]; simp
    have e3 : (xs ++ ys).foldl (ins gtI) [] = l.reverse := by rw [hl, ← e2, List.reverse_reverse]
    rw [e3]
    have HLL := hide hll
    clear e1 e2 e3 hl hll
    rintro e w10 ⟨rfl, hg10⟩
    obtain ⟨ar, cr, ht10⟩ := T9.out.grow hg10
    have T10 := hide ht10.rot
    have hl120 : l.length ≤ 120 := by rw [HLL.out]; omega
    clear hg10 ht10 T3' T4 T5 T6 T7 T8 T9 HO8 HO9 HO9' HB8 HB9 HA8 HA9 HD9 HZ7 HX7 HY8 HPS7 HL9
    go_wp2_with fail
    refine (pi_All w10 _).mono ?_
    rintro e w11 ⟨rfl, rfl⟩
    go_wp2_with fail
    refine (pi_told w10 p _ _ _ l T10.out.1 200 (by omega)).mono ?_
    rintro e w12 ⟨aa, ca, rfl, ho12, hb12⟩
    rw [List.take_of_length_le (by simp; omega)] at ho12 ⊢
    have HA12 := hide ho12
    have T12 := hide (T10.out.below hb12).rot
    clear ho12 hb12
    go_wp2_with fail
    refine (pi_All w12 _).mono ?_
    rintro e w13 ⟨rfl, rfl⟩
    go_wp2_with fail
    refine (pi_told w12 q _ _ _ l T12.out.1 200 (by omega)).mono ?_
    rintro e w14 ⟨ab, cb, rfl, ho14, hb14⟩
    rw [List.take_of_length_le (by simp; omega)] at ho14 ⊢
    have HB14 := hide ho14
    have HA14 := hide ((Chg.of_below0 (S := fun _ => False) hb14).owns HA12.out (fun _ _ h => h))
    have T14 := hide (T12.out.below hb14).rot
    clear ho14 hb14 HA12
    go_wp2_with fail
    refine (pi_All w14 _).mono ?_
    rintro e w15 ⟨rfl, rfl⟩
    go_wp2_with fail
    refine (pi_told w14 r _ _ _ l.reverse T14.out.1 200 (by omega)).mono ?_
    rintro e w16 ⟨ac, cc, rfl, ho16, hb16⟩
    rw [List.take_of_length_le (by simp; omega), List.length_reverse] at ho16 ⊢
    have HC16 := hide ho16
    have HB16 := hide ((Chg.of_below0 (S := fun _ => False) hb16).owns HB14.out (fun _ _ h => h))
    have HA16 := hide ((Chg.of_below0 (S := fun _ => False) hb16).owns HA14.out (fun _ _ h => h))
    have T16 := hide (T14.out.below hb16).rot
    clear ho16 hb16 HB14 HA14 T10 T12 T14
    go_wp2_with fail
    refine (SameInts_ok w16 _ _ l l (Rd.of_owns HA16.out) (Rd.of_owns HB16.out) (by omega) (by omega)).mono ?_
    rintro e w17 ⟨rfl, n17, rfl⟩
    have hd : ((l.length : Int) != ((xs.length : Int) + (ys.length : Int))) = false := by rw [HLL.out]; simp
    go_wp2_with fail
    clear hd
    have hra := (Rd.of_owns HA16.out).drewN n17
    have hrc := (Rd.of_owns HC16.out).drewN n17
    obtain ⟨wa, hwa⟩ : ∃ wa, wa = w16.drewN n17 := ⟨_, rfl⟩
    rw [← hwa] at hra hrc ⊢
    have T17 : Hid (Tri W.heap.size W ⟨p, 14, ap5, cp5, l⟩ ⟨q, 14, ap7, cp7, l⟩ ⟨r, 35, ar, cr, l.reverse⟩ wa) := by rw [hwa]; exact T16.out.drewN n17
    have HRA := hide hra
    have HRC := hide hrc
    clear hra hrc hwa T16 HA16 HB16 HC16
    go_loopw [11] (fun i wr => ∃ k m : Nat, k ≤ l.length ∧ i = .int .i64 k ∧ wr = wa.drewN m) (fun i _ => l.length - (intOf i).toNat)
    case atStart => exact ⟨0, 0, Nat.zero_le _, rfl, rfl⟩
    case round =>
      obtain ⟨k, m, hk, rfl, rfl⟩ := hrel
      by_cases hlt : k < l.length
      · obtain ⟨a', c', e, -, hcs0⟩ := HRA.out.shape
        obtain ⟨ba, oa, rfl, hca⟩ := hcs0 (by omega)
        cases e
        obtain ⟨a', c', e, -, hcs1⟩ := HRC.out.shape
        obtain ⟨bc, oc, rfl, hcc⟩ := hcs1 (by omega)
        cases e
        obtain ⟨t, ht⟩ : ∃ t, t = l.length - 1 - k := ⟨_, rfl⟩
        have hak := hca k (.int .i64 l[k]) (by simp [hlt])
        have hck := hcc t (.int .i64 l[k]) (by
          have e1 : t < l.reverse.length := by simp; omega
          rw [List.getElem?_map, List.getElem?_eq_getElem e1, List.getElem_reverse]
          simp only [Option.map_some, Option.some.injEq, Value.int.injEq, true_and]
          congr 1
          omega)
        obtain ⟨x, hx⟩ : ∃ x, x = l[k] := ⟨_, rfl⟩
        rw [← hx] at hak hck
        have b1 : IntKind.i64.wrap ((l.length : Int) - 1) = (l.length : Int) - 1 := IntWalk.i64_in _ (by omega)
        have b2 : IntKind.i64.wrap ((l.length : Int) - 1 - (k : Int)) = (t : Int) := by rw [IntWalk.i64_in _ (by omega)]; omega
        have htl : t < l.length := by omega
        clear hcs0 hcs1 hca hcc hx ht
        go_wp2_with fail
        refine wp_region_quiet_lit (by kernel_rfl) (by kernel_rfl) ?_
        repeat (go_big_quiet_step (fail))
        refine wpQuiet_nil ?_
        intro _ hw'
        obtain ⟨nq, hw''⟩ := hw'
        subst hw''
        clear b1 b2
        go_wp2_with fail
        go_roundw
        case rel => exact ⟨k + 1, m + nq, by omega, by go_num, rfl⟩
        case measure => simp [intOf]; omega
      · obtain rfl : k = l.length := by omega
        have T18 := hide (T17.out.drewN m)
        have hfe : (l.filter fun x => !evn x).length + (l.filter evn).length = l.length := filter_two evn l
        have HFE := hide hfe
        clear hfe
        go_wp2_with fail
        refine (pi_Remove (base := W.heap.size) (wa.drewN m) p _ _ _ l T18.out.1 _ #[] evn (fun _ => True) (even_pred _) (fun _ _ _ _ => trivial) trivial).mono ?_
        rintro e w19 ⟨rfl, hg19⟩
        obtain ⟨ap19, cp19, ht19⟩ := T18.out.grow hg19
        have T19 := hide ht19.rot
        clear hg19 ht19
        go_wp2_with fail
        refine (pi_Remove (base := W.heap.size) w19 q _ _ _ l T19.out.1 _ #[] (fun x => !evn x) (fun _ => True) (odd_pred _) (fun _ _ _ _ => trivial) trivial).mono ?_
        rintro e w20 ⟨rfl, hg20⟩
        obtain ⟨ap20, cp20, ht20⟩ := T19.out.grow hg20
        have eo : (l.filter fun x => !!evn x) = l.filter evn := by congr 1; funext x; simp
        rw [eo] at ht20 ⊢
        have T20 := hide ht20.rot.rot
        clear hg20 ht20 eo T17 T18 T19
        obtain ⟨ne, hne⟩ : ∃ ne, ne = (l.filter evn).length := ⟨_, rfl⟩
        obtain ⟨no, hno⟩ : ∃ no, no = (l.filter fun x => !evn x).length := ⟨_, rfl⟩
        have hsum : no + ne = l.length := by rw [hne, hno]; exact HFE.out
        rw [← hne, ← hno]
        have HNE := hide hne
        have HNO := hide hno
        clear hne hno
        have d1 : (((l.length : Int) - (no : Int) + ((l.length : Int) - (ne : Int))) == (l.length : Int)) = true := by rw [beq_iff_eq]; omega
        go_wp2_with fail
        clear d1
        refine (pi_Len (base := W.heap.size) w20 p _ _ _ _ T20.out.1).mono ?_
        rintro e w21 ⟨rfl, rfl⟩
        dsimp only
        rw [← HNO.out]
        have d2 : ((no : Int) == (l.length : Int) - (ne : Int)) = true := by rw [beq_iff_eq]; omega
        go_wp2_with fail
        clear d2
        refine (pi_Len (base := W.heap.size) w21 q _ _ _ _ T20.out.2.1).mono ?_
        rintro e w22 ⟨rfl, rfl⟩
        dsimp only
        rw [← HNE.out]
        have d3 : ((ne : Int) == (l.length : Int) - (no : Int)) = true := by rw [beq_iff_eq]; omega
        go_wp2_with fail
        clear d3
        refine (awake2 _).mono ?_
        rintro e w23 ⟨rfl, hb23⟩
        have HB23 := hide hb23
        clear hb23
        go_wp2_with fail
        go_ret
        exact ⟨rfl, T20.out.2.2.2.1.trans (HB23.out.mono T20.out.2.2.2.1.size)⟩
  · by_cases h1 : xs.length ≤ 60
    · have h2 : 60 < ys.length := by omega
      go_enter Try.func7, Try.ntmps7
      go_wp2_with fail
      refine (awake2 _).mono ?_
      rintro e w3 ⟨rfl, hb3⟩
      have HB3 := hide hb3
      clear hb3
      go_wp2_with fail
      go_ret
      exact ⟨rfl, HB3.out⟩
    · go_enter Try.func7, Try.ntmps7
      go_wp2_with fail
      refine (awake2 _).mono ?_
      rintro e w3 ⟨rfl, hb3⟩
      have HB3 := hide hb3
      clear hb3
      go_wp2_with fail
      go_ret
      exact ⟨rfl, HB3.out⟩

set_option maxRecDepth 100000 in
theorem PileTurned_lifted (os : Os) (started : os.Started) (H : Type) (enc : TypeId × Value → H) :
    ReturnsInHanded {} Try.checked os 7 .any (Rows.pileTurnedSpec.pre6 enc Try.prog Try.f7 Rows.pileTurnedRow.domain false) (Rows.pileTurnedSpec.post enc Try.prog Try.f7 false true false false) := by
  refine returnsInHanded_of_change (C := Try.checked) law_own started (by kernel_rfl) Try.func7
    (ChangeSpec.witness6 (enc := enc) (C := Try.checked) false ⟨#[], #[.slice none 0 0, .slice none 0 0], []⟩ 8 (by kernel_rfl) (by kernel_rfl) (by kernel_rfl) (by kernel_rfl)) ?_
  intro W base args ds gs before hval0 hW hcnd _
  have hval : ∀ (j : Nat) t v, Try.f7.params[j]? = some t → args[j]? = some v → Value.okWide Try.prog W .any base t v := hval0
  have hW' := hW
  obtain ⟨p, q, hA0, hV, rfl, hfz, hnd⟩ := hW
  have hA : DataW.TrodAll enc Try.prog W 0 (fun _ => true) true Try.f7.params.toList args.toList ds p := hA0
  rw [Try.params7] at hA hval
  obtain ⟨v0, vs0, d0, ds0, p0, q0, hargs, rfl, rfl, h0, r0⟩ := trodAll_cons hA
  obtain ⟨v1, vs1, d1, ds1, p1, q1, rfl, rfl, rfl, h1, r1⟩ := trodAll_cons r0
  obtain ⟨rfl, rfl, rfl⟩ := trodAll_nil r1
  obtain rfl : args = #[v0, v1] := by cases args; simp_all
  obtain ⟨rfl, rfl⟩ := trodVars_none hV
  have k0 := h0
  have lt0 : ∀ x ∈ p0, x.block < W.heap.size := by obtain ⟨m, hm⟩ := k0; exact DataW.trod_lt m _ _ _ hm
  obtain ⟨a0, len0, cap0, rfl⟩ := okWide_slice Try.underlying22 (hval 0 22 v0 rfl rfl)
  have k1 := h1
  have lt1 : ∀ x ∈ p1, x.block < W.heap.size := by obtain ⟨m, hm⟩ := k1; exact DataW.trod_lt m _ _ _ hm
  obtain ⟨a1, len1, cap1, rfl⟩ := okWide_slice Try.underlying22 (hval 1 22 v1 rfl rfl)
  clear hA0 hval0
  refine (PileTurned_walk (enc := enc) W a0 len0 cap0 (Readable.of_trod h0) a1 len1 cap1 (Readable.of_trod h1)).mono fun e W' ⟨he, bel⟩ => ?_
  subst he
  exact ⟨_, rfl, _, _, _, [], _, [], hW', trodAll_mk1 (shut_bool Try.underlying4 _), (trodAll_cons_mk (Below.trod law_laid (by kernel_rfl) (of_decide_eq_true (by kernel_rfl)) k0 bel lt0) (trodAll_cons_mk (Below.trod law_laid (by kernel_rfl) (of_decide_eq_true (by kernel_rfl)) k1 bel lt1) trodAll_mk0)), rfl, bel.frame _, fun h => by cases h⟩

theorem PileTurned_over : Rows.pileTurnedRow.holds Try.pinned (OpenSpec.ofChange Rows.pileTurnedSpec) :=
  OpenClaim.holds_of_wide 7 Try.f7 rfl rfl rfl rfl rfl rfl rfl ⟨rfl, rfl, rfl, rfl, rfl⟩ rfl rfl rfl rfl rfl (by kernel_rfl) Try.func7 (by kernel_rfl)
    (of_decide_eq_true (by kernel_rfl)) (by unfold Func.isWrapper; first | (rw [if_pos (by decide +kernel)]; kernel_rfl) | (rw [if_neg (by decide +kernel)]; exact ⟨rfl, rfl⟩))
    (fun os started H enc _ => PileTurned_lifted os started H enc)

theorem PileTurned_holds : Rows.PileTurnedSaid := PileTurned_over
#print axioms PileTurned_holds

end Go.Proofs.Ytjgcicpclojfgaa
