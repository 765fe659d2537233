/- Lists are compared, element by element. Conditions: none. -/
import Derived.Test.YtjmmmpnpkialjaaDoorCmM
import Derived.Laws.StructEq
import Derived.Outline
import Derived.Deep.QuietTactic
import Derived.BigQuiet
import Derived.Lib.SlicesS
namespace Go.Proofs.YtjmmmpnpkialjaaDoor
open Go.RowKit Go.Shelf

def eqv {α : Type} (eq : α → α → Bool) : List α → List α → Bool
  | [], [] => true
  | x :: xs, y :: ys => eq x y && eqv eq xs ys
  | _, _ => false
theorem eqv_len {α : Type} (eq : α → α → Bool) : ∀ {xs ys : List α}, xs.length ≠ ys.length → eqv eq xs ys = false
  | [], [], h => absurd rfl h
  | [], _ :: _, _ => rfl
  | _ :: _, [], _ => rfl
  | x :: xs, y :: ys, h => by rw [eqv, eqv_len eq (xs := xs) (ys := ys) (by simpa using h), Bool.and_false]
theorem eqv_diff {α : Type} (eq : α → α → Bool) : ∀ {xs ys : List α} (k : Nat) (h : k < xs.length) (h' : k < ys.length), eq xs[k] ys[k] = false → eqv eq xs ys = false
  | [], _, _, h, _, _ => by simp at h
  | _ :: _, [], _, _, h, _ => by simp at h
  | x :: xs, y :: ys, 0, _, _, he => by rw [eqv]; simp at he; rw [he]; rfl
  | x :: xs, y :: ys, k + 1, h, h', he => by rw [eqv, eqv_diff eq k (by simpa using h) (by simpa using h') (by simpa using he), Bool.and_false]
theorem eqv_all {α : Type} (eq : α → α → Bool) : ∀ {xs ys : List α}, xs.length = ys.length → (∀ j (h : j < xs.length) (h' : j < ys.length), eq xs[j] ys[j] = true) → eqv eq xs ys = true
  | [], [], _, _ => rfl
  | [], _ :: _, h, _ => by simp at h
  | _ :: _, [], h, _ => by simp at h
  | x :: xs, y :: ys, h, hj => by
    rw [eqv, eqv_all eq (by simpa using h) (fun j h1 h2 => hj (j + 1) (by simpa using h1) (by simpa using h2)), Bool.and_true]
    exact hj 0 (by simp) (by simp)
theorem eqv_iff {α : Type} {eq : α → α → Bool} (he : ∀ x y, eq x y = true ↔ x = y) : ∀ (xs ys : List α), eqv eq xs ys = true ↔ xs = ys
  | [], [] => by simp [eqv]
  | [], _ :: _ => by simp [eqv]
  | _ :: _, [] => by simp [eqv]
  | x :: xs, y :: ys => by rw [eqv, Bool.and_eq_true, he, eqv_iff he xs ys]; simp
def intEq (x y : Int) : Bool := x == y
theorem intEq_iff (x y : Int) : intEq x y = true ↔ x = y := by simp [intEq]
theorem intEq_ne {x y : Int} {b : Bool} (h : intEq x y = b) : (x != y) = !b := by rw [← h]; rfl
def baEq (x y : ByteArray) : Bool := x.toList == y.toList
theorem baEq_iff (x y : ByteArray) : baEq x y = true ↔ x = y := by
  exact Lib.bytes_beq_iff x y
def flEq (x y : Fl) : Bool := baEq x.path y.path && baEq x.data y.data
theorem flEq_iff (x y : Fl) : flEq x y = true ↔ x = y := by
  cases x; cases y
  rw [flEq, Bool.and_eq_true, baEq_iff, baEq_iff]
  simp

theorem fl_neq (a b c d : ByteArray) (w : World) : Sem.run Tryd.prog (binOp .neq 68 (.agg #[.string a, .string b]) (.agg #[.string c, .string d])) w = .ok (.bool (!(baEq a c && baEq b d))) w := by
  unfold baEq
  cases h1 : a.toList == c.toList <;> cases h2 : b.toList == d.toList <;> go_simp
theorem fl_neq' {x y : Fl} {b : Bool} (h : flEq x y = b) (w : World) : Sem.run Tryd.prog (binOp .neq 68 (.agg #[.string x.path, .string x.data]) (.agg #[.string y.path, .string y.data])) w = .ok (.bool (!b)) w := by
  rw [fl_neq, ← h]; rfl

set_option maxHeartbeats 1000000 in
/-- Two lists, element by element. -/
theorem int_equal (w : World) (va vb : Value) (xs ys : List (Int)) (ha : Rd w va xs.length (flat (fun x : Int => [Value.int .i64 x]) xs)) (hb : Rd w vb ys.length (flat (fun x : Int => [Value.int .i64 x]) ys)) (hm : xs.length ≤ 140737488351232) (hm' : ys.length ≤ 140737488351232) :
    Calls Tryd.prog 51 #[va, vb] w fun e w' => e = .returned (.bool (eqv intEq xs ys)) ∧ ∃ n, w' = w.drewN n := by
  obtain ⟨ao, ca, rfl, -, ha⟩ := ha.shape
  obtain ⟨bo, cb, rfl, -, hb⟩ := hb.shape
  by_cases hl : xs.length = ys.length
  · have hl1 : ((xs.length : Int) != (ys.length : Int)) = false := by simp [hl]
    have HL := hide hl; clear hl
    have HA := hide ha; clear ha
    have HB := hide hb; clear hb
    go_enter Tryd.func51, Tryd.ntmps51
    go_wp2_with fail
    go_loopw [13] (fun i wr => ∃ k : Nat, k ≤ xs.length ∧ i = .int .i64 k ∧ Hid (∀ j (h : j < xs.length) (h' : j < ys.length), j < k → intEq xs[j] ys[j] = true) ∧ (∃ n, wr = w.drewN n)) (fun i _ => xs.length - (intOf i).toNat)
    case atStart => exact ⟨0, Nat.zero_le _, rfl, (fun j _ _ h => by omega), 0, rfl⟩
    case round =>
      obtain ⟨k, hk, rfl, HE, n, rfl⟩ := hrel
      by_cases hlt : k < xs.length
      · have hlt2 : k < ys.length := HL.out ▸ hlt
        obtain ⟨a, oa, rfl, hcx⟩ := HA.out (by omega)
        obtain ⟨b, ob, rfl, hcy⟩ := HB.out (by omega)
        have hx := hcx k (.int .i64 xs[k]) (by rw [flat_one (fun x : Int => Value.int .i64 x)]; simp [hlt]); have hy := hcy k (.int .i64 ys[k]) (by rw [flat_one (fun x : Int => Value.int .i64 x)]; simp [hlt2])
        have HQ : Hid (∀ b, intEq xs[k] ys[k] = b → intEq xs[k] ys[k] = b) := hide (fun _ h => h)
        have HLT2 := hide hlt2
        cases hq : intEq xs[k] ys[k] with
        | false =>
          have HF := hide (eqv_diff intEq k hlt hlt2 hq)
          have hne := intEq_ne hq; simp only [Bool.not_false] at hne
          clear hcx hcy hq HQ
          generalize xs[k] = x at *
          generalize ys[k] = y at *
          go_wp2_with fail
          refine wp_region_quiet_lit (by kernel_rfl) (by kernel_rfl) ?_
          repeat (go_big_quiet_step (fail))
          refine wpQuiet_nil ?_
          intro _ hw'
          obtain ⟨nq, hw''⟩ := hw'
          subst hw''
          go_wp2_with fail
          go_ret
          exact ⟨ret_bool HF.out.symm, n + nq, by simp⟩
        | true =>
          have HT := hide (show ∀ j (h : j < xs.length) (h' : j < ys.length), j < k + 1 → intEq xs[j] ys[j] = true from fun j h h' hj => by
            by_cases e : j = k
            · subst e; exact hq
            · exact HE.out j h h' (by omega))
          have hne := intEq_ne hq; simp only [Bool.not_true] at hne
          clear hcx hcy hq HQ
          generalize xs[k] = x at *
          generalize ys[k] = y at *
          go_wp2_with fail
          refine wp_region_quiet_lit (by kernel_rfl) (by kernel_rfl) ?_
          repeat (go_big_quiet_step (fail))
          refine wpQuiet_nil ?_
          intro _ hw'
          obtain ⟨nq, hw''⟩ := hw'
          subst hw''
          go_wp2_with fail
          go_roundw
          case rel => exact ⟨k + 1, by omega, by go_num, HT, n + nq, by simp⟩
          case measure => simp [intOf]; omega
      · obtain rfl : k = xs.length := by omega
        have HF := hide (eqv_all intEq HL.out (fun j h h' => HE.out j h h' h))
        clear HE
        go_wp2_with fail
        go_ret
        exact ⟨ret_bool HF.out.symm, n, rfl⟩
  · have hl1 : ((xs.length : Int) != (ys.length : Int)) = true := by simp; omega
    have HL := hide (eqv_len intEq hl); clear hl
    clear ha hb
    go_enter Tryd.func51, Tryd.ntmps51
    go_wp2_with fail
    go_ret
    exact ⟨ret_bool HL.out.symm, 0, rfl⟩
set_option maxHeartbeats 1000000 in
/-- Two lists, element by element. -/
theorem fl_equal (w : World) (va vb : Value) (xs ys : List (Fl)) (ha : Rd w va xs.length (flat (fl_enc) xs)) (hb : Rd w vb ys.length (flat (fl_enc) ys)) (hm : xs.length ≤ 140737488351232) (hm' : ys.length ≤ 140737488351232) :
    Calls Tryd.prog 72 #[va, vb] w fun e w' => e = .returned (.bool (eqv flEq xs ys)) ∧ ∃ n, w' = w.drewN n := by
  obtain ⟨ao, ca, rfl, -, ha⟩ := ha.shape
  obtain ⟨bo, cb, rfl, -, hb⟩ := hb.shape
  by_cases hl : xs.length = ys.length
  · have hl1 : ((xs.length : Int) != (ys.length : Int)) = false := by simp [hl]
    have HL := hide hl; clear hl
    have HA := hide ha; clear ha
    have HB := hide hb; clear hb
    go_enter Tryd.func72, Tryd.ntmps72
    go_wp2_with fail
    go_loopw [13] (fun i wr => ∃ k : Nat, k ≤ xs.length ∧ i = .int .i64 k ∧ Hid (∀ j (h : j < xs.length) (h' : j < ys.length), j < k → flEq xs[j] ys[j] = true) ∧ (∃ n, wr = w.drewN n)) (fun i _ => xs.length - (intOf i).toNat)
    case atStart => exact ⟨0, Nat.zero_le _, rfl, (fun j _ _ h => by omega), 0, rfl⟩
    case round =>
      obtain ⟨k, hk, rfl, HE, n, rfl⟩ := hrel
      by_cases hlt : k < xs.length
      · have hlt2 : k < ys.length := HL.out ▸ hlt
        obtain ⟨a, oa, rfl, hcx⟩ := HA.out (by omega)
        obtain ⟨b, ob, rfl, hcy⟩ := HB.out (by omega)
        obtain ⟨hx0, hx1⟩ := fl_cells w a oa xs hcx k hlt; obtain ⟨hy0, hy1⟩ := fl_cells w b ob ys hcy k hlt2
        have HQ : Hid (∀ b, flEq xs[k] ys[k] = b → flEq xs[k] ys[k] = b) := hide (fun _ h => h)
        have HLT2 := hide hlt2
        cases hq : flEq xs[k] ys[k] with
        | false =>
          have HF := hide (eqv_diff flEq k hlt hlt2 hq)
          have hne := fl_neq' hq; simp only [Bool.not_false] at hne
          clear hcx hcy hq HQ
          generalize xs[k] = x at *
          generalize ys[k] = y at *
          go_wp2_with fail
          refine wp_region_quiet_lit (by kernel_rfl) (by kernel_rfl) ?_
          repeat (go_big_quiet_step (fail))
          refine wpQuiet_nil ?_
          intro _ hw'
          obtain ⟨nq, hw''⟩ := hw'
          subst hw''
          go_wp2_with fail
          go_ret
          exact ⟨ret_bool HF.out.symm, n + nq, by simp⟩
        | true =>
          have HT := hide (show ∀ j (h : j < xs.length) (h' : j < ys.length), j < k + 1 → flEq xs[j] ys[j] = true from fun j h h' hj => by
            by_cases e : j = k
            · subst e; exact hq
            · exact HE.out j h h' (by omega))
          have hne := fl_neq' hq; simp only [Bool.not_true] at hne
          clear hcx hcy hq HQ
          generalize xs[k] = x at *
          generalize ys[k] = y at *
          go_wp2_with fail
          refine wp_region_quiet_lit (by kernel_rfl) (by kernel_rfl) ?_
          repeat (go_big_quiet_step (fail))
          refine wpQuiet_nil ?_
          intro _ hw'
          obtain ⟨nq, hw''⟩ := hw'
          subst hw''
          go_wp2_with fail
          go_roundw
          case rel => exact ⟨k + 1, by omega, by go_num, HT, n + nq, by simp⟩
          case measure => simp [intOf]; omega
      · obtain rfl : k = xs.length := by omega
        have HF := hide (eqv_all flEq HL.out (fun j h h' => HE.out j h h' h))
        clear HE
        go_wp2_with fail
        go_ret
        exact ⟨ret_bool HF.out.symm, n, rfl⟩
  · have hl1 : ((xs.length : Int) != (ys.length : Int)) = true := by simp; omega
    have HL := hide (eqv_len flEq hl); clear hl
    clear ha hb
    go_enter Tryd.func72, Tryd.ntmps72
    go_wp2_with fail
    go_ret
    exact ⟨ret_bool HL.out.symm, 0, rfl⟩
end Go.Proofs.YtjmmmpnpkialjaaDoor
