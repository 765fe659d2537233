/- RepoRoom's notes: three digits. Conditions: none. -/
import Derived.Test.YtnnkbicaokckbaaDoorRpC
import Derived.Outline
import Derived.Deep.QuietTactic
import Derived.BigQuiet
import Derived.Laws.Concat
namespace Go.Proofs.YtnnkbicaokckbaaDoor
open Go.RowKit Go.Shelf

def digits : ByteArray := ⟨#[48, 49, 50, 51, 52, 53, 54, 55, 56, 57]⟩
def dig (a : Nat) : ByteArray := digits.extract a (a + 1)
def noteB (n : Nat) : ByteArray := (dig (n / 100) ++ dig (n / 10 % 10)) ++ dig (n % 10)
set_option maxRecDepth 100000 in
theorem note_ok (w : World) (n : Nat) (hn : n ≤ 200) : Calls Tryd.prog 23 #[.int .i64 (n : Int)] w fun e w' => e = .returned (.string (noteB n)) ∧ ∃ k, w' = w.drewN k := by
  have h1 : (n : Int) / 100 = ((n / 100 : Nat) : Int) := by omega
  have h2 : (n : Int) / 10 = ((n / 10 : Nat) : Int) := by omega
  have h3 : ((n / 10 : Nat) : Int) % 10 = ((n / 10 % 10 : Nat) : Int) := by omega
  have h4 : (n : Int) % 10 = ((n % 10 : Nat) : Int) := by omega
  have b1 : n / 100 ≤ 9 := by omega
  have b2 : n / 10 % 10 ≤ 9 := by omega
  have b3 : n % 10 ≤ 9 := by omega
  have b4 : n / 10 ≤ 20 := by omega
  have HR : Hid (noteB n = (dig (n / 100) ++ dig (n / 10 % 10)) ++ dig (n % 10)) := rfl
  generalize n / 100 = a at *
  generalize n / 10 % 10 = b at *
  generalize n / 10 = q at *
  generalize n % 10 = c at *
  go_enter Tryd.func23, Tryd.ntmps23
  go_wp2_with fail
  refine wp_region_quiet_lit (by kernel_rfl) (by kernel_rfl) ?_
  repeat (go_big_quiet_step (fail))
  refine wpQuiet_nil ?_
  intro _ hw'
  obtain ⟨nq, hw''⟩ := hw'
  subst hw''
  go_wp2_with fail
  go_ret
  exact ⟨by rw [HR.out]; rfl, nq, rfl⟩
theorem note_size (n : Nat) : (noteB n).size ≤ 3 := by
  have h : ∀ a, (dig a).size ≤ 1 := fun a => by rw [dig, ByteArray.size_extract]; omega
  rw [noteB, ByteArray.size_append, ByteArray.size_append]
  have := h (n / 100); have := h (n / 10 % 10); have := h (n % 10)
  omega
def noteV (b : ByteArray) : Nat := (b.data.getD 0 0).toNat * 100 + (b.data.getD 1 0).toNat * 10 + (b.data.getD 2 0).toNat
theorem note_val : ∀ n, n ≤ 124 → noteV (noteB n) = n + 5328 := by decide +kernel
def nc (n : Nat) : Cm := ⟨[], [], noteB n⟩
def newB : ByteArray := ⟨#[110, 101, 119]⟩
def newC : Cm := ⟨[], [], newB⟩
theorem nc_may (n : Nat) : mayC (nc n) = true := by
  have := note_size n
  have h : decide ((noteB n).size ≤ 60) = true := decide_eq_true (by omega)
  unfold mayC nc
  rw [h]; rfl
theorem nc_ne {n m : Nat} (hn : n ≤ 124) (hm : m ≤ 124) (h : n ≠ m) : cmEq (nc n) (nc m) = false := by
  cases e : cmEq (nc n) (nc m) with
  | false => rfl
  | true =>
    have := (cmEq_iff _ _).1 e
    have h2 : noteB n = noteB m := congrArg Cm.note this
    have h3 := note_val n hn
    rw [h2, note_val m hm] at h3
    omega
theorem nc_new {n : Nat} (hn : n ≤ 124) : cmEq (nc n) newC = false := by
  cases e : cmEq (nc n) newC with
  | false => rfl
  | true =>
    have := (cmEq_iff _ _).1 e
    have h2 : noteB n = newB := congrArg Cm.note this
    have h3 := note_val n hn
    rw [h2] at h3
    have h4 : noteV newB = 12129 := by decide +kernel
    omega
def ncs (k : Nat) : List Cm := (List.range k).map fun j => nc (j + 1)
theorem ncs_len (k : Nat) : (ncs k).length = k := by simp [ncs]
theorem ncs_succ (k : Nat) : ncs (k + 1) = ncs k ++ [nc (k + 1)] := by simp [ncs, List.range_succ]
theorem ncs_has {k : Nat} (hk : k < 124) : hasC (ncs k) (nc (k + 1)) = false := by
  unfold hasC ncs
  rw [List.any_eq_false]
  intro x hx
  obtain ⟨j, hj, rfl⟩ := List.mem_map.1 hx
  have := List.mem_range.1 hj
  rw [nc_ne (by omega) (by omega) (by omega)]
  decide
theorem ncs_new {k : Nat} (hk : k ≤ 124) : hasC (ncs k) newC = false := by
  unfold hasC ncs
  rw [List.any_eq_false]
  intro x hx
  obtain ⟨j, hj, rfl⟩ := List.mem_map.1 hx
  have := List.mem_range.1 hj
  rw [nc_new (by omega)]
  decide
theorem add_nc {k : Nat} {room : Int} (hk : k < 124) (hr : (k : Int) < room) : addR (ncs k) room (nc (k + 1)) = ((k : Int) + 1, 0) ∧ addL (ncs k) room (nc (k + 1)) = ncs (k + 1) := by
  have h1 := nc_may (k + 1)
  have h2 : (nc (k + 1)).parents.any (badP (ncs k).length) = false := rfl
  have h3 := ncs_has hk
  rw [ncs_succ]
  constructor
  · rw [addR, h1, h2, h3, ncs_len]
    simp; omega
  · rw [addL, h1, h2, h3, ncs_len]
    simp; omega
theorem add_new {k : Nat} {room : Int} (hk : k ≤ 124) : addR (ncs k) room newC = (if room ≤ (k : Int) then (0, 3) else ((k : Int) + 1, 0)) ∧ addL (ncs k) room newC = (if room ≤ (k : Int) then ncs k else ncs k ++ [newC]) := by
  have h1 : mayC newC = true := by rfl
  have h2 : newC.parents.any (badP (ncs k).length) = false := rfl
  have h3 := ncs_new hk
  constructor
  · rw [addR, h1, h2, h3, ncs_len]; simp
  · rw [addL, h1, h2, h3, ncs_len]; simp
theorem note_cv (w : World) (b : ByteArray) : CmAt w ⟨⟨[], [], b⟩, .slice none 0 0, .slice none 0 0⟩ := ⟨Rd.nil w, Rd.nil w, fun _ h _ => (by cases h), fun _ h _ => (by cases h)⟩
theorem note_few (b : ByteArray) : Few ⟨[], [], b⟩ := ⟨Nat.zero_le _, Nat.zero_le _⟩
end Go.Proofs.YtnnkbicaokckbaaDoor
