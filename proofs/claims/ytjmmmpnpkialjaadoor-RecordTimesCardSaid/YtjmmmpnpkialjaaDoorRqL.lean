/- Requests: which may be, their bytes, what is read of bytes. No program is named. Conditions: none. -/
import Derived.Test.YtjmmmpnpkialjaaDoorCodeL
import Derived.Test.YtjmmmpnpkialjaaDoorCmO
namespace Go.Proofs.YtjmmmpnpkialjaaDoor
open Go.RowKit Go.Shelf

structure Rq where
  kind : Int
  id : Int
  number : Int
  lane : Int
  pass : Bool
  c : Cm
def cmZ : Cm := ⟨[], [], ByteArray.empty⟩
def bitN (b : Bool) : Int := if b then 1 else 0
def okId (n : Int) : Bool := decide (1 ≤ n) && decide (n ≤ 2147483647)
def zeroC (c : Cm) : Bool := decide (c.parents.length = 0) && decide (c.tree.length = 0) && decide (c.note.size = 0)
def mayK (r : Rq) : Bool :=
  if r.kind = 1 then r.c.parents.all okId && decide (r.number = 0) && mayC r.c
  else if r.kind = 2 then okId r.number && decide (0 ≤ r.lane) && decide (r.lane < 4)
  else if 3 ≤ r.kind ∧ r.kind ≤ 6 then okId r.number else false
/-- request.field. -/
def fieldB (p : Bool) (n : Int) : Bool := (p && okId n) || (!p && decide (n = 0))
/-- Which requests may be. -/
def mayRq (r : Rq) : Bool := okId r.id && (decide (r.kind = 1) || zeroC r.c) && (decide (r.kind = 5) || !r.pass) && (decide (r.kind = 2) || decide (r.lane = 0)) && mayK r
def flB (f : Fl) : List UInt8 := txts [f.path, f.data]
def layC (c : Cm) : List UInt8 := num8 (c.parents.length : Int) ++ (nums c.parents ++ (num8 (c.tree.length : Int) ++ (c.tree.flatMap flB ++ txts [c.note])))
/-- A request's bytes. -/
def layRq (r : Rq) : List UInt8 := nums [r.kind, r.id, r.number, r.lane, bitN r.pass] ++ (if r.kind = 1 then layC r.c else [])

/-- The same, as request.May asks it. -/
def head3 (r : Rq) : Bool := decide (1 ≤ r.kind) && decide (r.kind ≤ 6) && okId r.id && fieldB (!decide (r.kind = 1)) r.number
def laneB (r : Rq) : Bool := decide (r.lane = 0) || (decide (r.kind = 2) && decide (0 < r.lane) && decide (r.lane < 4))
def cmB (r : Rq) : Bool := (zeroC r.c && !decide (r.kind = 1)) || (decide (r.kind = 1) && mayC r.c && !(r.c.parents.any fun n => !okId n))
theorem mayRq_eq (r : Rq) : mayRq r = (head3 r && (laneB r && cmB r && (decide (r.kind = 5) || !r.pass))) := by
  obtain ⟨k, i, n, l, ps, c⟩ := r
  have hall : c.parents.all okId = !(c.parents.any fun n => !okId n) := by
    rw [List.not_any_eq_all_not]; simp
  simp only [mayRq, mayK, head3, laneB, cmB, hall, fieldB]
  generalize (c.parents.any fun n => !okId n) = q1
  generalize zeroC c = q2
  generalize mayC c = q3
  generalize okId i = q4
  generalize okId n = q5
  by_cases h1 : k = 1
  · subst h1
    cases ps <;> cases q1 <;> cases q2 <;> cases q3 <;> cases q4 <;> simp <;> try exact Bool.and_comm _ _
  · by_cases h2 : k = 2
    · subst h2
      by_cases h3 : l = 0
      · subst h3
        cases ps <;> cases q1 <;> cases q2 <;> cases q3 <;> cases q4 <;> cases q5 <;> simp
      · have e : decide (0 ≤ l) = decide (0 < l) := by simp; omega
        rw [e]
        cases ps <;> cases q1 <;> cases q2 <;> cases q3 <;> cases q4 <;> cases q5 <;> simp [h3]
    · by_cases h3 : 3 ≤ k ∧ k ≤ 6
      · have e1 : (1 ≤ k) := by omega
        cases ps <;> cases q1 <;> cases q2 <;> cases q3 <;> cases q4 <;> cases q5 <;> simp [h1, h2, h3, e1] <;> try exact Bool.and_comm _ _
      · have e1 : ¬ ((1 ≤ k) ∧ (k ≤ 6)) := by omega
        have e2 : (decide (1 ≤ k) && decide (k ≤ 6)) = false := by simp; omega
        simp [h1, h2, h3, e2]

theorem okId_iff {n : Int} : okId n = true ↔ 1 ≤ n ∧ n ≤ 2147483647 := by simp [okId]
theorem zeroC_eq {c : Cm} (h : zeroC c = true) : c = cmZ := by
  obtain ⟨ps, ts, n⟩ := c
  simp only [zeroC, Bool.and_eq_true, decide_eq_true_eq] at h
  have h3 : n = ByteArray.empty := by
    have h4 : n.data.size = 0 := h.2
    obtain ⟨d⟩ := n
    have : d = #[] := Array.eq_empty_of_size_eq_zero h4
    rw [this]; rfl
  rw [cmZ, List.eq_nil_of_length_eq_zero h.1.1, List.eq_nil_of_length_eq_zero h.1.2, h3]
theorem mayT_small {t : List Fl} (h : mayT t = true) : t.length ≤ 12 ∧ ∀ f ∈ t, f.path.size ≤ 60 ∧ f.data.size ≤ 400 := by
  simp only [mayT, Bool.and_eq_true, decide_eq_true_eq] at h
  refine ⟨h.1, fun f hf => ?_⟩
  obtain ⟨i, hi, rfl⟩ := List.getElem_of_mem hf
  have h2 := List.all_eq_true.1 h.2 i (List.mem_range.2 hi)
  simp only [okAt, Bool.and_eq_true, decide_eq_true_eq, flAt_lt hi] at h2
  exact ⟨pathB_size h2.1.1.1, h2.1.1.2⟩
structure SmallC (c : Cm) : Prop where
  ps : c.parents.length ≤ 2
  pid : ∀ p ∈ c.parents, 1 ≤ p ∧ p ≤ 2147483647
  ts : c.tree.length ≤ 12
  fs : ∀ f ∈ c.tree, f.path.size ≤ 60 ∧ f.data.size ≤ 400
  nt : c.note.size ≤ 60
structure SmallR (r : Rq) : Prop where
  kind : 1 ≤ r.kind ∧ r.kind ≤ 6
  id : 1 ≤ r.id ∧ r.id ≤ 2147483647
  number : 0 ≤ r.number ∧ r.number ≤ 2147483647
  lane : 0 ≤ r.lane ∧ r.lane < 4
  push : r.kind = 1 → SmallC r.c
  other : r.kind ≠ 1 → r.c = cmZ
theorem mayRq_small {r : Rq} (h : mayRq r = true) : SmallR r := by
  simp only [mayRq, Bool.and_eq_true, Bool.or_eq_true, decide_eq_true_eq] at h
  obtain ⟨⟨⟨⟨h1, h2⟩, h3⟩, h4⟩, h5⟩ := h
  have h1' := okId_iff.1 h1
  unfold mayK at h5
  split at h5
  · rename_i hk
    simp only [Bool.and_eq_true, decide_eq_true_eq] at h5
    obtain ⟨⟨h6, h7⟩, h8⟩ := h5
    have hf := mayC_few h8
    simp only [mayC, Bool.and_eq_true] at h8
    have ht := mayT_small h8.1.1.1
    refine ⟨by omega, h1', by omega, by omega, fun _ => ⟨hf.1, fun p hp => okId_iff.1 (List.all_eq_true.1 h6 p hp), ht.1, ht.2, hf.2.2⟩, fun h => absurd hk h⟩
  · rename_i hk
    have hz := zeroC_eq (h2.resolve_left hk)
    split at h5
    · rename_i hk2
      simp only [Bool.and_eq_true, decide_eq_true_eq] at h5
      have h6 := okId_iff.1 h5.1.1
      exact ⟨by omega, h1', by omega, by omega, fun h => absurd h hk, fun _ => hz⟩
    · split at h5
      · rename_i hk2 hk3
        have h6 := okId_iff.1 h5
        exact ⟨by omega, h1', by omega, by have := h4.resolve_left hk2; omega, fun h => absurd h hk, fun _ => hz⟩
      · cases h5

section
variable {τ : Type}
/-- n things, one behind the other, from p on: these, and where they end; or none. -/
def rdAllG (rd : List UInt8 → Int → τ × Int × Bool) (b : List UInt8) : Nat → Int → Option (List τ × Int)
  | 0, p => some ([], p)
  | n + 1, p => if (rd b p).2.2 = true then (rdAllG rd b n (rd b p).2.1).map (fun r => ((rd b p).1 :: r.1, r.2)) else none
/-- What ReadList answers: the things, the place, whether. -/
def rdListG (rd : List UInt8 → Int → τ × Int × Bool) (b : List UInt8) (p most : Int) : List τ × Int × Bool :=
  if (rdNum b p).2.2 = true ∧ 0 ≤ (rdNum b p).1 ∧ (rdNum b p).1 ≤ most then
    match rdAllG rd b (rdNum b p).1.toNat (rdNum b p).2.1 with
    | some (l, q) => (l, q, true)
    | none => ([], 0, false)
  else ([], 0, false)
/-- A reader that reads what was laid. -/
def RdsAs (rd : List UInt8 → Int → τ × Int × Bool) (lay : τ → List UInt8) (ok : τ → Prop) : Prop :=
  ∀ x pre post, ok x → rd (pre ++ (lay x ++ post)) (pre.length : Int) = (x, (pre.length : Int) + (lay x).length, true)
theorem rdAllG_laid {rd : List UInt8 → Int → τ × Int × Bool} {lay : τ → List UInt8} {ok : τ → Prop} (h : RdsAs rd lay ok) : ∀ (xs : List τ) (pre post : List UInt8), (∀ x ∈ xs, ok x) →
    rdAllG rd (pre ++ (xs.flatMap lay ++ post)) xs.length (pre.length : Int) = some (xs, (pre.length : Int) + (xs.flatMap lay).length)
  | [], pre, post, _ => by simp [rdAllG]
  | x :: xs, pre, post, hx => by
    have h1 := h x pre (xs.flatMap lay ++ post) (hx x (by simp))
    have e1 : pre ++ ((x :: xs).flatMap lay ++ post) = pre ++ (lay x ++ (xs.flatMap lay ++ post)) := by simp
    have e2 : pre ++ (lay x ++ (xs.flatMap lay ++ post)) = (pre ++ lay x) ++ (xs.flatMap lay ++ post) := by simp
    have h2 := rdAllG_laid h xs (pre ++ lay x) post (fun y hy => hx y (by simp [hy]))
    have e3 : ((pre ++ lay x).length : Int) = (pre.length : Int) + (lay x).length := by simp
    rw [← e2, e3] at h2
    rw [e1, List.length_cons, rdAllG, h1, if_pos rfl]
    simp only
    rw [h2]
    simp
    omega
theorem rdListG_laid {rd : List UInt8 → Int → τ × Int × Bool} {lay : τ → List UInt8} {ok : τ → Prop} (h : RdsAs rd lay ok) (b post : List UInt8) (xs : List τ) (most : Int) (hx : ∀ x ∈ xs, ok x) (hn : xs.length ≤ 9223372036854775807) (hm : (xs.length : Int) ≤ most) :
    rdListG rd (b ++ (num8 (xs.length : Int) ++ (xs.flatMap lay ++ post))) (b.length : Int) most = (xs, (b.length : Int) + 8 + (xs.flatMap lay).length, true) := by
  have e1 := rdNum_laid b (xs.flatMap lay ++ post) (xs.length : Int) (wf_nat _ hn)
  have e2 := rdAllG_laid h xs (b ++ num8 (xs.length : Int)) post hx
  have e4 : b ++ (num8 (xs.length : Int) ++ (xs.flatMap lay ++ post)) = (b ++ num8 (xs.length : Int)) ++ (xs.flatMap lay ++ post) := by simp
  rw [← e4] at e2
  have e5 : ((b ++ num8 (xs.length : Int)).length : Int) = (b.length : Int) + 8 := by simp [num8_length]
  rw [e5] at e2
  simp only [rdListG, e1]
  rw [if_pos ⟨trivial, by omega, hm⟩, Int.toNat_natCast, e2]
end
theorem rds_num : RdsAs rdNum num8 (fun n => (Lit.int .i64 n).wf = true) := fun n pre post h => by
  rw [rdNum_laid pre post n h, num8_length]; rfl
theorem rds_text : RdsAs rdText (fun s => txts [s]) (fun s => s.size ≤ 9223372036854775807) := fun s pre post h => by
  have e : txts [s] ++ post = num8 (s.size : Int) ++ (sb s ++ post) := by simp [txts]
  rw [e, rdText_laid pre post s h]
  have e2 : ((txts [s]).length : Int) = 8 + s.size := by simp [txts, num8_length, sb_length]
  rw [e2]
  simp only [Prod.mk.injEq, and_true, true_and]
  omega
def rdFile (b : List UInt8) (p : Int) : Fl × Int × Bool :=
  if (rdText b p).2.2 = true ∧ (rdText b (rdText b p).2.1).2.2 = true then (⟨(rdText b p).1, (rdText b (rdText b p).2.1).1⟩, (rdText b (rdText b p).2.1).2.1, true) else (⟨ByteArray.empty, ByteArray.empty⟩, 0, false)
theorem rds_file : RdsAs rdFile flB (fun f => f.path.size ≤ 9223372036854775807 ∧ f.data.size ≤ 9223372036854775807) := fun f pre post h => by
  have e : flB f ++ post = txts [f.path] ++ (txts [f.data] ++ post) := by simp [flB, txts]
  have h1 := rds_text f.path pre (txts [f.data] ++ post) h.1
  have h2 := rds_text f.data (pre ++ txts [f.path]) post h.2
  have e2 : (pre ++ txts [f.path]) ++ (txts [f.data] ++ post) = pre ++ (txts [f.path] ++ (txts [f.data] ++ post)) := by simp
  have e3 : ((pre ++ txts [f.path]).length : Int) = (pre.length : Int) + (txts [f.path]).length := by simp
  rw [e2, e3] at h2
  have e4 : (flB f).length = (txts [f.path]).length + (txts [f.data]).length := by simp [flB, txts]; omega
  rw [e]
  simp only [rdFile, h1, h2]
  rw [if_pos ⟨trivial, trivial⟩, e4]
  simp only [Prod.mk.injEq, and_true, true_and]
  omega
/-- What the program reads of a commit. -/
def rdCommit (b : List UInt8) (p : Int) : Cm × Int × Bool :=
  if (rdListG rdNum b p 2).2.2 = true then
    if (rdListG rdFile b (rdListG rdNum b p 2).2.1 12).2.2 = true then
      (⟨(rdListG rdNum b p 2).1, (rdListG rdFile b (rdListG rdNum b p 2).2.1 12).1, (rdText b (rdListG rdFile b (rdListG rdNum b p 2).2.1 12).2.1).1⟩, (rdText b (rdListG rdFile b (rdListG rdNum b p 2).2.1 12).2.1).2.1, (rdText b (rdListG rdFile b (rdListG rdNum b p 2).2.1 12).2.1).2.2)
    else (cmZ, 0, false)
  else (cmZ, 0, false)
theorem nums_flat (ns : List Int) : nums ns = ns.flatMap num8 := rfl
theorem rds_commit : RdsAs rdCommit layC SmallC := fun c pre post h => by
  have hp : ∀ x ∈ c.parents, (Lit.int .i64 x).wf = true := fun x hx => WalkArith.wf_i64 (by have := h.pid x hx; omega)
  have hf : ∀ f ∈ c.tree, f.path.size ≤ 9223372036854775807 ∧ f.data.size ≤ 9223372036854775807 := fun f hf => by have := h.fs f hf; omega
  have h1 := rdListG_laid rds_num pre (num8 (c.tree.length : Int) ++ (c.tree.flatMap flB ++ (txts [c.note] ++ post))) c.parents 2 hp (by have := h.ps; omega) (by have := h.ps; omega)
  have h2 := rdListG_laid rds_file (pre ++ (num8 (c.parents.length : Int) ++ nums c.parents)) (txts [c.note] ++ post) c.tree 12 hf (by have := h.ts; omega) (by have := h.ts; omega)
  have h3 := rds_text c.note (pre ++ (num8 (c.parents.length : Int) ++ (nums c.parents ++ (num8 (c.tree.length : Int) ++ c.tree.flatMap flB)))) post (by have := h.nt; omega)
  have e0 : pre ++ (layC c ++ post) = pre ++ (num8 (c.parents.length : Int) ++ (c.parents.flatMap num8 ++ (num8 (c.tree.length : Int) ++ (c.tree.flatMap flB ++ (txts [c.note] ++ post))))) := by simp [layC, nums]
  have e1 : (pre ++ (num8 (c.parents.length : Int) ++ nums c.parents)) ++ (num8 (c.tree.length : Int) ++ (c.tree.flatMap flB ++ (txts [c.note] ++ post))) = pre ++ (layC c ++ post) := by simp [layC]
  have e2 : (pre ++ (num8 (c.parents.length : Int) ++ (nums c.parents ++ (num8 (c.tree.length : Int) ++ c.tree.flatMap flB)))) ++ (txts [c.note] ++ post) = pre ++ (layC c ++ post) := by simp [layC]
  have l1 : ((pre ++ (num8 (c.parents.length : Int) ++ nums c.parents)).length : Int) = (pre.length : Int) + 8 + (c.parents.flatMap num8).length := by simp [num8_length, nums]; omega
  have l2 : ((pre ++ (num8 (c.parents.length : Int) ++ (nums c.parents ++ (num8 (c.tree.length : Int) ++ c.tree.flatMap flB)))).length : Int) = (pre.length : Int) + 8 + (c.parents.flatMap num8).length + 8 + (c.tree.flatMap flB).length := by simp [num8_length, nums]; omega
  rw [← e0] at h1
  rw [e1, l1] at h2
  rw [e2, l2] at h3
  have l3 : ((layC c).length : Int) = 8 + (c.parents.flatMap num8).length + 8 + (c.tree.flatMap flB).length + (txts [c.note]).length := by simp [layC, num8_length, nums]; omega
  simp only [rdCommit, h1, h2, h3, if_true, l3]
  simp only [Prod.mk.injEq, and_true, true_and]
  omega
/-- The number at a place. -/
def nmAt (b : List UInt8) (p : Int) : Int := (rdNum b p).1
/-- What the program reads, before it looks whether it may be. -/
def candP (b : List UInt8) : Option Rq :=
  if 40 ≤ b.length then some ⟨nmAt b 0, nmAt b 8, nmAt b 16, nmAt b 24, decide (nmAt b 32 = 1), if nmAt b 0 = 1 then (rdCommit b 40).1 else cmZ⟩ else none
theorem nmAt_laid (pre post : List UInt8) (n : Int) (h : (Lit.int .i64 n).wf = true) (p : Int) (hp : p = pre.length) : nmAt (pre ++ (num8 n ++ post)) p = n := by
  subst hp
  rw [nmAt, rdNum_laid pre post n h]
theorem candP_laid {r : Rq} (h : SmallR r) (post : List UInt8) : candP (layRq r ++ post) = some r := by
  obtain ⟨k, i, n, l, ps, c⟩ := r
  obtain ⟨hk, hi, hn, hl, hpu, hot⟩ := h
  simp only at hk hi hn hl hpu hot
  obtain ⟨rest, hrest⟩ : ∃ rest, rest = (if k = 1 then layC c else []) ++ post := ⟨_, rfl⟩
  have e : layRq ⟨k, i, n, l, ps, c⟩ ++ post = num8 k ++ (num8 i ++ (num8 n ++ (num8 l ++ (num8 (bitN ps) ++ rest)))) := by rw [hrest]; simp [layRq, nums]
  have hb : 0 ≤ bitN ps ∧ bitN ps ≤ 1 := by unfold bitN; split <;> omega
  have n0 := nmAt_laid [] (num8 i ++ (num8 n ++ (num8 l ++ (num8 (bitN ps) ++ rest)))) k (WalkArith.wf_i64 (by omega)) 0 rfl
  have n1 := nmAt_laid (num8 k) (num8 n ++ (num8 l ++ (num8 (bitN ps) ++ rest))) i (WalkArith.wf_i64 (by omega)) 8 (by simp [num8_length])
  have n2 := nmAt_laid (num8 k ++ num8 i) (num8 l ++ (num8 (bitN ps) ++ rest)) n (WalkArith.wf_i64 (by omega)) 16 (by simp [num8_length])
  have n3 := nmAt_laid (num8 k ++ (num8 i ++ num8 n)) (num8 (bitN ps) ++ rest) l (WalkArith.wf_i64 (by omega)) 24 (by simp [num8_length])
  have n4 := nmAt_laid (num8 k ++ (num8 i ++ (num8 n ++ num8 l))) rest (bitN ps) (WalkArith.wf_i64 (by omega)) 32 (by simp [num8_length])
  simp only [List.nil_append, List.append_assoc] at n0 n1 n2 n3 n4
  rw [e, candP, if_pos (by simp [num8_length]; omega), n0, n1, n2, n3, n4]
  have hps : decide (bitN ps = 1) = ps := by cases ps <;> rfl
  rw [hps]
  by_cases hk1 : k = 1
  · have h1 := rds_commit c (num8 k ++ (num8 i ++ (num8 n ++ (num8 l ++ num8 (bitN ps))))) post (hpu hk1)
    have e2 : (num8 k ++ (num8 i ++ (num8 n ++ (num8 l ++ num8 (bitN ps))))) ++ (layC c ++ post) = num8 k ++ (num8 i ++ (num8 n ++ (num8 l ++ (num8 (bitN ps) ++ rest)))) := by rw [hrest, if_pos hk1]; simp
    have e3 : ((num8 k ++ (num8 i ++ (num8 n ++ (num8 l ++ num8 (bitN ps))))).length : Int) = 40 := by simp [num8_length]
    rw [e2, e3] at h1
    rw [if_pos hk1, h1]
  · rw [if_neg hk1, hot hk1]
/-- What is read of bytes. -/
def rdRq (b : List UInt8) : Option Rq := (candP b).filter (fun r => mayRq r && decide (layRq r = b))
theorem rdRq_some {b : List UInt8} {r : Rq} : rdRq b = some r ↔ mayRq r = true ∧ layRq r = b := by
  constructor
  · intro h
    obtain ⟨-, h2⟩ := Option.filter_eq_some_iff.1 h
    simpa using h2
  · rintro ⟨h1, h2⟩
    have h3 := candP_laid (mayRq_small h1) []
    rw [List.append_nil, h2] at h3
    rw [rdRq, h3]
    simp [h1, h2]
theorem layRq_inj {r s : Rq} (hr : mayRq r = true) (hs : mayRq s = true) (h : layRq r = layRq s) : r = s := by
  have h1 := rdRq_some.2 ⟨hr, rfl⟩
  have h2 := rdRq_some.2 ⟨hs, rfl⟩
  rw [h, h2] at h1
  exact (Option.some.inj h1).symm
/-- No request's bytes begin another one's. -/
theorem layRq_prefix {r s : Rq} (hr : mayRq r = true) (hs : mayRq s = true) {t : List UInt8} (h : layRq r ++ t = layRq s) : t = [] := by
  have h1 := candP_laid (mayRq_small hr) t
  have h2 := candP_laid (mayRq_small hs) []
  rw [List.append_nil, ← h, h1] at h2
  have e := Option.some.inj h2
  subst e
  exact List.append_cancel_left (by rw [h, List.append_nil])
end Go.Proofs.YtjmmmpnpkialjaaDoor
