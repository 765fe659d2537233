/- Repos, the plain law: numbers of commits. Conditions: none. -/
import Derived.Test.YtnnkbicaokckbaaDoorRpD
namespace Go.Proofs.YtnnkbicaokckbaaDoor
open Go.RowKit Go.Shelf

/-- What holds of a repo's commits: no two alike, each may be, parents stand ahead. -/
structure Good (cs : List Cm) : Prop where
  may : ∀ c ∈ cs, mayC c = true
  one : ∀ i j (hi : i < cs.length) (hj : j < cs.length), cs[i] = cs[j] → i = j
  par : ∀ j (hj : j < cs.length), ∀ p ∈ cs[j].parents, 1 ≤ p ∧ p ≤ (j : Int)
theorem Good.nil : Good [] := ⟨by simp, fun i _ h => by simp at h, fun j h => by simp at h⟩
theorem hasC_iff {cs : List Cm} {c : Cm} : hasC cs c = true ↔ ∃ j, ∃ h : j < cs.length, cs[j] = c := by
  unfold hasC
  rw [List.any_eq_true]
  constructor
  · rintro ⟨x, hx, he⟩
    obtain ⟨j, hj, rfl⟩ := List.mem_iff_getElem.1 hx
    exact ⟨j, hj, (cmEq_iff _ _).1 he⟩
  · rintro ⟨j, hj, rfl⟩
    exact ⟨_, List.getElem_mem hj, (cmEq_iff _ _).2 rfl⟩
theorem cmEq_false {a b : Cm} (h : a ≠ b) : cmEq a b = false := by
  cases e : cmEq a b with
  | false => rfl
  | true => exact absurd ((cmEq_iff _ _).1 e) h
theorem Good.idx {cs : List Cm} (h : Good cs) {j : Nat} (hj : j < cs.length) : idxF (fun x => cmEq x cs[j]) cs = j := by
  refine idxF_hit j hj ((cmEq_iff _ _).2 rfl) (fun x hx => ?_)
  obtain ⟨i, hi, rfl⟩ := List.mem_take_iff_getElem.1 hx
  refine cmEq_false (fun e => ?_)
  have := h.one i j (by omega) hj e
  omega
theorem badP_false {m : Nat} {ps : List Int} : ps.any (badP m) = false ↔ ∀ p ∈ ps, 1 ≤ p ∧ p ≤ (m : Int) := by
  rw [List.any_eq_false]
  constructor
  · intro h p hp
    have := h p hp
    simp [badP] at this
    omega
  · intro h p hp
    have := h p hp
    simp [badP]
    omega
/-- An adding, told by its cases. -/
inductive Adds (cs : List Cm) (room : Int) (c : Cm) : Prop where
  | bad (e : Int) (h1 : addR cs room c = (0, e)) (h2 : e = 6 ∨ e = 7) (h3 : addL cs room c = cs)
  | old (j : Nat) (hj : j < cs.length) (h1 : addR cs room c = ((j : Int) + 1, 0)) (h2 : addL cs room c = cs) (h3 : cs[j] = c)
  | full (h1 : addR cs room c = (0, 3)) (h2 : addL cs room c = cs) (h3 : room ≤ cs.length)
  | new (h1 : addR cs room c = ((cs.length : Int) + 1, 0)) (h2 : addL cs room c = cs ++ [c]) (h3 : Good (cs ++ [c])) (h4 : (cs.length : Int) < room) (h5 : hasC cs c = false)
theorem Good.adds {cs : List Cm} (h : Good cs) (room : Int) (c : Cm) : Adds cs room c := by
  cases hm : mayC c with
  | false => exact .bad 6 (by simp [addR, hm]) (.inl rfl) (by simp [addL, hm])
  | true =>
    cases hb : c.parents.any (badP cs.length) with
    | true => exact .bad 7 (by simp [addR, hm, hb]) (.inr rfl) (by simp [addL, hm, hb])
    | false =>
      cases hc : hasC cs c with
      | true =>
        obtain ⟨j, hj, rfl⟩ := hasC_iff.1 hc
        exact .old j hj (by simp [addR, hm, hb, hc, h.idx hj]) (by simp [addL, hm, hb, hc]) rfl
      | false =>
        by_cases hr : room ≤ cs.length
        · exact .full (by simp [addR, hm, hb, hc, hr]) (by simp [addL, hm, hb, hc, hr]) hr
        · refine .new (by simp [addR, hm, hb, hc, hr]) (by simp [addL, hm, hb, hc, hr]) ⟨?_, ?_, ?_⟩ (by omega) hc
          · intro x hx
            rcases List.mem_append.1 hx with hx | hx
            · exact h.may x hx
            · rw [List.mem_singleton.1 hx]; exact hm
          · have key : ∀ i (hi : i < cs.length), cs[i] ≠ c := fun i hi e => by
              have := hasC_iff.2 ⟨i, hi, e⟩
              rw [hc] at this
              cases this
            intro i j hi hj e
            rw [List.getElem_append, List.getElem_append] at e
            simp at hi hj
            split at e
            · split at e
              · exact h.one i j _ _ e
              · simp at e; exact absurd e (key i _)
            · split at e
              · simp at e; exact absurd e.symm (key j _)
              · omega
          · intro j hj p hp
            simp at hj
            rw [List.getElem_append] at hp
            split at hp
            · exact h.par j _ p hp
            · simp at hp
              have := badP_false.1 hb p hp
              omega
/-- What the first loop of RepoNumbers keeps. -/
structure Nums (cs done : List Cm) (ns : List Int) : Prop where
  good : Good cs
  nl : ns.length = done.length
  cl : cs.length ≤ done.length
  no : ∀ k (h : k < ns.length) (h' : k < done.length), ns[k] = 0 ∨ ∃ j, ∃ hj : j < cs.length, ns[k] = (j : Int) + 1 ∧ cs[j] = done[k]
theorem Nums.nil : Nums [] [] [] := ⟨Good.nil, rfl, Nat.le_refl _, fun k h => by simp at h⟩
theorem Nums.snoc {cs cs' done : List Cm} {ns : List Int} {c : Cm} {n : Int} (h : Nums cs done ns) (hg : Good cs') (hl : cs'.length ≤ cs.length + 1) (hp : ∀ j (hj : j < cs.length), ∃ hj' : j < cs'.length, cs'[j] = cs[j])
    (hn : n = 0 ∨ ∃ j, ∃ hj : j < cs'.length, n = (j : Int) + 1 ∧ cs'[j] = c) : Nums cs' (done ++ [c]) (ns ++ [n]) := by
  refine ⟨hg, by simp [h.nl], by simp; have := h.cl; omega, ?_⟩
  intro k h1 h2
  rw [List.getElem_append, List.getElem_append]
  simp at h1 h2
  have hnl := h.nl
  split
  · rename_i hk
    rw [dif_pos (by omega)]
    rcases h.no k hk (by omega) with e | ⟨j, hj, e1, e2⟩
    · exact .inl e
    · obtain ⟨hj', e3⟩ := hp j hj
      exact .inr ⟨j, hj', e1, by rw [e3, e2]⟩
  · rename_i hk
    rw [dif_neg (by omega)]
    simp only [List.getElem_singleton]
    exact hn
/-- Of one that is told a number: its parents are below; like ones have like numbers. -/
theorem Nums.tell {cs done : List Cm} {ns : List Int} (h : Nums cs done ns) {c : Cm} {j : Nat} (hj : j < cs.length) (hc : cs[j] = c) :
    (∀ p ∈ c.parents, 1 ≤ p ∧ p < (j : Int) + 1) ∧ ∀ k (h1 : k < ns.length) (h2 : k < done.length), ns[k] > 0 → ((ns[k] == (j : Int) + 1) = cmEq done[k] c) := by
  refine ⟨fun p hp => ?_, fun k h1 h2 hpos => ?_⟩
  · subst hc
    have := h.good.par j hj p hp
    omega
  · rcases h.no k h1 h2 with e | ⟨i, hi, e1, e2⟩
    · omega
    · rw [Bool.eq_iff_iff, cmEq_iff, beq_iff_eq, e1, ← e2, ← hc]
      constructor
      · intro e
        have : i = j := by omega
        subst this; rfl
      · intro e
        have := h.good.one i j hi hj e
        omega
/-- What is there is told its number again. -/
theorem Good.again {cs : List Cm} (h : Good cs) (room : Int) {j : Nat} (hj : j < cs.length) : addR cs room cs[j] = ((j : Int) + 1, 0) ∧ addL cs room cs[j] = cs ∧ idxF (fun x => cmEq x cs[j]) cs + 1 = (j : Int) + 1 := by
  have hm := h.may _ (List.getElem_mem hj)
  have hb : cs[j].parents.any (badP cs.length) = false := badP_false.2 fun p hp => by have := h.par j hj p hp; omega
  have hc : hasC cs cs[j] = true := hasC_iff.2 ⟨j, hj, rfl⟩
  refine ⟨by simp [addR, hm, hb, hc, h.idx hj], by simp [addL, hm, hb, hc], by rw [h.idx hj]⟩
end Go.Proofs.YtnnkbicaokckbaaDoor
