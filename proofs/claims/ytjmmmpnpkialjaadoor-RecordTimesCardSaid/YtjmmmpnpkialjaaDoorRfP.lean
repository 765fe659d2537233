/- The document's paths: cortegeref7.Path is tree.Path. Conditions: none. -/
import Derived.Test.YtjmmmpnpkialjaaDoorCmO
namespace Go.Proofs.YtjmmmpnpkialjaaDoor
open Go.RowKit Go.Shelf

/-- Is a piece empty? (f: does a piece begin here?) -/
def badS : Bool → List UInt8 → Bool
  | f, [] => f
  | f, b :: l => if b = 47 then f || badS true l else badS false l
theorem pieces_bad : ∀ l : List UInt8, ∃ h t, Lib.splitK [47] 0 (l.count 47) l = h :: t ∧ (h.isEmpty || t.any List.isEmpty) = badS true l ∧ t.any List.isEmpty = badS false l
  | [] => ⟨[], [], rfl, rfl, rfl⟩
  | b :: l => by
    obtain ⟨h, t, e, e1, e2⟩ := pieces_bad l
    by_cases hb : b = 47
    · subst hb
      refine ⟨[], h :: t, ?_, by simp [badS], by rw [badS]; simp [e1]⟩
      rw [List.count_cons_self]
      have hix : Lib.index (47 :: l) [47] = 0 := by rw [Lib.index]; simp [List.isPrefixOf]
      rw [Lib.splitK, hix]
      simp [e]
    · rw [List.count_cons_of_ne (by simpa using hb)]
      refine ⟨b :: h, t, ?_, by rw [badS, if_neg hb]; simp [e2], by rw [badS, if_neg hb]; exact e2⟩
      have hp : ([47] : List UInt8).isPrefixOf (b :: l) = false := by simp [List.isPrefixOf, Ne.symm hb]
      have hix : Lib.index (b :: l) [47] = if Lib.index l [47] == -1 then -1 else Lib.index l [47] + 1 := by rw [Lib.index, hp]; simp
      cases hc : l.count 47 with
      | zero =>
        rw [hc] at e
        simp only [Lib.splitK] at e ⊢
        cases e
        rfl
      | succ k =>
        rw [hc] at e
        rw [Lib.splitK] at e ⊢
        by_cases hm : Lib.index l [47] = -1
        · have := Lib.count_miss hm
          rw [Lib.count_one] at this
          omega
        · have hge := Lib.index_ge l [47]
          have hm1 : ¬ ((Lib.index l [47] == -1) = true) := fun h => hm (by simpa using h)
          rw [if_neg hm1] at e
          rw [hix, if_neg hm1]
          have hm2 : ¬ ((Lib.index l [47] + 1 == -1) = true) := fun h => by have := beq_iff_eq.1 h; omega
          rw [if_neg hm2]
          obtain ⟨i, hi⟩ : ∃ i : Nat, Lib.index l [47] = i := ⟨(Lib.index l [47]).toNat, by omega⟩
          rw [hi] at e ⊢
          have e3 : ((i : Int) + 1).toNat = i + 1 := by omega
          rw [e3]
          simp only [Int.toNat_natCast, Nat.add_zero, List.length_singleton, List.cons.injEq] at e ⊢
          obtain ⟨e4, e5⟩ := e
          exact ⟨by rw [List.take_succ_cons, e4], by rw [List.drop_succ_cons]; exact e5⟩
theorem pieces_any (p : ByteArray) : (pieces p).any (fun x => ByteArray.empty.toList == x.toList) = badS true (sb p) := by
  obtain ⟨h, t, e, e1, -⟩ := pieces_bad (sb p)
  have hk : Lib.countB p slash = (sb p).count 47 := Lib.count_one 47 (sb p)
  have hd := Lib.splitB_data slash 0 (Lib.countB p slash) p
  rw [hk] at hd
  have hs : slash.data.toList = [47] := rfl
  rw [hs] at hd
  have hd' : (pieces p).map (·.data.toList) = h :: t := by rw [pieces, hk, hd]; exact e
  rw [← e1]
  have : (pieces p).any (fun x => ByteArray.empty.toList == x.toList) = ((pieces p).map (·.data.toList)).any List.isEmpty := by
    rw [List.any_map]
    congr 1
    funext x
    show (ByteArray.empty.toList == x.toList) = x.data.toList.isEmpty
    rw [ByteArray.toList_eq, ByteArray.toList_eq]
    cases x.data.toList <;> rfl
  rw [this, hd', List.any_cons]
def adj : List UInt8 → Bool
  | a :: b :: l => (a == 47 && b == 47) || adj (b :: l)
  | _ => false
theorem badS_adj : ∀ l : List UInt8, badS true l = (l.isEmpty || (l.head? == some 47) || (l.getLast? == some 47) || adj l) ∧ badS false l = ((l.getLast? == some 47) || adj l)
  | [] => by simp [badS, adj]
  | [a] => by
    by_cases h : a = 47 <;> simp [badS, adj, h]
  | a :: b :: l => by
    obtain ⟨i1, i2⟩ := badS_adj (b :: l)
    by_cases h : a = 47
    · subst h
      constructor
      · simp [badS]
      · rw [badS, if_pos rfl, i1]
        simp [adj, List.getLast?_cons_cons]
        cases (b == 47) <;> simp
    · have h' : (a == 47) = false := by simpa using h
      constructor
      · rw [badS, if_neg h, i2]
        simp [adj, h', List.getLast?_cons_cons]
      · rw [badS, if_neg h, i2]
        simp [adj, h', List.getLast?_cons_cons]
/-- What the document asks of a byte at its place. -/
def rbad (l : List UInt8) (i : Nat) : Bool := oddB (l.getD i 0) || (decide (0 < i) && ((l.getD i 0 == 47) && (l.getD (i - 1) 0 == 47)))
theorem rbad_1 {l : List UInt8} {k : Nat} (h : (l.getD k 0).toNat < 33) : rbad l k = true := by rw [rbad, oddB, decide_eq_true h]; rfl
theorem rbad_2 {l : List UInt8} {k : Nat} (h : 126 < (l.getD k 0).toNat) : rbad l k = true := by rw [rbad, oddB, decide_eq_true h]; simp
theorem rbad_3 {l : List UInt8} {k : Nat} (h0 : 0 < k) (h1 : (((l.getD k 0).toNat : Int) == 47) = true) (h2 : (((l.getD (k - 1) 0).toNat : Int) == 47) = true) : rbad l k = true := by
  have e1 : l.getD k 0 = 47 := UInt8.toNat_inj.1 (by have h5 : (47 : UInt8).toNat = 47 := rfl; have := beq_iff_eq.1 h1; omega)
  have e2 : l.getD (k - 1) 0 = 47 := UInt8.toNat_inj.1 (by have h5 : (47 : UInt8).toNat = 47 := rfl; have := beq_iff_eq.1 h2; omega)
  rw [rbad, e1, e2, decide_eq_true h0]; simp
theorem rbad_4 {l : List UInt8} {k : Nat} (h1 : ¬ (l.getD k 0).toNat < 33) (h2 : ¬ 126 < (l.getD k 0).toNat) (h : ¬ 0 < k ∨ (((l.getD k 0).toNat : Int) == 47) = false ∨ (((l.getD (k - 1) 0).toNat : Int) == 47) = false) : rbad l k = false := by
  rw [rbad, oddB, decide_eq_false h1, decide_eq_false h2]
  rcases h with h | h | h
  · rw [decide_eq_false h]; rfl
  · have e : (l.getD k 0 == 47) = false := by
      cases e : (l.getD k 0 == 47) with
      | false => rfl
      | true => rw [beq_iff_eq.1 e] at h; cases h
    rw [e]; simp
  · have e : (l.getD (k - 1) 0 == 47) = false := by
      cases e : (l.getD (k - 1) 0 == 47) with
      | false => rfl
      | true => rw [beq_iff_eq.1 e] at h; cases h
    rw [e]; simp
theorem adj_iff : ∀ l : List UInt8, adj l = true ↔ ∃ i, 0 < i ∧ i < l.length ∧ l.getD i 0 = 47 ∧ l.getD (i - 1) 0 = 47
  | [] => by simp [adj]
  | [a] => by simp [adj]; intro x h1 h2; omega
  | a :: b :: l => by
    rw [adj, Bool.or_eq_true, Bool.and_eq_true, beq_iff_eq, beq_iff_eq, adj_iff (b :: l)]
    constructor
    · rintro (⟨rfl, rfl⟩ | ⟨i, h0, h1, h2, h3⟩)
      · exact ⟨1, by omega, by simp, rfl, rfl⟩
      · refine ⟨i + 1, by omega, by simpa using h1, by simpa using h2, ?_⟩
        obtain ⟨j, rfl⟩ : ∃ j, i = j + 1 := ⟨i - 1, by omega⟩
        simpa using h3
    · rintro ⟨i, h0, h1, h2, h3⟩
      obtain ⟨j, rfl⟩ : ∃ j, i = j + 1 := ⟨i - 1, by omega⟩
      by_cases hj : j = 0
      · subst hj
        left
        exact ⟨by simpa using h3, by simpa using h2⟩
      · right
        obtain ⟨m, rfl⟩ : ∃ m, j = m + 1 := ⟨j - 1, by omega⟩
        exact ⟨m + 1, by omega, by simpa using h1, by simpa using h2, by simpa using h3⟩
theorem rbad_all (l : List UInt8) : (l.any oddB || adj l) = (List.range l.length).any (rbad l) := by
  rw [Bool.eq_iff_iff, Bool.or_eq_true, List.any_eq_true, adj_iff, List.any_eq_true]
  constructor
  · rintro (⟨x, hx, ho⟩ | ⟨i, h0, h1, h2, h3⟩)
    · obtain ⟨i, hi, rfl⟩ := List.mem_iff_getElem.1 hx
      exact ⟨i, List.mem_range.2 hi, by simp [rbad, hi, ho]⟩
    · exact ⟨i, List.mem_range.2 h1, by rw [rbad, h2, h3]; simp [h0]⟩
  · rintro ⟨i, hi, hr⟩
    have hi := List.mem_range.1 hi
    rw [rbad, Bool.or_eq_true] at hr
    rcases hr with hr | hr
    · exact .inl ⟨l[i], List.getElem_mem hi, by simpa [hi] using hr⟩
    · simp only [Bool.and_eq_true, decide_eq_true_eq, beq_iff_eq] at hr
      exact .inr ⟨i, hr.1, hi, hr.2.1, hr.2.2⟩
/-- tree.Path, told as the document tells it. -/
theorem path_law (p : ByteArray) : pathB p = (!(sb p).isEmpty && decide (p.size ≤ 60) && !((sb p).head? == some 47) && !((sb p).getLast? == some 47) && !(List.range (sb p).length).any (rbad (sb p))) := by
  have h0 : p.toList.isEmpty = (sb p).isEmpty := by rw [ByteArray.toList_eq]; rfl
  rw [pathB, pieces_any, (badS_adj _).1, ← rbad_all, h0]
  cases (sb p).isEmpty <;> cases decide (p.size ≤ 60) <;> cases ((sb p).head? == some 47) <;> cases ((sb p).getLast? == some 47) <;> cases (sb p).any oddB <;> cases adj (sb p) <;> rfl

set_option maxRecDepth 100000 in
set_option maxHeartbeats 2000000 in
theorem ref7_Path (w : World) (p : ByteArray) (hp : p.size ≤ maxLen) : Calls Tryd.prog 93 #[.string p] w fun e w' => e = .returned (.bool (pathB p)) ∧ w' = w := by
  obtain ⟨r, hr⟩ : ∃ r, r = pathB p := ⟨_, rfl⟩
  have hl := hr.trans (path_law p)
  rw [← hr]
  have hsl : (sb p).length = p.size := sb_length p
  have hm : p.size ≤ 9223372036854775807 := by unfold maxLen at hp; omega
  clear hr hp
  by_cases h0 : p.size < 1
  · have d0 : decide ((p.size : Int) < 1) = true := decide_eq_true (by omega)
    have he : sb p = [] := List.eq_nil_of_length_eq_zero (by omega)
    have HR : Hid (r = false) := hide (by rw [hl, he]; rfl)
    clear hl hsl he
    go_enter Tryd.func93, Tryd.ntmps93
    go_wp2_with fail
    go_ret
    exact ⟨ret_bool HR.out.symm, rfl⟩
  · have d0 : decide ((p.size : Int) < 1) = false := decide_eq_false (by omega)
    by_cases h1 : 60 < p.size
    · have d1 : decide ((p.size : Int) > 60) = true := decide_eq_true (by omega)
      have HR : Hid (r = false) := hide (by rw [hl, decide_eq_false (by omega : ¬ p.size ≤ 60)]; simp)
      clear hl hsl
      go_enter Tryd.func93, Tryd.ntmps93
      go_wp2_with fail
      go_ret
      exact ⟨ret_bool HR.out.symm, rfl⟩
    · have d1 : decide ((p.size : Int) > 60) = false := decide_eq_false (by omega)
      have hp0 : 0 < p.size := by omega
      have hpl : p.size - 1 < p.size := by omega
      have hne : (sb p).isEmpty = false := by cases h : sb p with | nil => rw [h] at hsl; simp at hsl; omega | cons _ _ => rfl
      have hget : ∀ i (h : i < p.size), (sb p).getD i 0 = p[i] := fun i h => by
        have h' : i < p.data.toList.length := by rw [← sb_length p] at h; exact h
        show p.data.toList.getD i 0 = p.data[i]
        rw [List.getD_eq_getElem?_getD, List.getElem?_eq_getElem h', Option.getD_some, Array.getElem_toList]
      have hhd : ((sb p).head? == some 47) = ((p[0].toNat : Int) == 47) := by
        have := hget 0 hp0
        cases h : sb p with
        | nil => rw [h] at hsl; simp at hsl; omega
        | cons a l =>
          rw [h] at this
          have e : a = p[0] := this
          subst e
          rw [Bool.eq_iff_iff]
          simp
          exact ⟨fun h => by rw [h]; rfl, fun h => UInt8.toNat_inj.1 (by have h5 : (47 : UInt8).toNat = 47 := rfl; omega)⟩
      have hla : ((sb p).getLast? == some 47) = ((p[p.size - 1].toNat : Int) == 47) := by
        have h3 := hget (p.size - 1) hpl
        rw [List.getLast?_eq_getElem?, hsl]
        have h4 : (sb p)[p.size - 1]? = some p[p.size - 1] := by
          rw [List.getElem?_eq_getElem (by rw [hsl]; exact hpl)]
          rw [List.getD_eq_getElem?_getD, List.getElem?_eq_getElem (by rw [hsl]; exact hpl), Option.getD_some] at h3
          rw [h3]
        rw [h4, Bool.eq_iff_iff]
        simp
        exact ⟨fun h => by rw [h]; rfl, fun h => UInt8.toNat_inj.1 (by have h5 : (47 : UInt8).toNat = 47 := rfl; omega)⟩
      rw [hne, decide_eq_true (by omega : p.size ≤ 60), hhd, hla, hsl] at hl
      have HGET := hide hget
      cases hc0 : ((p[0].toNat : Int) == 47) with
      | true =>
        have HR : Hid (r = false) := hide (by rw [hl, hc0]; simp)
        clear hl hsl hhd hla hne hget
        go_enter Tryd.func93, Tryd.ntmps93
        go_wp2_with fail
        go_ret
        exact ⟨ret_bool HR.out.symm, rfl⟩
      | false =>
        cases hc1 : ((p[p.size - 1].toNat : Int) == 47) with
        | true =>
          have HR : Hid (r = false) := hide (by rw [hl, hc1]; simp)
          clear hl hsl hhd hla hne hget
          go_enter Tryd.func93, Tryd.ntmps93
          go_wp2_with fail
          go_ret
          exact ⟨ret_bool HR.out.symm, rfl⟩
        | false =>
          have HL : Hid (r = !(List.range p.size).any (rbad (sb p))) := hide (by rw [hl, hc0, hc1]; rfl)
          clear hl hsl hhd hla hne hget
          go_enter Tryd.func93, Tryd.ntmps93
          go_wp2_with fail
          go_loop [3] (fun i => ∃ k : Nat, k ≤ p.size ∧ i = .int .i64 k ∧ Hid (∀ j, j < k → rbad (sb p) j = false)) (fun i => p.size - (intOf i).toNat)
          case atStart => exact ⟨0, Nat.zero_le _, rfl, fun j h => by omega⟩
          case round =>
            obtain ⟨k, hk, rfl, HN⟩ := hrel
            by_cases hkl : k < p.size
            · have hr1 : (sb p).getD k 0 = p[k] := HGET.out k hkl
              have HKL := hide hkl
              have hno : rbad (sb p) k = true → r = false := fun h => by
                rw [HL.out, Bool.not_eq_false']
                exact List.any_eq_true.2 ⟨k, List.mem_range.2 hkl, h⟩
              by_cases c1 : p[k].toNat < 33
              · have d2 : decide ((p[k].toNat : Int) < 33) = true := decide_eq_true (by omega)
                have HR := hide (hno (rbad_1 (by rw [hr1]; exact c1)))
                clear hno hr1
                go_wp2_with fail
                go_ret
                exact ⟨ret_bool HR.out.symm, rfl⟩
              · have d2 : decide ((p[k].toNat : Int) < 33) = false := decide_eq_false (by omega)
                by_cases c2 : 126 < p[k].toNat
                · have d3 : decide ((p[k].toNat : Int) > 126) = true := decide_eq_true (by omega)
                  have HR := hide (hno (rbad_2 (by rw [hr1]; exact c2)))
                  clear hno hr1
                  go_wp2_with fail
                  go_ret
                  exact ⟨ret_bool HR.out.symm, rfl⟩
                · have d3 : decide ((p[k].toNat : Int) > 126) = false := decide_eq_false (by omega)
                  by_cases c3 : 0 < k
                  · have d4 : decide ((k : Int) > 0) = true := decide_eq_true (by omega)
                    have hk1 : k - 1 < p.size := by omega
                    have hkk : (k : Int) - 1 = ((k - 1 : Nat) : Int) := by omega
                    have hwr : IntKind.i64.wrap ((k - 1 : Nat) : Int) = ((k - 1 : Nat) : Int) := (IntKind.wrap_i64 _).trans (by omega)
                    have hr2 : (sb p).getD (k - 1) 0 = p[k - 1] := HGET.out (k - 1) hk1
                    cases c4 : ((p[k].toNat : Int) == 47) with
                    | false =>
                      have HG := hide (show rbad (sb p) k = false from rbad_4 (by rw [hr1]; exact c1) (by rw [hr1]; exact c2) (.inr (.inl (by rw [hr1]; exact c4))))
                      clear hno hr1 hr2
                      go_wp2_with fail
                      go_round
                      case rel =>
                        refine ⟨k + 1, by omega, by go_num, fun j hj => ?_⟩
                        by_cases e : j = k
                        · rw [e]; exact HG.out
                        · exact HN.out j (by omega)
                      case measure => simp [intOf]; omega
                    | true =>
                      have c4i : (p[k].toNat : Int) = 47 := beq_iff_eq.1 c4
                      cases c5 : ((p[k - 1].toNat : Int) == 47) with
                      | false =>
                        have HG := hide (show rbad (sb p) k = false from rbad_4 (by rw [hr1]; exact c1) (by rw [hr1]; exact c2) (.inr (.inr (by rw [hr2]; exact c5))))
                        clear hno hr1 hr2
                        go_wp2_with fail
                        go_round
                        case rel =>
                          refine ⟨k + 1, by omega, by go_num, fun j hj => ?_⟩
                          by_cases e : j = k
                          · rw [e]; exact HG.out
                          · exact HN.out j (by omega)
                        case measure => simp [intOf]; omega
                      | true =>
                        have HR := hide (hno (rbad_3 c3 (by rw [hr1]; exact c4) (by rw [hr2]; exact c5)))
                        clear hno hr1 hr2
                        go_wp2_with fail
                        go_ret
                        exact ⟨ret_bool HR.out.symm, rfl⟩
                  · have d4 : decide ((k : Int) > 0) = false := decide_eq_false (by omega)
                    have HG := hide (show rbad (sb p) k = false from rbad_4 (by rw [hr1]; exact c1) (by rw [hr1]; exact c2) (.inl c3))
                    clear hno hr1
                    go_wp2_with fail
                    go_round
                    case rel =>
                      refine ⟨k + 1, by omega, by go_num, fun j hj => ?_⟩
                      by_cases e : j = k
                      · rw [e]; exact HG.out
                      · exact HN.out j (by omega)
                    case measure => simp [intOf]; omega
            · obtain rfl : k = p.size := by omega
              have HR : Hid (r = true) := hide (by
                rw [HL.out, Bool.not_eq_true', List.any_eq_false]
                intro j hj
                rw [HN.out j (List.mem_range.1 hj)]; simp)
              clear HN
              go_wp2_with fail
              go_ret
              exact ⟨ret_bool HR.out.symm, rfl⟩
end Go.Proofs.YtjmmmpnpkialjaaDoor
