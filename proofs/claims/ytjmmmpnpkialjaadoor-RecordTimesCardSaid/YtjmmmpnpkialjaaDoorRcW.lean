/- Records: awake. What the laws on records need more. No program is named. Conditions: the bytes read as said. -/
import Derived.Test.YtjmmmpnpkialjaaDoorRcD
import Derived.Test.YtjmmmpnpkialjaaDoorRcR
namespace Go.Proofs.YtjmmmpnpkialjaaDoor
open Go.RowKit Go.Shelf
attribute [local go_sem] Oper.semAt_some

def rv1 : RcV := ⟨3, qz 6 1 2 0 false⟩
def rc1 : Rc := ⟨3, rz 6 1 2 0 false⟩
theorem rv1_rc : rv1.rc = rc1 := rfl
theorem rv1_at (w : World) : RcAt w rv1 := ⟨cmZ_at w, cmZ_few, Nat.zero_le _⟩
theorem aw18_may : mayRc rc1 = true := by rfl
theorem aw18_lay : layRcs [rc1] = layRc rc1 := by rw [layRcs, if_pos (by rfl)]; simp
theorem aw18_len : (layRc rc1).length = 56 := by rfl
theorem aw18_read : rdRcs (layRc rc1) = [(56, rc1)] := by
  have h := rdRcs_all [rc1] (fun x hx => by rw [List.mem_singleton.1 hx]; exact aw18_may) ⟨by decide, trivial⟩ (by decide)
  simp only [List.flatMap_cons, List.flatMap_nil, List.append_nil, placed] at h
  rw [h, aw18_len]
  rfl
set_option maxHeartbeats 4000000 in
theorem law18_one (w : World) : Calls Tryd.prog 60 #[] w fun e w' => e = .returned rv1.val ∧ Below w.heap.size w w' := by
  go_enter Tryd.func60, Tryd.ntmps60
  go_wp2_with fail
  have hy := heap_alloc_new w (Obj.cells #[.int .i64 3, .int .i64 6, .int .i64 1, .int .i64 2, .int .i64 0, .bool false, .slice none 0 0, .slice none 0 0, .string ⟨#[]⟩] 54)
  refine bodyPost_ret (results_cell_row rfl _ _ w.heap.size _ _ _ _ rfl hy Tryd.underlying54 rfl (by kernel_rfl)) rfl ?_
  exact ⟨rfl, (Below.refl _ w).alloc (Nat.le_refl _) _⟩
set_option maxHeartbeats 4000000 in
set_option maxRecDepth 100000 in
theorem awake18 (w : World) (hM : Mx w) : Calls Tryd.prog 27 #[] w fun e w' => e = .returned (.bool true) ∧ Below w.heap.size w w' := by
  have HM := hide hM
  clear hM
  have hv : rv1.val = .agg #[.int .i64 3, .int .i64 6, .int .i64 1, .int .i64 2, .int .i64 0, .bool false, .slice none 0 0, .slice none 0 0, .string ⟨#[]⟩] := rfl
  have HONE := hide (fun W => (hv ▸ law18_one W : Calls Tryd.prog 60 #[] W fun e w' => e = .returned (.agg #[.int .i64 3, .int .i64 6, .int .i64 1, .int .i64 2, .int .i64 0, .bool false, .slice none 0 0, .slice none 0 0, .string ⟨#[]⟩]) ∧ Below W.heap.size W w'))
  clear hv
  have hfl : flat rc_enc [rv1] = [.int .i64 3, .int .i64 6, .int .i64 1, .int .i64 2, .int .i64 0, .bool false, .slice none 0 0, .slice none 0 0, .string ⟨#[]⟩] := rfl
  have HFL := hide hfl
  clear hfl
  go_enter Tryd.func27, Tryd.ntmps27
  go_wp2_with fail
  refine (HONE.out _).mono ?_
  rintro e w1 ⟨rfl, hb1⟩
  have HB1 := hide hb1
  clear hb1
  have HB2 := hide (HB1.out.alloc HB1.out.size (Obj.cells #[.int .i64 3, .int .i64 6, .int .i64 1, .int .i64 2, .int .i64 0, .bool false, .slice none 0 0, .slice none 0 0, .string ⟨#[]⟩] 54))
  have hlit := Rd_lit w1 #[.int .i64 3, .int .i64 6, .int .i64 1, .int .i64 2, .int .i64 0, .bool false, .slice none 0 0, .slice none 0 0, .string ⟨#[]⟩] 54 1
  have hlay := record_Lay (w1.alloc (Obj.cells #[.int .i64 3, .int .i64 6, .int .i64 1, .int .i64 2, .int .i64 0, .bool false, .slice none 0 0, .slice none 0 0, .string ⟨#[]⟩] 54)) _ [rv1] (by rw [HFL.out]; exact hlit) (by decide) (fun x hx => by rw [List.mem_singleton.1 hx]; exact rv1_at _) (HM.out.below HB2.out HM.out.pos)
  rw [show rcs [rv1] = [rc1] from rfl, aw18_lay, aw18_len] at hlay
  have HLAY := hide hlay
  clear hlit hlay
  go_wp2_with fail
  refine HLAY.out.mono ?_
  rintro e w2 ⟨hb2, ao, cap, rfl, ho⟩
  have HB3 := hide (HB2.out.trans (hb2.mono HB2.out.size))
  have hrd : Rd w2 (.slice ao 56 cap) (layRc rc1).length (u8s (layRc rc1)) := by rw [aw18_len]; exact Rd.of_owns ho
  have hread := record_Read w2 _ (layRc rc1) hrd (by rw [aw18_len]; decide) (HM.out.below HB3.out HM.out.pos)
  have HREAD := hide hread
  clear hb2 ho hrd hread HLAY
  go_wp2_with fail
  refine HREAD.out.mono ?_
  rintro e w3 hs
  obtain ⟨ar, cr, vs, rfl, heq, hrow, hown, hb3⟩ := hs
  rw [aw18_read] at heq ⊢
  have hvl : vs.length = 1 := by have h5 := congrArg List.length heq; simpa [rcs] using h5
  have hend : endRc [(56, rc1)] = 56 := rfl
  rw [hend, hvl]
  rw [hvl] at hrow
  have HB4 := hide (HB3.out.trans (hb3.mono HB3.out.size))
  have HROW := hide hrow
  have HOWN := hide hown
  have HEQ := hide heq
  have HVL := hide hvl
  clear hb3 hrow hown heq hvl hend HREAD
  go_wp2_with fail
  refine (HONE.out _).mono ?_
  rintro e w4 ⟨rfl, hb4⟩
  have HB5 := hide (HB4.out.trans (hb4.mono HB4.out.size))
  have hc4 := (Chg.of_below0 (S := fun _ => False) hb4).trans (Chg.alloc (fun _ => False) w4 (Obj.cells #[.int .i64 3, .int .i64 6, .int .i64 1, .int .i64 2, .int .i64 0, .bool false, .slice none 0 0, .slice none 0 0, .string ⟨#[]⟩] 54)) (S'' := fun _ => False) (fun _ _ h => h) (fun _ _ h => h)
  have hlit := Rd_lit w4 #[.int .i64 3, .int .i64 6, .int .i64 1, .int .i64 2, .int .i64 0, .bool false, .slice none 0 0, .slice none 0 0, .string ⟨#[]⟩] 54 1
  have hsame := SameRecords_yes (w4.alloc (Obj.cells #[.int .i64 3, .int .i64 6, .int .i64 1, .int .i64 2, .int .i64 0, .bool false, .slice none 0 0, .slice none 0 0, .string ⟨#[]⟩] 54)) (.slice ar 1 cr) (.slice (some ⟨w4.heap.size, 0, none⟩) 1 1) vs [rv1] (by rw [HVL.out]; exact (Rd.of_owns HROW.out).chg hc4 (fun _ _ _ h => h)) (by rw [HFL.out]; exact hlit) HEQ.out (by rw [HVL.out]; decide)
    (fun x hx => ⟨((HOWN.out x hx).chg hc4 (fun _ _ _ h => h)).at, by
      have h5 : x.rc ∈ rcs vs := List.mem_map_of_mem hx
      rw [HEQ.out] at h5
      have h6 : x.rc = rc1 := List.mem_singleton.1 h5
      have h7 : x.q.x.c = cmZ := congrArg (fun r : Rc => r.r.c) h6
      rw [h7]; exact cmZ_few⟩) (fun x hx => by rw [List.mem_singleton.1 hx]; exact cmZ_at _)
  have HSAME := hide hsame
  have HB6 := hide (HB5.out.alloc HB5.out.size (Obj.cells #[.int .i64 3, .int .i64 6, .int .i64 1, .int .i64 2, .int .i64 0, .bool false, .slice none 0 0, .slice none 0 0, .string ⟨#[]⟩] 54))
  clear hb4 hc4 hlit hsame
  go_wp2_with fail
  refine HSAME.out.mono ?_
  rintro e w5 ⟨rfl, hb5⟩
  have HB7 := hide (HB6.out.trans (hb5.mono HB6.out.size))
  clear hb5
  go_wp2_with fail
  go_ret
  exact ⟨rfl, HB7.out⟩
end Go.Proofs.YtjmmmpnpkialjaaDoor
namespace Go.Proofs.YtjmmmpnpkialjaaDoor
open Go.RowKit Go.Shelf

theorem layRcs_one (x : Rc) : layRcs [x] = if mayRc x = true then layRc x else [] := by
  cases h : mayRc x <;> simp [layRcs, h]
theorem layRcs_one_yes {x : Rc} (h : mayRc x = true) : layRcs [x] = layRc x ∧ 56 ≤ (layRc x).length := by
  rw [layRcs_one, if_pos h]
  exact ⟨rfl, by have := (layRq_len (mayRc_iff.1 h).1).1; rw [layRc_len]; omega⟩
theorem layRcs_one_no {x : Rc} (h : mayRc x = false) : layRcs [x] = [] := by rw [layRcs_one, if_neg (by simp [h])]
theorem layRcs_all {l : List Rc} (h : ∀ x ∈ l, mayRc x = true) : layRcs l = l.flatMap layRc := by
  rw [layRcs, if_pos (List.all_eq_true.2 h)]
theorem rises_of : ∀ (m : Int) (l : List Rc), (∀ x, l[0]? = some x → m ≤ x.at_) → (∀ (i : Nat) x y, l[i]? = some x → l[i + 1]? = some y → x.at_ ≤ y.at_) → Rises m l
  | _, [], _, _ => trivial
  | m, x :: l, h0, h => ⟨h0 x rfl, rises_of x.at_ l (fun y hy => h 0 x y rfl (by simpa using hy)) (fun i a b ha hb => h (i + 1) a b (by simpa using ha) (by simpa using hb))⟩
theorem Rises.mono {m m' : Int} {l : List Rc} (h : Rises m l) (hm : m' ≤ m) : Rises m' l := by
  cases l with
  | nil => trivial
  | cons x l => exact ⟨Int.le_trans hm h.1, h.2⟩
theorem Rises.take : ∀ {m : Int} {l : List Rc} (k : Nat), Rises m l → Rises m (l.take k)
  | _, [], k, _ => by simp [Rises]
  | _, x :: l, 0, _ => trivial
  | _, x :: l, k + 1, h => ⟨h.1, Rises.take k h.2⟩
theorem rcs_take (l : List RcV) (k : Nat) : rcs (l.take k) = (rcs l).take k := by simp [rcs, List.map_take]
theorem rcs_drop (l : List RcV) (k : Nat) : rcs (l.drop k) = (rcs l).drop k := by simp [rcs, List.map_drop]
theorem flat_take {α : Type} {enc : α → List Value} {size : Nat} (h : ∀ x, (enc x).length = size) (l : List α) (k : Nat) (hk : k ≤ l.length) : (flat enc l).take (k * size) = flat enc (l.take k) := (flat_split h l k hk).1
theorem flat_drop {α : Type} {enc : α → List Value} {size : Nat} (h : ∀ x, (enc x).length = size) (l : List α) (k : Nat) (hk : k ≤ l.length) : (flat enc l).drop (k * size) = flat enc (l.drop k) := (flat_split h l k hk).2
theorem endRc_placed (l : List Rc) : endRc (placed 0 l) = (l.flatMap layRc).length := by
  have h := placed_end l 0
  rw [endRc]
  simpa using h
/-- A record that is earlier than it may be. -/
theorem rdOne_early {x : Rc} (h : mayRc x = true) (pre post : List UInt8) {least : Int} (hl : x.at_ < least) : rdOne (pre ++ (layRc x ++ post)) (pre.length : Int) least = none := by
  have h1 := rdOne_laid h pre post (Int.le_refl x.at_)
  rw [rdOne] at h1 ⊢
  split at h1
  · rename_i hc
    rw [if_neg]
    rintro ⟨-, -, h2, -⟩
    obtain ⟨r, hr1, hr2⟩ := Option.map_eq_some_iff.1 h1
    simp only [Prod.mk.injEq] at hr2
    have h3 := congrArg Rc.at_ hr2.1
    simp only at h3
    omega
  · cases h1
end Go.Proofs.YtjmmmpnpkialjaaDoor
