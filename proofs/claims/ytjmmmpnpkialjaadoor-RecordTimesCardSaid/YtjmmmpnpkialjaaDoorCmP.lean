/- tree.Path. Conditions: none. -/
import Derived.Test.YtjmmmpnpkialjaaDoorCm
import Derived.Test.YtjmmmpnpkialjaaDoorShelf
import Derived.Lib.ConvBytes
import Derived.Lib.SplitLaws
import Derived.Lib.AtoiErrMem
namespace Go.Proofs.YtjmmmpnpkialjaaDoor
open Go.RowKit Go.Shelf

theorem str_index (w : World) (va : Value) (l : List ByteArray) (v : ByteArray) (ha : Rd w va l.length (l.map Value.string)) (hm : l.length ≤ 140737488351232) :
    Calls Tryd.prog 105 #[va, .string v] w fun e w' => e = .returned (.int .i64 (idxF (fun x : ByteArray => v.toList == x.toList) l)) ∧ w' = w := by
  obtain ⟨ao, ca, rfl, -, ha⟩ := ha.shape
  have HA := hide ha
  clear ha
  go_enter Tryd.func105, Tryd.ntmps105
  go_wp2_with fail
  go_loop [8] (fun i => ∃ k : Nat, k ≤ l.length ∧ i = .int .i64 k ∧ Hid (∀ x ∈ l.take k, (v.toList == x.toList) = false)) (fun i => l.length - (intOf i).toNat)
  case atStart => exact ⟨0, Nat.zero_le _, rfl, (fun x h => by simp at h)⟩
  case round =>
    obtain ⟨k, hk, rfl, HN⟩ := hrel
    by_cases hkl : k < l.length
    · obtain ⟨b, off, rfl, hcs⟩ := HA.out (by omega)
      have hcx := hcs k (.string l[k]) (by simp [hkl])
      have htk : l.take (k + 1) = l.take k ++ [l[k]] := (List.take_append_getElem hkl).symm
      have HTK := hide htk
      clear hcs htk
      cases hx : (v.toList == l[k].toList) with
      | true =>
        have HX := hide (idxF_hit (p := fun x : ByteArray => v.toList == x.toList) k hkl hx HN.out)
        go_wp2_with fail
        go_ret
        exact ⟨ret_int HX.out.symm, rfl⟩
      | false =>
        have HX := hide hx
        go_wp2_with fail
        go_round
        case rel =>
          refine ⟨k + 1, by omega, by go_num, fun x hx => ?_⟩
          rw [HTK.out] at hx
          rcases List.mem_append.1 hx with h | h
          · exact HN.out x h
          · rw [List.mem_singleton.1 h]; exact HX.out
        case measure => simp [intOf]; omega
    · obtain rfl : k = l.length := by omega
      have hn := HN.out
      rw [List.take_length] at hn
      have HN2 := hide (idxF_none (p := fun x : ByteArray => v.toList == x.toList) hn)
      clear hn HN
      go_wp2_with fail
      go_ret
      exact ⟨ret_int HN2.out.symm, rfl⟩
theorem str_contains (w : World) (va : Value) (l : List ByteArray) (v : ByteArray) (ha : Rd w va l.length (l.map Value.string)) (hm : l.length ≤ 140737488351232) :
    Calls Tryd.prog 100 #[va, .string v] w fun e w' => e = .returned (.bool (l.any (fun x : ByteArray => v.toList == x.toList))) ∧ w' = w := by
  have HC := hide (str_index w va l v ha hm)
  have hge := idxF_ge (fun x : ByteArray => v.toList == x.toList) l
  obtain ⟨r, hr⟩ : ∃ r, r = idxF (fun x : ByteArray => v.toList == x.toList) l := ⟨_, rfl⟩
  rw [← hr] at HC hge
  obtain ⟨c, hc⟩ : ∃ c, c = l.any (fun x : ByteArray => v.toList == x.toList) := ⟨_, rfl⟩
  rw [← hc] at hge ⊢
  clear ha hm hr hc
  cases c with
  | true =>
    have d : decide (r ≥ 0) = true := hge
    clear hge
    go_enter Tryd.func100, Tryd.ntmps100
    go_wp2_with fail
    refine HC.out.mono ?_
    rintro e w' ⟨rfl, rfl⟩
    go_wp2_with fail
    go_ret
    exact ⟨rfl, rfl⟩
  | false =>
    have d : decide (r ≥ 0) = false := hge
    clear hge
    go_enter Tryd.func100, Tryd.ntmps100
    go_wp2_with fail
    refine HC.out.mono ?_
    rintro e w' ⟨rfl, rfl⟩
    go_wp2_with fail
    go_ret
    exact ⟨rfl, rfl⟩

def oddB (b : UInt8) : Bool := decide (b.toNat < 33) || decide (126 < b.toNat)
theorem path_odd (W : World) (b : UInt8) : Calls Tryd.prog 98 #[.int .u8 (b.toNat : Int)] W fun e w' => e = .returned (.bool (oddB b)) ∧ Below W.heap.size W w' := by
  by_cases h1 : b.toNat < 33
  · have d1 : decide ((b.toNat : Int) < 33) = true := decide_eq_true (by omega)
    have hr : oddB b = true := by simp [oddB, h1]
    have HR := hide hr
    clear hr
    go_enter Tryd.func98, Tryd.ntmps98
    go_wp2
    go_ret
    exact ⟨ret_bool HR.out.symm, Below.refl _ _⟩
  · have d1 : decide ((b.toNat : Int) < 33) = false := decide_eq_false (by omega)
    by_cases h2 : 126 < b.toNat
    · have d2 : decide ((b.toNat : Int) > 126) = true := decide_eq_true (by omega)
      have hr : oddB b = true := by simp [oddB, h2]
      have HR := hide hr
      clear hr
      go_enter Tryd.func98, Tryd.ntmps98
      go_wp2
      go_ret
      exact ⟨ret_bool HR.out.symm, Below.refl _ _⟩
    · have d2 : decide ((b.toNat : Int) > 126) = false := decide_eq_false (by omega)
      have hr : oddB b = false := by simp [oddB, h1, h2]
      have HR := hide hr
      clear hr
      go_enter Tryd.func98, Tryd.ntmps98
      go_wp2
      go_ret
      exact ⟨ret_bool HR.out.symm, Below.refl _ _⟩
def slash : ByteArray := ⟨#[47]⟩
def pieces (p : ByteArray) : List ByteArray := Lib.splitB slash 0 (Lib.countB p slash) p
def pathB (p : ByteArray) : Bool := !p.toList.isEmpty && decide (p.size ≤ 60) && !(sb p).any oddB && !(pieces p).any (fun x => ByteArray.empty.toList == x.toList)
/-- The package variable that a search of texts reads: some number. -/
def Mx (w : World) : Prop := ∃ m : Int, w.cell? ⟨0, 0, none⟩ = some (.int .i64 m)
theorem Mx.chg {S : Nat → Prop} {w w' : World} (h : Mx w) (c : Chg S w w') (hs : ¬ S 0) : Mx w' := by
  obtain ⟨m, hm⟩ := h
  exact ⟨m, c.cell hm hs⟩
theorem Mx.below {n : Nat} {w w' : World} (h : Mx w) (c : Below n w w') (hn : 0 < n) : Mx w' := h.chg (Chg.of_below c) (by omega)
theorem Mx.pos {w : World} (h : Mx w) : 0 < w.heap.size := by
  obtain ⟨m, hm⟩ := h
  exact World.block_lt_of_cell? w _ hm

set_option maxRecDepth 100000 in
set_option maxHeartbeats 1000000 in
theorem path_ok (w : World) (p : ByteArray) (hM : Mx w) : Calls Tryd.prog 89 #[.string p] w fun e w' => e = .returned (.bool (pathB p)) ∧ Below w.heap.size w w' := by
  obtain ⟨r, hr⟩ : ∃ r, r = pathB p := ⟨_, rfl⟩
  rw [← hr]
  cases h0 : p.toList.isEmpty with
  | true =>
    have hrf : r = false := by rw [hr, pathB, h0]; rfl
    have HRF := hide hrf
    have h0' : p.toList = [] := List.isEmpty_iff.1 h0
    clear hr hrf
    go_enter Tryd.func89, Tryd.ntmps89
    go_wp2
    go_ret
    exact ⟨ret_bool HRF.out.symm, Below.refl _ _⟩
  | false =>
    by_cases h1 : p.size ≤ 60
    · have d1 : decide ((p.size : Int) > 60) = false := decide_eq_false (by omega)
      have h1' : (p.size : Int) ≤ 60 := by omega
      have hcv := Lib.run_convert_string_bytes (P := Tryd.prog) w 9 30 5 p (u := .string) Tryd.underlying9 Tryd.underlying30 Tryd.underlying5
      have hbw := Lib.bytesWorld_below w 5 p
      have hcell := fun j hj => Lib.bytesWorld_cell w 5 p j hj
      have hcap := grownCap_ge w p.size 0 5
      generalize grownCap w p.size 0 5 = cp at hcv hcap
      generalize Lib.bytesWorld w 5 p = w1 at hcv hbw hcell
      have hsl : (sb p).length = p.size := sb_length p
      have hrd : Rd w1 (.slice (some ⟨w.heap.size, 0, none⟩) p.size cp) p.size (flat (fun x : UInt8 => [Value.int .u8 (x.toNat : Int)]) (sb p)) := by
        refine Rd.mk hcap (fun j u hu => ?_)
        rw [flat_one (fun x : UInt8 => Value.int .u8 (x.toNat : Int))] at hu
        simp only [List.getElem?_map] at hu
        obtain ⟨x, hx, rfl⟩ := Option.map_eq_some_iff.1 hu
        have hj : j < p.size := by rw [← hsl]; exact (List.getElem?_eq_some_iff.1 hx).1
        have := hcell j hj
        rw [Nat.zero_add, this]
        have e : p.data.toList.getD j 0 = x := by rw [List.getD_eq_getElem?_getD]; show ((sb p)[j]?).getD 0 = x; rw [hx]; rfl
        rw [e]
      have hCF := u8_containsFunc w1 (.slice (some ⟨w.heap.size, 0, none⟩) p.size cp) (sb p) (by rw [hsl]; exact hrd) (fun b hb hne => by
        cases hb
        cases hz : (sb p) with
        | nil => exact absurd hz hne
        | cons x l =>
          have hp0 : 0 < p.size := by rw [← hsl, hz]; simp
          exact World.block_lt_of_cell? w1 _ (hcell 0 hp0)) (by omega) 98 #[] oddB (fun _ => True) (enters_of Tryd.func98 (by kernel_rfl) rfl) (fun W x _ _ => path_odd W x) (fun _ _ _ _ => trivial) trivial
      obtain ⟨c, hc⟩ : ∃ c, c = (sb p).any oddB := ⟨_, rfl⟩
      rw [← hc] at hCF
      have HCF := hide hCF
      have HBW := hide hbw
      have HM1 := hide (hM.below hbw hM.pos)
      clear hCF hcell hrd hsl hcap
      cases c with
      | true =>
        have hrf : r = false := by rw [hr, pathB, h0, decide_eq_true h1, ← hc]; rfl
        have HRF := hide hrf
        clear hr hrf hc hM hbw
        go_enter Tryd.func89, Tryd.ntmps89
        go_wp2_with fail
        refine HCF.out.mono ?_
        rintro e w2 ⟨rfl, hb2⟩
        have HB2 := hide (HBW.out.trans (hb2.mono HBW.out.size))
        clear hb2
        go_wp2_with fail
        go_ret
        exact ⟨ret_bool HRF.out.symm, HB2.out⟩
      | false =>
        have hrf : r = !(pieces p).any (fun x => ByteArray.empty.toList == x.toList) := by rw [hr, pathB, h0, decide_eq_true h1, ← hc]; rfl
        have HRF := hide hrf
        clear hr hrf hc hM hbw
        go_enter Tryd.func89, Tryd.ntmps89
        go_wp2_with fail
        refine HCF.out.mono ?_
        rintro e w2 ⟨rfl, hb2⟩
        have HB2 := hide (HBW.out.trans (hb2.mono HBW.out.size))
        obtain ⟨m, hm⟩ := HM1.out.below hb2 HM1.out.pos
        have HMM := hide hm
        clear hb2 hm
        go_wp2_with fail
        refine (Tryd.strings_Split p slash m w2 (by omega) HMM.out (by decide)).mono ?_
        rintro e w3 ⟨rfl, hw3⟩
        have hpl : (pieces p).length = Lib.countB p slash + 1 := Lib.splitB_all slash (by decide) 0 _ p rfl
        have hrd3 : Rd w3 (.slice (some ⟨w2.heap.size, 0, none⟩) (Lib.countB p slash + 1) (Lib.countB p slash + 1)) (pieces p).length ((pieces p).map Value.string) := by
          rw [hw3, hpl]
          show Rd (w2.alloc (.cells ((pieces p).map Value.string).toArray 9)) _ _ _
          have := Rd_lit w2 ((pieces p).map Value.string).toArray 9 (Lib.countB p slash + 1)
          simpa using this
        have hb3 : Below w.heap.size w w3 := by rw [hw3]; exact HB2.out.alloc HB2.out.size _
        rw [← hpl] at hrd3 ⊢
        have hC := str_contains w3 _ (pieces p) ByteArray.empty hrd3 (by rw [hpl]; have := Lib.countB_le slash (by decide) _ p (Nat.le_refl _); omega)
        have HC := hide hC
        have HB3 := hide hb3
        clear hw3 hpl hrd3 hb3 hC
        obtain ⟨c, hc⟩ : ∃ c, c = (pieces p).any (fun x : ByteArray => ByteArray.empty.toList == x.toList) := ⟨_, rfl⟩
        rw [← hc] at HC HRF
        clear hc
        go_wp2_with fail
        refine HC.out.mono ?_
        rintro e w4 ⟨rfl, rfl⟩
        go_wp2_with fail
        go_ret
        exact ⟨ret_bool HRF.out.symm, HB3.out⟩
    · have d1 : decide ((p.size : Int) > 60) = true := decide_eq_true (by omega)
      have h1' : ¬ (p.size : Int) ≤ 60 := by omega
      have hrf : r = false := by rw [hr, pathB, h0, decide_eq_false h1]; rfl
      have HRF := hide hrf
      clear hr hrf
      go_enter Tryd.func89, Tryd.ntmps89
      go_wp2
      go_ret
      exact ⟨ret_bool HRF.out.symm, Below.refl _ _⟩
end Go.Proofs.YtjmmmpnpkialjaaDoor
