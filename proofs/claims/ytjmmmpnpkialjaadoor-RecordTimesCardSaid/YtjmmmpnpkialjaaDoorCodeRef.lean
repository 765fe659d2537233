/- The document's Num and Text (chapter 15); GreatTexts, SameTexts. Conditions: the slices read as said. -/
import Derived.Test.YtjmmmpnpkialjaaDoorCode
import Derived.Test.YtjmmmpnpkialjaaDoorTail
import Derived.Deep.DeepCutAuto
import Derived.Deep.CutBlock
import Derived.Deep.RegionHeld3
namespace Go.Proofs.YtjmmmpnpkialjaaDoor
open Go.RowKit

/-- append of a string's bytes, at a step of a region that draws its order. -/
theorem step_append_str {P : Program} {w : World} {ops : Array Oper} {o : Oper} {a : Act} {K : Act → World → Prop} {Q : Exit → Act → World → Prop} {E : Prop} (hgd : o.guard = none) (s x : Operand) (t u : TypeId)
    (ho : o.op = .call { callee := .builtin .append, args := #[s, x], argTypes := #[t, u] })
    {e : TypeId} (hT : SlT P t e (.int .u8 0) 1 1) (hu : P.underlying u = some .string) (base : Nat) {v : Value} {n : Nat} {xs : List Value} (hown : w.ownsRow base e 1 v n xs)
    {st : ByteArray} (hs : a.eval s = v) (hx : a.eval x = .string st) (hbytes : n + st.size ≤ 140737488355328) (hbase : base ≤ w.heap.size)
    (h : ∀ ao cap w', w'.ownsRow base e 1 (.slice ao (n + st.size) cap) (n + st.size) (xs ++ u8s (sb st)) → Chg (fun k => v.ownBlock = some k) w w' → K (a.put o.dst (.slice ao (n + st.size) cap)) w') :
    if Region.wanted o (yielded ops a.tmps) = true then Oper.wp P o a w K Q else E := by
  have hw : Region.wanted o (yielded ops a.tmps) = true := by simp [Region.wanted, hgd]
  rw [if_pos hw]
  obtain ⟨i, hi, hz, hsz, hby⟩ := info_parts hT.info
  obtain ⟨v', w', hrun, hown', hg, hnil⟩ := Go.Lib.run_append_own_string (P := P) w base t u o.type e i hT.under hu hi hz hsz hby v n xs hown st (by unfold maxLen; omega) hbytes hbase
  obtain ⟨ao, cap', rfl⟩ := ownsRow_shape hown'
  unfold Oper.wp execOp
  simp only [ho, resolve, invoke, builtin, Sem.run_bind, Sem.run_pure, Result.andThen_ok, List.map_toArray, List.map_cons, List.map_nil, hs, hx, hrun]
  exact h ao cap' w' hown' ⟨hg.os, hg.tape, hg.output, hg.size, fun k hk hn => hg.block k hk (fun e => hn e.symm)⟩

theorem numByte_at (n : Int) (c : Nat) (hc : c ≤ 7) : IntKind.u64.wrap n / 2 ^ (8 * c) % 256 = ((numByte n (7 - c)).toNat : Int) := by
  rw [← numByte_val, show 7 - (7 - c) = c by omega]

theorem rd_at {w : World} {ao : Option Addr} {n c : Nat} {cs : List Value} (h : Rd w (.slice ao n c) n cs) (hn : 0 < n) : ∃ b off, ao = some ⟨b, off, none⟩ ∧ CellsAt w b off cs := by
  obtain ⟨ao', cap, e, -, h⟩ := h.shape
  cases e
  exact h hn

/-- A slice of bytes that is the call's own holds xs. -/
def OwnB (base : Nat) (w W : World) (v : Value) (xs : List UInt8) : Prop :=
  ∃ ao cap, v = .slice ao xs.length cap ∧ W.ownsRow base 5 1 (.slice ao xs.length cap) xs.length (u8s xs) ∧ Below base w W

set_option maxHeartbeats 4000000 in
set_option maxRecDepth 100000 in
theorem ref_Num (w : World) (vb vn : Value) (b : List UInt8) (ns : List Int) (zs : List UInt8) (hzs : zs = b ++ nums ns) (hb : Rd w vb b.length (u8s b)) (hn : Rd w vn ns.length (i64s ns)) (hm : b.length + 8 * ns.length ≤ 140737488351232) :
    Calls Tryd.prog 40 #[vb, vn] w fun e w' => ∃ ao cap, e = .returned (.slice ao zs.length cap) ∧ w'.ownsRow w.heap.size 5 1 (.slice ao zs.length cap) zs.length (u8s zs) ∧ Below w.heap.size w w' := by
  obtain ⟨ab, cb, rfl, -, -⟩ := hb.shape
  obtain ⟨an, cn, rfl, -, -⟩ := hn.shape
  have HB := hide hb
  have HN := hide hn
  have HZS := hide hzs
  clear hb hn hzs
  go_enter Tryd.func40, Tryd.ntmps40
  go_wp2_with (at_builtin; refine wpl_append0 rfl _ _ _ rfl slU8 w.heap.size (World.ownsRow_nil w _ _ _) HB.out rfl rfl (u8s_len1 b) (u8s_one b) (by omega) (by unfold maxLen; omega) (Nat.le_refl _) ?_; intro ao1 cap1 w1 hown hg _ _; have HO1 := hide hown; have HB1 := hide (hg.below (Nat.le_refl _) (fun k hk e => by cases e)); clear hown hg)
  go_loopw [5, 6] (fun v i wr => ∃ k : Nat, k ≤ ns.length ∧ i = .int .i64 k ∧ Hid (OwnB w.heap.size w wr v (b ++ nums (ns.take k)))) (fun _ i _ => ns.length - (intOf i).toNat)
  case atStart => exact ⟨0, by omega, rfl, ao1, cap1, by simp [nums], by simpa [nums] using HO1.out, HB1.out⟩
  case round =>
    obtain ⟨k, hk, rfl, HV⟩ := hrel
    by_cases hlt : k < ns.length
    · obtain ⟨ao2, cap2, rfl, ho, hb⟩ := HV.out
      have HO := hide ho
      have HBW := hide hb
      obtain ⟨a, oa, rfl, hx⟩ := rd_at HN.out (by omega)
      have hx1 := hx k (.int .i64 ns[k]) (by simp [i64s, hlt])
      obtain ⟨xs, hxs⟩ : ∃ xs, xs = b ++ nums (ns.take k) := ⟨_, rfl⟩
      have hl : xs.length + 8 ≤ 140737488351232 := by rw [hxs, List.length_append, nums_length, List.length_take]; omega
      have hxe : b ++ nums (ns.take (k + 1)) = xs ++ (num8 ns[k]).take 8 := by rw [take_succ_get _ _ hlt, nums_snoc, show (num8 ns[k]).take 8 = num8 ns[k] from List.take_of_length_le (by simp [num8_length]), hxs]; simp
      rw [← hxs] at HO ⊢
      have HXE := hide hxe
      have HL := hide hl
      obtain ⟨x, hxx⟩ : ∃ x, x = ns[k] := ⟨_, rfl⟩
      rw [← hxx] at hx1 HXE
      have HX := hide hx1
      clear hx hx1 hxs hl hxe hxx ho hb HV
      go_wp2_with fail
      go_loopw [5, 7] (fun v i wr => ∃ j : Nat, j ≤ 8 ∧ i = .int .i64 (7 - (j : Int)) ∧ Hid (OwnB w.heap.size w wr v (xs ++ (num8 x).take j))) (fun _ i _ => (intOf i + 1).toNat)
      case atStart => exact ⟨0, by omega, rfl, ao2, cap2, by simp, by simpa using HO.out, HBW.out⟩
      case round =>
        obtain ⟨j, hj, rfl, HV⟩ := hrel
        by_cases hlt2 : j < 8
        · obtain ⟨c, hc⟩ : ∃ c : Nat, c = 7 - j := ⟨_, rfl⟩
          have hcj : (7 : Int) - (j : Int) = (c : Int) := by omega
          have hc7 : c ≤ 7 := by omega
          obtain ⟨ys, hys⟩ : ∃ ys, ys = xs ++ (num8 x).take j := ⟨_, rfl⟩
          have hyl : ys.length = xs.length + j := by rw [hys]; simp [num8_length]; omega
          have hye : xs ++ (num8 x).take (j + 1) = ys ++ [numByte x j] := by rw [hys, take_succ_get _ _ (by simp [num8_length]; omega)]; simp [num8]
          rw [← hys] at HV
          rw [hcj]
          obtain ⟨ao3, cap3, rfl, ho, hb⟩ := HV.out
          have hx2 := (Chg.of_below0 (S := fun _ => False) hb).cell HX.out (fun h => h)
          have HO3 := hide ho
          have HB3 := hide hb
          have HYL := hide hyl
          have HYE := hide hye
          have hv := numByte_at x c hc7
          rw [show 7 - c = j by omega] at hv
          have HVL := hide hv
          have HCJ := hide hcj
          clear ho hb HV hys hyl hye hv hc hcj
          go_wp2_with (at_builtin; (rw [HVL.out]; refine wpl_append rfl _ _ _ rfl slU8 w.heap.size (HO3.out.alloc _) (Rd_lit wr #[.int .u8 (numByte x j).toNat] _ 1) rfl rfl rfl (by simp [Value.oneCell']) (by have := HYL.out; have := HL.out; unfold maxLen; omega) (by have := HYL.out; have := HL.out; omega) (by have := HB3.out.size; simp; omega) ?_); intro ao4 cap4 w4 hown hg _ _; have HO4 := hide hown; have HB4 := hide ((HB3.out.alloc HB3.out.size _).trans (hg.below (by have := HB3.out.size; simp; omega) (fun i hi e => by have := (ownsRow_lt HO3.out i e).1; omega))); clear hown hg)
          go_roundw
          case rel =>
            have hcj := HCJ.out
            refine ⟨j + 1, by omega, by rw [show (7 : Int) - ((j + 1 : Nat) : Int) = (c : Int) - 1 by omega], ao4, cap4, ?_, ?_, HB4.out⟩
            · rw [HYE.out]; simp
            · rw [HYE.out, List.length_append, u8s_append]; exact HO4.out
          case measure => simp [intOf]
        · obtain rfl : j = 8 := by omega
          go_wp2_with fail
          go_roundw
          case rel => exact ⟨k + 1, by omega, by go_num, by rw [HXE.out]; exact HV.out⟩
          case measure => simp [intOf]; omega
    · obtain rfl : k = ns.length := by omega
      rw [List.take_length, ← HZS.out] at HV
      obtain ⟨ao2, cap2, rfl, ho, hb⟩ := HV.out
      have HO := hide ho
      have HBW := hide hb
      clear ho hb HV
      go_wp2_with fail
      go_ret
      exact ⟨ao2, cap2, rfl, HO.out, HBW.out⟩

set_option maxHeartbeats 4000000 in
set_option maxRecDepth 100000 in
theorem ref_Text (w : World) (vb vn : Value) (b : List UInt8) (ss : List ByteArray) (zs : List UInt8) (hzs : zs = b ++ txts ss) (hb : Rd w vb b.length (u8s b)) (hn : Rd w vn ss.length (ss.map Value.string)) (M : Nat) (hM : ∀ s ∈ ss, s.size ≤ M) (hm : b.length + ss.length * (8 + M) ≤ 140737488351232) :
    Calls Tryd.prog 41 #[vb, vn] w fun e w' => ∃ ao cap, e = .returned (.slice ao zs.length cap) ∧ w'.ownsRow w.heap.size 5 1 (.slice ao zs.length cap) zs.length (u8s zs) ∧ Below w.heap.size w w' := by
  obtain ⟨ab, cb, rfl, -, -⟩ := hb.shape
  obtain ⟨an, cn, rfl, -, -⟩ := hn.shape
  have HB := hide hb
  have HN := hide hn
  have HZS := hide hzs
  have HM := hide hM
  have HM2 := hide hm
  have hbm : b.length ≤ 140737488351232 := by omega
  have hss : ss.length ≤ 140737488351232 := by
    have := Nat.le_mul_of_pos_right ss.length (show 0 < 8 + M by omega)
    omega
  clear hb hn hzs hM hm
  go_enter Tryd.func41, Tryd.ntmps41
  go_wp2_with (at_builtin; refine wpl_append0 rfl _ _ _ rfl slU8 w.heap.size (World.ownsRow_nil w _ _ _) HB.out rfl rfl (u8s_len1 b) (u8s_one b) (by omega) (by unfold maxLen; omega) (Nat.le_refl _) ?_; intro ao1 cap1 w1 hown hg _ _; have HO1 := hide hown; have HB1 := hide (hg.below (Nat.le_refl _) (fun k hk e => by cases e)); clear hown hg)
  go_loopw [5, 6] (fun v i wr => ∃ k : Nat, k ≤ ss.length ∧ i = .int .i64 k ∧ Hid ((b ++ txts (ss.take k)).length ≤ b.length + k * (8 + M)) ∧ Hid (OwnB w.heap.size w wr v (b ++ txts (ss.take k)))) (fun _ i _ => ss.length - (intOf i).toNat)
  case atStart => exact ⟨0, by omega, rfl, by simp [txts, Hid], ao1, cap1, by simp [txts], by simpa [txts] using HO1.out, HB1.out⟩
  case round =>
    obtain ⟨k, hk, rfl, HL0, HV⟩ := hrel
    by_cases hlt : k < ss.length
    · obtain ⟨ao2, cap2, rfl, ho, hb⟩ := HV.out
      have HO := hide ho
      have HBW := hide hb
      obtain ⟨a, oa, rfl, hx⟩ := rd_at HN.out (by omega)
      have hx1 := (Chg.of_below0 (S := fun _ => False) hb).cell (hx k (.string ss[k]) (by simp [hlt])) (fun h => h)
      obtain ⟨xs, hxs⟩ : ∃ xs, xs = b ++ txts (ss.take k) := ⟨_, rfl⟩
      have hxM := HM.out ss[k] (List.getElem_mem hlt)
      have hmul : (k + 1) * (8 + M) ≤ ss.length * (8 + M) := Nat.mul_le_mul_right _ hlt
      rw [Nat.add_mul, Nat.one_mul] at hmul
      have hl : xs.length + (8 + ss[k].size) ≤ 140737488351232 := by have := HM2.out; have h9 := HL0.out; rw [← hxs] at h9; omega
      obtain ⟨ys, hys⟩ : ∃ ys, ys = xs ++ nums [(ss[k].size : Int)] := ⟨_, rfl⟩
      have hyl : ys.length = xs.length + 8 := by rw [hys]; simp [nums, num8_length]
      have hxe : b ++ txts (ss.take (k + 1)) = ys ++ sb ss[k] := by rw [take_succ_get _ _ hlt, txts_snoc, hys, hxs]; simp
      have hgoal : (ys ++ sb ss[k]).length ≤ b.length + (k + 1) * (8 + M) := by
        have h9 := HL0.out
        rw [← hxs] at h9
        rw [List.length_append, sb_length, hyl, Nat.add_mul, Nat.one_mul]
        omega
      rw [← hxs] at HO ⊢
      obtain ⟨x, hxx⟩ : ∃ x, x = ss[k] := ⟨_, rfl⟩
      rw [← hxx] at hx1 hl hys hxe hgoal
      have HXE := hide hxe
      have HL := hide hl
      have HYS := hide hys
      have HYL := hide hyl
      have HGOAL := hide hgoal
      clear hx hxs hl hxe hxx ho hb HV hxM hmul hys hyl hgoal HL0
      go_wp2_with fail
      go_region_held3 (fun w' => w'.cell? ⟨a, oa + k, none⟩ = some (.string x)) (first | assumption | go_keep)
        (first
          | (go_at_call 40; (have h4 := Rd_lit wr #[.int .i64 x.size] 3 1; have h5 := (Rd.of_owns HO.out).chg (Chg.alloc (fun _ => False) wr (.cells #[.int .i64 x.size] 3)) (fun _ _ _ h => h); have h6 := ref_Num ((wr.alloc (.cells #[.int .i64 x.size] 3)).drew) _ _ xs [(x.size : Int)] ys HYS.out (by exact h5) (by exact h4) (by have := HL.out; simp; omega); refine h6.mono ?_; clear h4 h5 h6); rintro e w3 ⟨ao3, cap3, rfl, ho3, hb3⟩; have HO3 := hide ho3; have HB3 := hide hb3; have hx3 := (Chg.of_below0 (S := fun _ => False) hb3).cell (a := ⟨a, oa + k, none⟩) (v := .string x) (by exact (Chg.alloc (fun _ => False) wr _).cell hx1 (fun h => h)) (fun h => h); clear ho3 hb3)
          | (refine step_append_str (by rfl) _ _ _ _ rfl slU8 Tryd.underlying9 _ HO3.out rfl rfl (by have := HL.out; have := HYL.out; omega) HB3.out.size ?_; intro ao4 cap4 w4 hown hg; have hx4 := hg.cell hx3 (fun h => by have h7 := (ownsRow_lt HO3.out _ h).1; have h8 := World.block_lt_of_cell? wr _ hx1; simp at h7; simp at h8; omega); have HO4 := hide hown; have HG4 := hide hg; clear hown hg))
      go_wp2_with fail
      go_roundw
      case rel =>
        have hz := HB3.out.size
        have hw := HBW.out.size
        have hl2 : (ys ++ sb x).length = ys.length + x.size := by simp [sb_length]
        simp only [World.size_alloc, World.size_drew] at hz
        refine ⟨k + 1, by omega, by go_num, by rw [HXE.out]; exact HGOAL.out, ao4, cap4, ?_, ?_, ?_⟩
        · rw [HXE.out, hl2]
        · rw [HXE.out, hl2, u8s_append]
          refine ownsRow_base HO4.out (fun i hi => ?_)
          have h7 := (ownsRow_lt HO4.out i hi).1
          simp only [World.size_alloc, World.size_drew] at h7
          omega
        · refine ((HBW.out.alloc HBW.out.size _).drew.trans (HB3.out.mono (by simp; omega))).trans (HG4.out.below (by omega) (fun i hi e => ?_))
          have h7 := (ownsRow_lt HO3.out i e).1
          simp only [World.size_alloc, World.size_drew] at h7
          omega
      case measure => simp [intOf]; omega
    · obtain rfl : k = ss.length := by omega
      rw [List.take_length, ← HZS.out] at HV
      obtain ⟨ao2, cap2, rfl, ho, hb⟩ := HV.out
      have HO := hide ho
      have HBW := hide hb
      clear ho hb HV
      go_wp2_with fail
      go_ret
      exact ⟨ao2, cap2, rfl, HO.out, HBW.out⟩
end Go.Proofs.YtjmmmpnpkialjaaDoor
