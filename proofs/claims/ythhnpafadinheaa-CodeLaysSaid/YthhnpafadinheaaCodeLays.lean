/- CodeLays: any numbers and texts are laid behind any bytes as the document says; so are lists of them. Conditions: none. -/
import Derived.Test.YthhnpafadinheaaRows
import Derived.WalkKit
import Derived.ProofKit
import Derived.OpenShut
import Derived.ShutString
import Derived.ChangeOld
import Derived.Below
import Derived.Test.YthhnpafadinheaaCodeA
import Derived.Test.YthhnpafadinheaaCodeList
import Derived.Test.YthhnpafadinheaaCodeRef
import Derived.Test.YthhnpafadinheaaTexts
import Derived.Test.YthhnpafadinheaaDec
namespace Go.Proofs.Ythhnpafadinheaa
open Go.ChangeShapes Go.WideShapes Go.ChangeAt Go.RowKit
open Go.ChangeMaps (open_string shut_string)
set_option linter.unusedVariables false

theorem law_own : ownKnob Try.prog.godebug = none := by kernel_rfl
theorem law_laid : laidOutB Try.prog = true := by kernel_rfl

theorem txts_le (ss : List ByteArray) (M : Nat) (h : ∀ s ∈ ss, s.size ≤ M) : (txts ss).length ≤ ss.length * (8 + M) := by
  induction ss with
  | nil => simp [txts]
  | cons s ss ih =>
    have h1 := h s (by simp)
    have h2 := ih (fun t ht => h t (by simp [ht]))
    have e : txts (s :: ss) = num8 (s.size : Int) ++ sb s ++ txts ss := by simp [txts]
    rw [e, List.length_append, List.length_append, num8_length, sb_length, List.length_cons, Nat.add_mul, Nat.one_mul]
    omega

/-- What is lent, and three rows of bytes. -/
def Lays4 (W : World) (i2 i3 i4 : Nat) (vin vx vy vz : Value) (b x y z : List UInt8) (w : World) : Prop :=
  Lent W.heap.size w vin b [0x77, 0x77, 0x77] ∧ w.ownsRow i2 5 1 vx x.length (u8s x) ∧ w.ownsRow i3 5 1 vy y.length (u8s y) ∧ w.ownsRow i4 5 1 vz z.length (u8s z) ∧ Below W.heap.size W w ∧ i4 ≤ w.heap.size
theorem Lays4.same {W : World} {i2 i3 i4 : Nat} {vin vx vy vz : Value} {b x y z : List UInt8} {w w' : World} (h : Lays4 W i2 i3 i4 vin vx vy vz b x y z w) (c : Chg (fun _ => False) w w') : Lays4 W i2 i3 i4 vin vx vy vz b x y z w' :=
  ⟨h.1.chg c (fun _ _ h => h), c.owns h.2.1 (fun _ _ h => h), c.owns h.2.2.1 (fun _ _ h => h), c.owns h.2.2.2.1 (fun _ _ h => h), h.2.2.2.2.1.trans (c.below h.2.2.2.2.1.size (fun _ _ h => h)), Nat.le_trans h.2.2.2.2.2 c.size⟩
theorem Chg.of_drew_eq {w w' : World} {n : Nat} (h : w' = w.drewN n) : Chg (fun _ => False) w w' := by rw [h]; exact Chg.drewN _ _ _

set_option maxHeartbeats 4000000 in
set_option maxRecDepth 100000 in
theorem CodeLays_walk {H : Type} {enc : TypeId × Value → H} (W : World) (a0 : Option Addr) (n0 c0 : Nat) (hv : Readable enc Try.prog W 28 [.slice a0 n0 c0])
    (a1 : Option Addr) (n1 c1 : Nat) (hv1 : Readable enc Try.prog W 49 [.slice a1 n1 c1]) (a2 : Option Addr) (n2 c2 : Nat) (hv2 : Readable enc Try.prog W 50 [.slice a2 n2 c2]) :
    Calls Try.prog 8 #[.slice a0 n0 c0, .slice a1 n1 c1, .slice a2 n2 c2] W fun e W' => e = .returned (.bool true) ∧ Below W.heap.size W W' := by
  obtain ⟨v', b, hv', hb, hm, -⟩ := hv.bytes Try.underlying28 Try.underlying5 (by kernel_rfl)
  obtain rfl : .slice a0 n0 c0 = v' := by simpa using hv'
  obtain ⟨ao, cap, e, -, -⟩ := hb.shape
  cases e
  obtain ⟨v', ns, hv1', hb1, hm1, -, -⟩ := hv1.ints Try.underlying49 Try.underlying3 (by kernel_rfl)
  obtain rfl : .slice a1 n1 c1 = v' := by simpa using hv1'
  obtain ⟨ao, cap, e, -, -⟩ := hb1.shape
  cases e
  obtain ⟨v', ss, hv2', hb2, hm2, hms, -⟩ := hv2.strings Try.underlying50 Try.underlying9 (by kernel_rfl)
  obtain rfl : .slice a2 n2 c2 = v' := by simpa using hv2'
  obtain ⟨ao, cap, e, -, -⟩ := hb2.shape
  cases e
  have HB := hide hb
  have HN := hide hb1
  have HT := hide hb2
  have HMS := hide hms
  unfold maxLen at hm hm1 hm2
  clear hb hv hv' hb1 hv1 hv1' hb2 hv2 hv2' hms
  by_cases hl : 200 < b.length
  · go_enter Try.func8, Try.ntmps8
    go_wp2_with fail
    all_goals refine (awake15 _).mono ?_
    all_goals rintro e w3 ⟨rfl, hb3⟩
    all_goals have HB3 := hide hb3
    all_goals clear hb3
    all_goals go_wp2_with fail
    all_goals go_ret
    all_goals exact ⟨rfl, HB3.out⟩
  by_cases hl1 : 10 < ns.length
  · go_enter Try.func8, Try.ntmps8
    go_wp2_with fail
    all_goals refine (awake15 _).mono ?_
    all_goals rintro e w3 ⟨rfl, hb3⟩
    all_goals have HB3 := hide hb3
    all_goals clear hb3
    all_goals go_wp2_with fail
    all_goals go_ret
    all_goals exact ⟨rfl, HB3.out⟩
  by_cases hok : TextsOk 10 60 ss
  · have hl2 := hok.1
    have HK := hide hok
    clear hok
    obtain ⟨x, hx⟩ : ∃ x, x = b ++ nums ns := ⟨_, rfl⟩
    obtain ⟨y, hy⟩ : ∃ y, y = b ++ txts ss := ⟨_, rfl⟩
    obtain ⟨p, hp⟩ : ∃ p, p = b ++ nums [(ss.length : Int)] := ⟨_, rfl⟩
    obtain ⟨z, hz⟩ : ∃ z, z = p ++ txts ss := ⟨_, rfl⟩
    have hz' : z = b ++ (num8 (ss.length : Int) ++ ss.flatMap fun s => num8 (s.size : Int) ++ sb s) := by rw [hz, hp]; simp [nums, txts]
    have lx : x.length ≤ 280 := by rw [hx, List.length_append, nums_length]; omega
    have lp : p.length ≤ 208 := by rw [hp, List.length_append, nums_length]; simp; omega
    have X := hide hx
    have Y := hide hy
    have P := hide hp
    have Z := hide hz
    have Z' := hide hz'
    clear hx hy hp hz hz'
    have ht : (txts ss).length ≤ 680 := Nat.le_trans (txts_le ss 60 HK.out.2) (by omega)
    have ly : y.length ≤ 880 := by rw [Y.out, List.length_append]; omega
    have lz : z.length ≤ 888 := by rw [Z.out, List.length_append]; omega
    clear ht
    go_enter Try.func8, Try.ntmps8
    go_wp2_with fail
    refine (GreatTexts_no W _ ss 10 60 HT.out HK.out (by decide)).mono ?_
    rintro e W ⟨rfl, rfl⟩
    go_wp2_with fail
    refine (LendBytes_ok W _ b HB.out (by omega)).mono ?_
    rintro e w1 ⟨vin, rfl, hlent, hb1⟩
    have HL1 := hide hlent
    have B1 := hide hb1
    clear hlent hb1
    go_wp2_with fail
    refine (code_Num w1 _ _ b ns x X.out HL1.out.rd (HN.out.chg (Chg.of_below0 (S := fun _ => False) B1.out) (fun _ _ _ h => h)) (by omega)).mono ?_
    rintro e w2 ⟨ax, cx, rfl, hox, hb2⟩
    have OX := hide hox
    have L2 := hide (HL1.out.chg (Chg.of_below0 (S := fun _ => False) hb2) (fun _ _ h => h))
    have B2 := hide (B1.out.trans (hb2.mono B1.out.size))
    have Z1 := hide B1.out.size
    have Z2 := hide hb2.size
    clear hox hb2
    go_wp2_with fail
    refine (code_Text w2 _ _ b ss y Y.out L2.out.rd (HT.out.chg (Chg.of_below0 (S := fun _ => False) B2.out) (fun _ _ _ h => h)) 60 HK.out.2 (by omega) (by omega)).mono ?_
    rintro e w3 ⟨ay, cy, rfl, hoy, hb3⟩
    have OY := hide hoy
    have OX3 := hide ((Chg.of_below0 (S := fun _ => False) hb3).owns OX.out (fun _ _ h => h))
    have L3 := hide (L2.out.chg (Chg.of_below0 (S := fun _ => False) hb3) (fun _ _ h => h))
    have B3 := hide (B2.out.trans (hb3.mono B2.out.size))
    have Z3 := hide hb3.size
    clear hoy hb3
    go_wp2_with fail
    refine (code_List_S Value.string (fun s => num8 (s.size : Int) ++ sb s) w3 _ _ b ss z Z'.out L3.out.rd (HT.out.chg (Chg.of_below0 (S := fun _ => False) B3.out) (fun _ _ _ h => h)) (by intro _ _; rfl) 68 (fun s hs => by have := HK.out.2 s hs; simp [num8_length, sb_length]; omega) (by omega) (by omega)
      (fun W' v c s _ hs hr hc => lay_ok W' v c s hr (by have := HK.out.2 s hs; omega))).mono ?_
    rintro e w4 ⟨az, cz, rfl, hoz, hb4⟩
    have HIN := hide HL1.out.lt
    have HX := hide (ownsRow_lt OX.out)
    have HY := hide (ownsRow_lt OY.out)
    have HZ := hide (ownsRow_lt hoz)
    have A4 : Hid (Lays4 W w1.heap.size w2.heap.size w3.heap.size vin (.slice ax x.length cx) (.slice ay y.length cy) (.slice az z.length cz) b x y z w4) :=
      hide ⟨L3.out.chg (Chg.of_below0 (S := fun _ => False) hb4) (fun _ _ h => h), (Chg.of_below0 (S := fun _ => False) hb4).owns OX3.out (fun _ _ h => h), (Chg.of_below0 (S := fun _ => False) hb4).owns OY.out (fun _ _ h => h), hoz, B3.out.trans (hb4.mono B3.out.size), hb4.size⟩
    clear hoz hb4 L3 L2 HL1 OX OX3 OY B1 B2 B3
    go_wp2_with fail
    refine (ref_Num w4 _ _ b ns x X.out (HB.out.chg (Chg.of_below0 (S := fun _ => False) A4.out.2.2.2.2.1) (fun _ _ _ h => h)) (HN.out.chg (Chg.of_below0 (S := fun _ => False) A4.out.2.2.2.2.1) (fun _ _ _ h => h)) (by omega)).mono ?_
    rintro e w5 ⟨ar, cr, rfl, hor, hb5⟩
    have OR := hide hor
    have A5 := hide (A4.out.same (Chg.of_below0 hb5))
    clear hor hb5 A4
    go_wp2_with fail
    refine (SameBytes_refl w5 _ _ x (Rd.of_owns A5.out.2.1) (Rd.of_owns OR.out) (by omega)).mono ?_
    rintro e w6 ⟨rfl, n6, hw6⟩
    have A6 := hide (A5.out.same (Chg.of_drew_eq hw6))
    clear hw6 A5 OR
    go_wp2_with fail
    refine (ref_Text w6 _ _ b ss y Y.out (HB.out.chg (Chg.of_below0 (S := fun _ => False) A6.out.2.2.2.2.1) (fun _ _ _ h => h)) (HT.out.chg (Chg.of_below0 (S := fun _ => False) A6.out.2.2.2.2.1) (fun _ _ _ h => h)) 60 HK.out.2 (by omega)).mono ?_
    rintro e w7 ⟨ar, cr, rfl, hor, hb7⟩
    have OR := hide hor
    have A7 := hide (A6.out.same (Chg.of_below0 hb7))
    clear hor hb7 A6
    go_wp2_with fail
    refine (SameBytes_refl w7 _ _ y (Rd.of_owns A7.out.2.2.1) (Rd.of_owns OR.out) (by omega)).mono ?_
    rintro e w8 ⟨rfl, n8, hw8⟩
    have A8 := hide (A7.out.same (Chg.of_drew_eq hw8))
    clear hw8 A7 OR
    go_wp2_with fail
    have h4 := Rd_lit w8 #[.int .i64 ss.length] 3 1
    refine (ref_Num _ _ _ b [(ss.length : Int)] p P.out ((HB.out.chg (Chg.of_below0 (S := fun _ => False) A8.out.2.2.2.2.1) (fun _ _ _ h => h)).chg (Chg.alloc (fun _ => False) w8 _) (fun _ _ _ h => h)) h4 (by simp; omega)).mono ?_
    rintro e w9 ⟨ar, cr, rfl, hor, hb9⟩
    have OR := hide hor
    have A9 := hide ((A8.out.same (Chg.alloc _ w8 _)).same (Chg.of_below0 hb9))
    clear hor hb9 A8 h4
    go_wp2_with fail
    refine (ref_Text w9 _ _ p ss z Z.out (Rd.of_owns OR.out) (HT.out.chg (Chg.of_below0 (S := fun _ => False) A9.out.2.2.2.2.1) (fun _ _ _ h => h)) 60 HK.out.2 (by omega)).mono ?_
    rintro e w10 ⟨ar2, cr2, rfl, hor, hb10⟩
    have OR2 := hide hor
    have A10 := hide (A9.out.same (Chg.of_below0 hb10))
    clear hor hb10 A9 OR
    go_wp2_with fail
    refine (SameBytes_refl w10 _ _ z (Rd.of_owns A10.out.2.2.2.1) (Rd.of_owns OR2.out) (by omega)).mono ?_
    rintro e w11 ⟨rfl, n11, hw11⟩
    have A11 := hide (A10.out.same (Chg.of_drew_eq hw11))
    clear hw11 A10 OR2
    go_wp2_with fail
    refine (KeptBytes_true w11 _ _ b A11.out.1 (HB.out.chg (Chg.of_below0 (S := fun _ => False) A11.out.2.2.2.2.1) (fun _ _ _ h => h)) (by omega)).mono ?_
    rintro e w12 ⟨rfl, n12, hw12⟩
    have A12 := hide (A11.out.same (Chg.of_drew_eq hw12))
    clear hw12 A11
    go_wp2_with fail
    refine (OverBytes_ok w12 _ _ _ A12.out.2.1 (by have := A12.out.2.2.2.2.2; have := Z2.out; have := Z3.out; omega) (by omega)).mono ?_
    rintro e w13 ⟨rfl, hc13⟩
    have A13 : Hid (Lent W.heap.size w13 vin b [0x77, 0x77, 0x77] ∧ w13.ownsRow w2.heap.size 5 1 (.slice ay y.length cy) y.length (u8s y) ∧ w13.ownsRow w3.heap.size 5 1 (.slice az z.length cz) z.length (u8s z) ∧ Below W.heap.size W w13 ∧ w3.heap.size ≤ w13.heap.size) :=
      hide ⟨A12.out.1.chg hc13 (fun j h e => by have := HIN.out j h; have := HX.out j e; omega), hc13.owns A12.out.2.2.1 (fun j h e => by have := HY.out j h; have := HX.out j e; omega), hc13.owns A12.out.2.2.2.1 (fun j h e => by have := HZ.out j h; have := HX.out j e; have := Z3.out; omega), A12.out.2.2.2.2.1.trans (hc13.below A12.out.2.2.2.2.1.size (fun j hj e => by have := HX.out j e; have := Z1.out; omega)), Nat.le_trans A12.out.2.2.2.2.2 hc13.size⟩
    clear hc13 A12
    go_wp2_with fail
    refine (OverBytes_ok w13 _ _ _ A13.out.2.1 (by have := A13.out.2.2.2.2; have := Z3.out; omega) (by omega)).mono ?_
    rintro e w14 ⟨rfl, hc14⟩
    have A14 : Hid (Lent W.heap.size w14 vin b [0x77, 0x77, 0x77] ∧ w14.ownsRow w3.heap.size 5 1 (.slice az z.length cz) z.length (u8s z) ∧ Below W.heap.size W w14 ∧ w3.heap.size ≤ w14.heap.size) :=
      hide ⟨A13.out.1.chg hc14 (fun j h e => by have := HIN.out j h; have := HY.out j e; have := Z2.out; omega), hc14.owns A13.out.2.2.1 (fun j h e => by have := HZ.out j h; have := HY.out j e; omega), A13.out.2.2.2.1.trans (hc14.below A13.out.2.2.2.1.size (fun j hj e => by have := HY.out j e; have := Z1.out; have := Z2.out; omega)), Nat.le_trans A13.out.2.2.2.2 hc14.size⟩
    clear hc14 A13
    go_wp2_with fail
    refine (OverBytes_ok w14 _ _ _ A14.out.2.1 A14.out.2.2.2 (by omega)).mono ?_
    rintro e w15 ⟨rfl, hc15⟩
    have A15 : Hid (Lent W.heap.size w15 vin b [0x77, 0x77, 0x77] ∧ Below W.heap.size W w15) :=
      hide ⟨A14.out.1.chg hc15 (fun j h e => by have := HIN.out j h; have := HZ.out j e; have := Z2.out; have := Z3.out; omega), A14.out.2.2.1.trans (hc15.below A14.out.2.2.1.size (fun j hj e => by have := HZ.out j e; have := Z1.out; have := Z2.out; have := Z3.out; omega))⟩
    clear hc15 A14
    go_wp2_with fail
    refine (SameBytes_refl w15 _ _ b A15.out.1.rd (HB.out.chg (Chg.of_below0 (S := fun _ => False) A15.out.2) (fun _ _ _ h => h)) (by omega)).mono ?_
    rintro e w16 ⟨rfl, n16, hw16⟩
    have A16 : Hid (Below W.heap.size W w16) := hide (by rw [hw16]; exact bdrewN A15.out.2 _)
    clear hw16 A15
    go_wp2_with fail
    refine (awake15 _).mono ?_
    rintro e w17 ⟨rfl, hb17⟩
    have HB17 := hide hb17
    clear hb17
    go_wp2_with fail
    go_ret
    exact ⟨rfl, A16.out.trans (HB17.out.mono A16.out.size)⟩
  · have HK := hide hok
    clear hok
    go_enter Try.func8, Try.ntmps8
    go_wp2_with fail
    refine (GreatTexts_yes W _ ss 10 60 HT.out HK.out (by decide) (by omega) HMS.out).mono ?_
    rintro e w ⟨rfl, rfl⟩
    go_wp2_with fail
    all_goals refine (awake15 _).mono ?_
    all_goals rintro e w3 ⟨rfl, hb3⟩
    all_goals have HB3 := hide hb3
    all_goals clear hb3
    all_goals go_wp2_with fail
    all_goals go_ret
    all_goals exact ⟨rfl, HB3.out⟩

set_option maxRecDepth 100000 in
theorem CodeLays_lifted (os : Os) (started : os.Started) (H : Type) (enc : TypeId × Value → H) :
    ReturnsInHanded {} Try.checked os 8 .any (Rows.codeLaysSpec.pre6 enc Try.prog Try.f8 Rows.codeLaysRow.domain false) (Rows.codeLaysSpec.post enc Try.prog Try.f8 false true false false) := by
  refine returnsInHanded_of_change (C := Try.checked) law_own started (by kernel_rfl) Try.func8
    (ChangeSpec.witness6 (enc := enc) (C := Try.checked) false ⟨#[], #[.slice none 0 0, .slice none 0 0, .slice none 0 0], []⟩ 8 (by kernel_rfl) (by kernel_rfl) (by kernel_rfl) (by kernel_rfl)) ?_
  intro W base args ds gs before hval0 hW hcnd _
  have hval : ∀ (j : Nat) t v, Try.f8.params[j]? = some t → args[j]? = some v → Value.okWide Try.prog W .any base t v := hval0
  have hW' := hW
  obtain ⟨p, q, hA0, hV, rfl, hfz, hnd⟩ := hW
  have hA : DataW.TrodAll enc Try.prog W 0 (fun _ => true) true Try.f8.params.toList args.toList ds p := hA0
  rw [Try.params8] at hA hval
  obtain ⟨v0, vs0, d0, ds0, p0, q0, hargs, rfl, rfl, h0, r0⟩ := trodAll_cons hA
  obtain ⟨v1, vs1, d1, ds1, p1, q1, rfl, rfl, rfl, h1, r1⟩ := trodAll_cons r0
  obtain ⟨v2, vs2, d2, ds2, p2, q2, rfl, rfl, rfl, h2, r2⟩ := trodAll_cons r1
  obtain ⟨rfl, rfl, rfl⟩ := trodAll_nil r2
  obtain rfl : args = #[v0, v1, v2] := by cases args; simp_all
  obtain ⟨rfl, rfl⟩ := trodVars_none hV
  have k0 := h0
  have lt0 : ∀ x ∈ p0, x.block < W.heap.size := by obtain ⟨m, hm⟩ := k0; exact DataW.trod_lt m _ _ _ hm
  obtain ⟨a0, len0, cap0, rfl⟩ := okWide_slice Try.underlying28 (hval 0 28 v0 rfl rfl)
  have k1 := h1
  have lt1 : ∀ x ∈ p1, x.block < W.heap.size := by obtain ⟨m, hm⟩ := k1; exact DataW.trod_lt m _ _ _ hm
  obtain ⟨a1, len1, cap1, rfl⟩ := okWide_slice Try.underlying49 (hval 1 49 v1 rfl rfl)
  have k2 := h2
  have lt2 : ∀ x ∈ p2, x.block < W.heap.size := by obtain ⟨m, hm⟩ := k2; exact DataW.trod_lt m _ _ _ hm
  obtain ⟨a2, len2, cap2, rfl⟩ := okWide_slice Try.underlying50 (hval 2 50 v2 rfl rfl)
  clear hA0 hval0
  refine (CodeLays_walk (enc := enc) W a0 len0 cap0 (Readable.of_trod h0) a1 len1 cap1 (Readable.of_trod h1) a2 len2 cap2 (Readable.of_trod h2)).mono fun e W' ⟨he, bel⟩ => ?_
  subst he
  exact ⟨_, rfl, _, _, _, [], _, [], hW', trodAll_mk1 (shut_bool Try.underlying4 _), (trodAll_cons_mk (Below.trod law_laid (by kernel_rfl) (of_decide_eq_true (by kernel_rfl)) k0 bel lt0) (trodAll_cons_mk (Below.trod law_laid (by kernel_rfl) (of_decide_eq_true (by kernel_rfl)) k1 bel lt1) (trodAll_cons_mk (Below.trod law_laid (by kernel_rfl) (of_decide_eq_true (by kernel_rfl)) k2 bel lt2) trodAll_mk0))), rfl, bel.frame _, fun h => by cases h⟩

theorem CodeLays_over : Rows.codeLaysRow.holds Try.pinned (OpenSpec.ofChange Rows.codeLaysSpec) :=
  OpenClaim.holds_of_wide 8 Try.f8 rfl rfl rfl rfl rfl rfl rfl ⟨rfl, rfl, rfl, rfl, rfl⟩ rfl rfl rfl rfl rfl (by kernel_rfl) Try.func8 (by kernel_rfl)
    (of_decide_eq_true (by kernel_rfl)) (by unfold Func.isWrapper; first | (rw [if_pos (by decide +kernel)]; kernel_rfl) | (rw [if_neg (by decide +kernel)]; exact ⟨rfl, rfl⟩))
    (fun os started H enc _ => CodeLays_lifted os started H enc)

theorem CodeLays_holds : Rows.CodeLaysSaid := CodeLays_over
#print axioms CodeLays_holds

end Go.Proofs.Ythhnpafadinheaa
