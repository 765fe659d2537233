/- dag.Ahead: what it gives, what it promises. Conditions: none. -/
import Derived.Test.YtnnkbicaokckbaaDoorDgA
import Derived.Test.YtnnkbicaokckbaaDoorDgP
namespace Go.Proofs.YtnnkbicaokckbaaDoor
open Go.RowKit Go.Shelf
attribute [local go_sem] Oper.semAt_some

theorem ahead_less : pi_Less 71 gtB := by
  refine ⟨enters_of Tryd.func71 (by kernel_rfl) rfl, fun W x y => ?_⟩
  go_enter Tryd.func71, Tryd.ntmps71
  go_wp2_with fail
  go_ret
  exact ⟨rfl, rfl⟩
/-- The greatest that may still come, out of the last one that was told (0: none). -/
def topA (n last : Int) : Int := if last = 0 then n + 1 else last
def muA (q : Nat) (n : Int) (v : Value) (w : World) : Nat := 3 * (topA n (intOf v)).toNat + (match w.cell? ⟨q, 1, none⟩ with | some (.slice _ m _) => m | _ => 0)
theorem muA_eq {base : Nat} {w : World} {q g : Nat} {ao : Option Addr} {cap : Nat} {P : List Int} (h : pi_At base w q g ao cap P) (n last : Int) : muA q n (.int .i64 last) w = 3 * (topA n last).toNat + P.length := by
  have := h.c1
  unfold muA
  rw [this]
  rfl
/-- Where a walk through what is ahead stands. -/
def StA (cs : List Cm) (n : Int) (R : Nat → Prop) (W : World) (B4 q : Nat) (J : (Nat → Prop) → List Int → World → Prop) (last : Int) (wr : World) : Prop :=
  ∃ (D : Nat → Prop) (pre : List Int) (ao : Option Addr) (cap : Nat) (P : List Int), J D pre wr ∧ pi_At B4 wr q 71 ao cap P ∧ (∀ b, PSet q ao b → D b) ∧ Kpt R W wr ∧ PInv cs (topA n last) P ∧ pre ++ restN cs (topA n last) P = aheadN cs n ∧
    3 * (topA n last).toNat + P.length ≤ 200 ∧ (last = 0 → ∀ x ∈ P, x ≤ n)
theorem kpt_pile {R : Nat → Prop} {W A A' : World} {base q g : Nat} {ao : Option Addr} {cap : Nat} {P : List Int} (h : pi_At base A q g ao cap P) (hR : ∀ k, R k → k < W.heap.size) (hb : W.heap.size ≤ base) (hk : Kpt R W A) (c : Chg (PSet q ao) A A') : Kpt R W A' :=
  hk.trans (Kpt.of_chg c (fun k _ hr hs => by have := (PileAt.lt h k hs).1; have := hR k hr; omega))
theorem pile_kpt {A A' : World} {base q g : Nat} {ao : Option Addr} {cap : Nat} {P : List Int} {R : Nat → Prop} (h : pi_At base A q g ao cap P) (hk : Kpt R A A') (hR : ∀ b, PSet q ao b → R b) : pi_At base A' q g ao cap P := by
  refine ⟨hk.heap h.1 (hR q (.inl rfl)), ?_, h.2.2⟩
  refine ⟨h.2.1.1, ?_⟩
  rcases h.2.1.2 with hn | ⟨gg, cap', cur, e1, hb, hgg, rest⟩
  · exact .inl hn
  · exact .inr ⟨gg, cap', cur, e1, hb, hk.heap hgg (hR gg (.inr (by cases e1; rfl))), rest⟩

set_option maxRecDepth 100000 in
set_option maxHeartbeats 8000000 in
theorem ahead_seqd (w : World) (b1 b2 : Nat) {R0 : Nat → Prop} {v : Value} {cs : List Cm} (hd : DagOk cs) (hg : GetsR R0 w v cs) (hv : ∃ a, v = .pointer a) (n : Int) (hn : I64 n)
    (h1 : w.cell? ⟨b1, 0, none⟩ = some v) (h2 : w.cell? ⟨b2, 0, none⟩ = some (.int .i64 n)) :
    SeqD Fence.wide 8 Tryd.prog 69 #[.pointer (some ⟨b1, 0, none⟩), .pointer (some ⟨b2, 0, none⟩)] (fun x : Int => #[.int .i64 x]) (fun k => k = b1 ∨ k = b2 ∨ R0 k) (aheadN cs n) w := by
  intro ll J Jx W hW hJ hJx hY h0
  have hb1l := World.block_lt_of_cell? w _ h1
  have hb2l := World.block_lt_of_cell? w _ h2
  have hB1 : W.cell? ⟨b1, 0, none⟩ = some v := (World.cell?_of_block (hW.2 b1 hb1l (.inl rfl))).trans h1
  have hB2 : W.cell? ⟨b2, 0, none⟩ = some (.int .i64 n) := (World.cell?_of_block (hW.2 b2 hb2l (.inr (.inl rfl)))).trans h2
  have hget := hg.2 W n (hW.mono (fun _ h => .inr (.inr h))) hn
  obtain ⟨c, hc⟩ : ∃ c, c = cmN cs n := ⟨_, rfl⟩
  rw [← hc] at hget
  obtain ⟨av, rfl⟩ := hv
  have HGW : Hid (GetsR R0 W (.pointer av) cs) := hide (hg.later (hW.mono (fun _ h => .inr (.inr h))))
  have HRW : Hid (∀ k, (k = b1 ∨ k = b2 ∨ R0 k) → k < W.heap.size) := hide (fun k hk => by
    have := hW.1
    rcases hk with rfl | rfl | hk
    · have e : k < w.heap.size := hb1l; omega
    · have e : k < w.heap.size := hb2l; omega
    · have := hg.1 k hk; omega)
  have HB1 := hide hB1
  have HB2 := hide hB2
  have HGET := hide hget
  have HJ := hide hJ
  have HJX := hide hJx
  have HY := hide hY
  have H0 := hide h0
  have HD := hide hd
  clear hget hc hJ hJx hY h0 hW h1 h2 hg hn hb1l hb2l hd
  refine callsIn_of_wp Tryd.func69 rfl trivial ?_ rfl
  simp only [Tryd.ntmps69, List.size_toArray, List.length_cons, List.length_nil, Nat.reduceAdd, Nat.reduceSub, Array.replicate_succ, Array.replicate_zero, List.push_toArray, List.append_toArray, List.nil_append, List.cons_append]
  gi_wp2_with fail
  refine ⟨trivial, ?_⟩
  gi_at_call 25
  refine (callsIn_wide.2 HGET.out).mono ?_
  rintro e W3 ⟨vp, vt, rfl, hown3, hb3⟩
  have hps : W3.ownsRow _ _ _ vp c.parents.length _ := hown3.ps
  have hts : W3.ownsRow _ _ _ vt c.tree.length _ := hown3.ts
  obtain ⟨aop, cap1, rfl⟩ := ownsRow_shape hps
  obtain ⟨aot, cap2, rfl⟩ := ownsRow_shape hts
  have hc4 := (Chg.of_below0 (S := fun _ => False) hb3).trans (Chg.alloc (fun _ => False) W3 (.cells #[.slice aop c.parents.length cap1, .slice aot c.tree.length cap2, .string c.note] 33)) (S'' := fun _ => False) (fun _ _ h => h) (fun _ _ h => h)
  simp only [val_eq]
  generalize hw4 : W3.alloc (.cells #[.slice aop c.parents.length cap1, .slice aot c.tree.length cap2, .string c.note] 33) = W4 at hc4
  have HW4 := hide hw4
  have hj4 := HJ.out _ [] W W4 _ H0.out hc4 (fun _ _ h => h.elim)
  have HJ4 := hide hj4
  have HC4 := hide hc4
  have hsz4 : W.heap.size ≤ W4.heap.size := hc4.size
  have hb2c := hc4.cell hB2 (fun h => h)
  clear hps hts hown3 hb3 hc4 hw4 hj4
  cases hin : inN cs n with
  | false =>
    have hz : aheadN cs n = [] := by rw [aheadN, if_neg (by rw [← inN_iff, hin]; simp)]
    have HZ := hide hz
    clear hin hz
    gi_wp2_with (rw [HW4.out])
    refine bodyPost_ret (results_none rfl _ _ _) rfl ?_
    exact ⟨⟨_, rfl⟩, .inl ⟨_, by rw [HZ.out]; exact HJ4.out⟩⟩
  | true =>
    have hin' := inN_iff.1 hin
    have HIN := hide hin'
    have hnb : 1 ≤ n ∧ n ≤ 60 := by have := HD.out.len; omega
    clear hin hin'
    gi_wp2_with (rw [HW4.out])
    refine ⟨trivial, ?_⟩
    gi_at_call 70
    refine (callsIn_wide.2 (pi_New W4 71)).mono ?_
    rintro e W5 ⟨rfl, hp5, hb5⟩
    obtain ⟨q, hq⟩ : ∃ q, q = W4.heap.size := ⟨_, rfl⟩
    rw [← hq] at hp5 ⊢
    have HQ := hide hq
    have hsz4 : W.heap.size ≤ q := by omega
    clear hq
    have hsz5 := hb5.size
    have hc5 := Chg.of_below0 (S := fun _ => False) hb5
    have hal := Chg.alloc (fun _ => False) W5 (.cells #[.int .i64 n] 3)
    have hp6 := PileAt.chg hp5 hal (fun _ _ h => h)
    have hrl := Rd_lit W5 #[.int .i64 n] 3 1
    have hput := pi_Put (W5.alloc (.cells #[.int .i64 n] 3)) q 71 none 0 [] gtB ahead_less hp6 (.slice (some ⟨W5.heap.size, 0, none⟩) 1 1) [n] hrl
      (fun b hb _ => by cases hb; exact ⟨fun h => absurd (PileAt.lt hp5 _ h).2 (Nat.lt_irrefl _), by simp⟩) (by simp)
    have hins : [n].foldl (ins gtB) [] = [n] := rfl
    rw [hins] at hput
    have HPUT := hide hput
    have HP6 := hide hp6
    have HC56 := hide (hc5.trans hal (S'' := fun _ => False) (fun _ _ h => h) (fun _ _ h => h))
    have hb2d := hc5.cell hb2c (fun h => h)
    clear hp5 hb5 hc5 hal hp6 hrl hput hins
    gi_wp2_with fail
    refine ⟨trivial, ?_⟩
    gi_at_call 72
    refine (callsIn_wide.2 HPUT.out).mono ?_
    rintro e W7 ⟨rfl, hgrew⟩
    obtain ⟨ao7, cap7, hp7, hc7, hs7⟩ := hgrew
    generalize W5.alloc (.cells #[.int .i64 n] 3) = W6 at *
    have hj6 := HJ.out _ _ _ _ _ HJ4.out HC56.out (fun _ _ h => h.elim)
    have hps6 : ∀ k, PSet q none k → Plus (Plus (fun _ => False) W W4) W4 W6 k := fun k hk => .inr (by have := PileAt.lt HP6.out k hk; have := HQ.out; omega)
    have hj7 := HJ.out _ _ _ _ _ hj6 hc7 (fun k _ h => hps6 k h)
    have HST : Hid (StA cs n (fun k => k = b1 ∨ k = b2 ∨ R0 k) W q q J 0 W7) := hide (by
      refine ⟨_, [], ao7, cap7, [n], hj7, hp7, fun b hb => ?_, ?_, ⟨by simp [Sorted], fun x hx => ?_, ?_⟩, ?_, ?_⟩
      · rcases hs7 b hb with h | h
        · exact .inl (hps6 b h)
        · exact .inr ⟨h, (PileAt.lt hp7 b hb).2⟩
      · exact kpt_pile HP6.out HRW.out (by omega) (Kpt.of_chg (HC4.out.trans HC56.out (S'' := fun _ => False) (fun _ _ h => h) (fun _ _ h => h)) (fun _ _ _ h => h)) hc7
      · rw [List.mem_singleton.1 hx]; simp [topA]; omega
      · have := HIN.out; simp [topA]; omega
      · rw [List.nil_append]; exact rest_start HIN.out
      · simp [topA]; omega)
    clear hj6 hj7 hc7 hp7 hs7 hps6 HP6 HPUT HJ4 HC56 HGET hb2c hb2d HQ
    gi_wp2_with fail
    gi_loopw [7] (fun i wr => ∃ last : Int, i = .int .i64 last ∧ Hid (StA cs n (fun k => k = b1 ∨ k = b2 ∨ R0 k) W q q J last wr)) (fun i wr => muA q n i wr)
    case atStart => exact ⟨0, rfl, HST.out⟩
    case round =>
      obtain ⟨last, rfl, HS⟩ := hrel
      obtain ⟨D, pre, ao, cap, P, hj, hp, hpd, hk, hi, hr, hm, hz⟩ := HS.out
      have hlenb : P.length ≤ 200 := by omega
      have HLEN := hide (pi_Len wr q 71 ao cap P hp)
      cases P with
      | nil =>
        rw [rest_nil, List.append_nil] at hr
        have HEND := hide (show J D (aheadN cs n) wr by rw [← hr]; exact hj)
        clear hj hp hpd hk hi hr hm hz
        gi_wp2_with fail
        refine ⟨trivial, ?_⟩
        gi_at_call 73
        refine (callsIn_wide.2 HLEN.out).mono ?_
        rintro e w5 ⟨rfl, rfl⟩
        gi_wp2_with fail
        go_end0
        exact ⟨⟨_, rfl⟩, .inl ⟨D, HEND.out⟩⟩
      | cons x P =>
        have HPOP := hide (pi_Pop wr q 71 ao cap x P hp)
        have hmu := muA_eq hp n last
        have hrx := hi.rng x (by simp)
        have HJ1 := hide hj
        have HP1 := hide hp
        have HPD := hide hpd
        have HK1 := hide hk
        have HI := hide hi
        have HR := hide hr
        have HM := hide hm
        have HMU := hide hmu
        have d0 : decide (((x :: P).length : Int) > 0) = true := decide_eq_true (by simp)
        have hxt : x ≠ last → x < topA n last := fun hne => by
          unfold topA at hrx ⊢
          split
          · have := hz (by assumption) x (by simp); omega
          · rw [if_neg (by assumption)] at hrx; omega
        have HXT := hide hxt
        clear hj hp hpd hk hi hr hm hmu hz hxt
        gi_wp2_with fail
        refine ⟨trivial, ?_⟩
        gi_at_call 73
        refine (callsIn_wide.2 HLEN.out).mono ?_
        rintro e w5 ⟨rfl, rfl⟩
        gi_wp2_with fail
        refine ⟨trivial, ?_⟩
        gi_at_call 74
        refine (callsIn_wide.2 HPOP.out).mono ?_
        rintro e w6 ⟨rfl, ao6, cap6, hp6, hc6, hs6⟩
        have hj6 := HJ.out _ _ _ _ _ HJ1.out hc6 (fun k _ h => HPD.out k h)
        have hpd6 : ∀ b, PSet q ao6 b → Plus D w5 w6 b := fun b hb => by
          rcases hs6 b hb with h | h
          · exact .inl (HPD.out b h)
          · exact .inr ⟨h, (PileAt.lt hp6 b hb).2⟩
        have hk6 := kpt_pile HP1.out HRW.out (by omega) HK1.out hc6
        have HJ6 := hide hj6
        have HPD6 := hide hpd6
        have HK6 := hide hk6
        have HP6 := hide hp6
        clear hj6 hpd6 hk6 hp6 hc6 hs6
        by_cases hxl : x = last
        · have hx1 : 1 ≤ last := by omega
          have d1 : (x == last) = true := by simp [hxl]
          have ht : topA n last = last := by rw [topA, if_neg (by omega)]
          have hi' := HI.out
          have hr' := HR.out
          have hm' := HM.out
          rw [ht] at hi' hr' hm'
          have hold := PInv.old (cs := cs) (L := last) (P := P) (by rw [hxl] at hi'; exact hi')
          rw [hxl, hold.1] at hr'
          have HST2 : Hid (StA cs n (fun k => k = b1 ∨ k = b2 ∨ R0 k) W q q J last w6) := hide (by
            refine ⟨_, pre, ao6, cap6, P, HJ6.out, HP6.out, HPD6.out, HK6.out, by rw [ht]; exact hold.2, by rw [ht]; exact hr', by rw [ht]; simp at hm'; omega, fun h => by omega⟩)
          have HMX := hide (show muA q n (.int .i64 last) w6 < muA q n (.int .i64 last) w5 by rw [HMU.out, muA_eq HP6.out]; simp)
          clear hi' hr' hm' hold ht
          gi_wp2_with fail
          go_roundw
          case rel => exact ⟨last, rfl, HST2.out⟩
          case measure => exact HMX.out
        · have d1 : (x == last) = false := by simp [hxl]
          obtain ⟨hnr, hni⟩ := PInv.new HD.out HI.out (HXT.out hxl)
          have hr' := HR.out
          rw [hnr] at hr'
          have hpre : pre ++ [x] <+: aheadN cs n := ⟨restN cs x ((parN cs x).foldl (ins gtB) P), by rw [← hr', List.append_assoc]; rfl⟩
          obtain ⟨fn, tmps, assign, body, hy, hR⟩ := HY.out _ _ x w6 HJ6.out hpre
          have HNI := hide hni
          have HR2 := hide hr'
          have HXL := hide hxl
          have HRY := hide hR
          clear hnr hni hr' hpre hxl hR
          gi_wp2_with fail
          refine HRY.out.mono ?_
          rintro e w7 (⟨rfl, hj7, hk7⟩ | ⟨rfl, hx7, -⟩)
          · have hp7 := pile_kpt HP6.out hk7 (fun b hb => .inr (HPD6.out b hb))
            have hkw7 := HK6.out.trans (hk7.mono (fun _ h => .inl h))
            have hbc1 := (World.cell?_of_block (hkw7.2 b1 (HRW.out b1 (.inl rfl)) (.inl rfl))).trans HB1.out
            have hxi : I64 x := by have h1 := HI.out.top; have h2 := HD.out.len; exact ⟨by omega, by omega⟩
            have hgets : Gets w7 (.pointer av) cs := ⟨⟨_, rfl⟩, R0, HGW.out.later (hkw7.mono (fun _ h => .inr (.inr h)))⟩
            have hfew := HD.out.few x
            have HPAR := hide (dag_Parents w7 hgets x hxi (by omega))
            have HJ7 := hide hj7
            have HP7 := hide hp7
            have HK7 := hide hkw7
            have HFEW := hide hfew
            clear hj7 hk7 hp7 hkw7 hxi hgets hfew
            gi_wp2_with fail
            refine ⟨trivial, ?_⟩
            gi_at_call 39
            refine (callsIn_wide.2 HPAR.out).mono ?_
            rintro e w8 ⟨gv, rfl, ht8, hb8⟩
            have HLS := hide (list_told w8 _ gv ht8 (by have := HFEW.out; omega))
            have HB8 := hide hb8
            clear ht8 hb8
            gi_wp2_with fail
            refine ⟨trivial, ?_⟩
            gi_at_call 75
            refine (callsIn_wide.2 HLS.out).mono ?_
            rintro e w9 ⟨ao9, cap9, rfl, hown9, hb9⟩
            have hc79 : Chg (fun _ => False) w7 w9 := (Chg.of_below0 HB8.out).trans (Chg.of_below0 hb9) (fun _ _ h => h) (fun _ _ h => h)
            have hp9 := PileAt.chg HP7.out hc79 (fun _ _ h => h)
            have hlb : P.length ≤ 199 := by have := hlenb; simp at this; omega
            have HPUT := hide (pi_Put w9 q 71 ao6 cap6 P gtB ahead_less hp9 (.slice ao9 (parN cs x).length cap9) (parN cs x) (Rd.of_owns hown9)
              (fun b hb _ => ⟨fun h => by have h1 := (ownsRow_lt hown9 b hb).1; have h2 := (PileAt.lt HP7.out b h).2; have h3 := HB8.out.size; omega, (ownsRow_lt hown9 b hb).2⟩) (by have := HFEW.out; omega))
            have HP9 := hide hp9
            have HC79 := hide hc79
            clear hown9 hb9 hc79 hp9 hlb hbc1
            gi_wp2_with fail
            refine ⟨trivial, ?_⟩
            gi_at_call 72
            refine (callsIn_wide.2 HPUT.out).mono ?_
            rintro e w10 ⟨rfl, ao10, cap10, hp10, hc10, hs10⟩
            have hj9 := HJ.out _ _ _ _ _ HJ7.out HC79.out (fun _ _ h => h.elim)
            have hpd9 : ∀ b, PSet q ao6 b → Plus (Plus D w5 w6) w7 w9 b := fun b hb => .inl (HPD6.out b hb)
            have hj10 := HJ.out _ _ _ _ _ hj9 hc10 (fun k _ h => hpd9 k h)
            have hx0 : x ≠ 0 := by omega
            have ht : topA n x = x := by rw [topA, if_neg hx0]
            have hlen10 := PInv.len HD.out x P
            have hxt := HXT.out HXL.out
            have hm' := HM.out
            have HST2 : Hid (StA cs n (fun k => k = b1 ∨ k = b2 ∨ R0 k) W q q J x w10) := hide (by
              refine ⟨_, pre ++ [x], ao10, cap10, _, hj10, hp10, fun b hb => ?_, kpt_pile HP9.out HRW.out (by omega) (HK7.out.trans (Kpt.of_chg HC79.out (fun _ _ _ h => h))) hc10, by rw [ht]; exact HNI.out, by rw [ht, List.append_assoc]; exact HR2.out, by rw [ht]; simp at hm'; omega, fun h => absurd h hx0⟩
              rcases hs10 b hb with h | h
              · exact .inl (hpd9 b h)
              · exact .inr ⟨h, (PileAt.lt hp10 b hb).2⟩)
            have HMX := hide (show muA q n (.int .i64 x) w10 < muA q n (.int .i64 last) w5 by rw [HMU.out, muA_eq hp10, ht]; simp; omega)
            clear hj9 hpd9 hj10 hx0 ht hlen10 hxt hm' hp10 hc10 hs10
            gi_wp2_with fail
            go_roundw
            case rel => exact ⟨x, rfl, HST2.out⟩
            case measure => exact HMX.out
          · have HX7 := hide hx7
            have HPX := hide (show pre ++ [x] <+: aheadN cs n from ⟨restN cs x ((parN cs x).foldl (ins gtB) P), by rw [← HR2.out, List.append_assoc]; rfl⟩)
            clear hx7
            gi_wp2_with fail
            refine bodyPost_ret (results_none rfl _ _ _) rfl ?_
            exact ⟨⟨_, rfl⟩, .inr ⟨_, _, HPX.out, HX7.out⟩⟩

/-- A function that boxes two and gives a closure of both. -/
theorem dag_Ahead_0 (w : World) {v : Value} {cs : List Cm} {R0 : Nat → Prop} (hv : ∃ a, v = .pointer a) (hg : GetsR R0 w v cs) (n : Int) (hn : I64 n) (hd : DagOk cs) :
    Calls Tryd.prog 40 #[v, .int .i64 n] w fun e w' => e = .returned (.func (.func 69) #[] #[.pointer (some ⟨w.heap.size, 0, none⟩), .pointer (some ⟨w.heap.size + 1, 0, none⟩)]) ∧ SeqD Fence.wide 8 Tryd.prog 69 #[.pointer (some ⟨w.heap.size, 0, none⟩), .pointer (some ⟨w.heap.size + 1, 0, none⟩)] (fun x : Int => #[.int .i64 x]) (fun k => k = w.heap.size ∨ k = w.heap.size + 1 ∨ R0 k) (aheadN cs n) w' ∧ w'.heap.size = w.heap.size + 2 ∧ Below w.heap.size w w' := by
  obtain ⟨a, rfl⟩ := hv
  have hb := (Below.refl w.heap.size w).alloc (Nat.le_refl _) (.cells #[.pointer a] 25)
  have h1 := heap_alloc_new w (.cells #[.pointer a] 25)
  have hs : (w.alloc (.cells #[.pointer a] 25)).heap.size = w.heap.size + 1 := World.size_alloc _ _
  generalize hw1 : w.alloc (.cells #[.pointer a] 25) = w1 at hb h1 hs
  have HW1 := hide hw1
  have hb2 := hb.alloc hb.size (.cells #[.int .i64 n] 3)
  have h2 := (Chg.alloc (fun _ => False) w1 (.cells #[.int .i64 n] 3)).heap h1 (fun h => h)
  have h3 := heap_alloc_new w1 (.cells #[.int .i64 n] 3)
  rw [hs] at h3
  have hs2 : (w1.alloc (.cells #[.int .i64 n] 3)).heap.size = w.heap.size + 2 := by rw [World.size_alloc, hs]
  generalize hw2 : w1.alloc (.cells #[.int .i64 n] 3) = w2 at hb2 h2 h3 hs2
  have HW2 := hide hw2
  have hg2 := hg.later (Kpt.of_chg (Chg.of_below0 (S := fun _ => False) hb2) (fun _ _ _ h => h))
  have HT := hide (show SeqD Fence.wide 8 Tryd.prog 69 #[.pointer (some ⟨w.heap.size, 0, none⟩), .pointer (some ⟨w.heap.size + 1, 0, none⟩)] (fun x : Int => #[.int .i64 x]) (fun k => k = w.heap.size ∨ k = w.heap.size + 1 ∨ R0 k) (aheadN cs n) w2 from ahead_seqd w2 _ _ hd hg2 ⟨_, rfl⟩ n hn (cell_of_heap h2 0) (cell_of_heap h3 0))
  have HB := hide hb2
  have HS := hide hs
  have HS2 := hide hs2
  clear hg hb h1 hs hb2 h2 h3 hg2 hw1 hw2 hs2
  go_enter Tryd.func40, Tryd.ntmps40
  go_wp2_with (first | rw [HW1.out] | rw [HW2.out])
  go_ret
  exact ⟨by rw [HS.out]; rfl, HT.out, HS2.out, HB.out⟩
theorem dag_Ahead (w : World) {v : Value} {cs : List Cm} (hg : Gets w v cs) (n : Int) (hn : I64 n) (hd : DagOk cs) :
    Calls Tryd.prog 40 #[v, .int .i64 n] w fun e w' => ∃ g, e = .returned g ∧ TellsI (aheadN cs n) g w' ∧ Below w.heap.size w w' := by
  obtain ⟨hv, R0, hg⟩ := hg
  refine (dag_Ahead_0 w hv hg n hn hd).mono ?_
  rintro e w' ⟨rfl, hs, hz, hb⟩
  exact ⟨_, rfl, ⟨_, _, _, rfl, enters_of Tryd.func69 (by kernel_rfl) rfl, hs, fun k hk => by rcases hk with rfl | rfl | hk; (· omega); (· omega); (· have := hg.1 k hk; omega)⟩, hb⟩
end Go.Proofs.YtnnkbicaokckbaaDoor
