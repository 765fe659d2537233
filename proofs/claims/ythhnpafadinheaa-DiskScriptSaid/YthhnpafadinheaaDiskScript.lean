/- DiskScript: whatever is appended, synced, cut, and lost in crashes, each call answers as the document says. Conditions: none. -/
import Derived.Test.YthhnpafadinheaaRows
import Derived.WalkKit
import Derived.ProofKit
import Derived.OpenShut
import Derived.ShutString
import Derived.ChangeOld
import Derived.Below
import Derived.Test.YthhnpafadinheaaDiskB
import Derived.Deep.DeepCutAuto
import Derived.Deep.CutBlock
namespace Go.Proofs.Ythhnpafadinheaa
open Go.ChangeShapes Go.WideShapes Go.ChangeAt Go.RowKit
open Go.ChangeMaps (open_string shut_string)
set_option linter.unusedVariables false

theorem law_own : ownKnob Try.prog.godebug = none := by kernel_rfl
theorem law_laid : laidOutB Try.prog = true := by kernel_rfl

/-- The program's disk and the document's, side by side. -/
def Pair (n0 : Nat) (w : World) (ao : Option Addr) (cap : Nat) (ao' : Option Addr) (cap' : Nat) (bs : List UInt8) (n : Nat) (bs' : List UInt8) (n' : Nat) : Prop :=
  BufAt 69 n0 w n0 ao cap bs n ∧ BufAt 30 n0 w (n0 + 1) ao' cap' bs' n' ∧ ∀ k, BufSet n0 ao k → ¬ BufSet (n0 + 1) ao' k

/-- The blocks of both. -/
def PSet (n0 : Nat) (ao ao' : Option Addr) (k : Nat) : Prop := BufSet n0 ao k ∨ BufSet (n0 + 1) ao' k

theorem Pair.lt {n0 : Nat} {w : World} {ao ao' : Option Addr} {cap cap' : Nat} {bs bs' : List UInt8} {n n' : Nat} (h : Pair n0 w ao cap ao' cap' bs n bs' n') : ∀ k, PSet n0 ao ao' k → n0 ≤ k ∧ k < w.heap.size := by
  rintro k (hk | hk)
  · exact h.1.lt k hk
  · exact h.2.1.lt k hk
theorem Pair.chg {S : Nat → Prop} {n0 : Nat} {w w' : World} {ao ao' : Option Addr} {cap cap' : Nat} {bs bs' : List UInt8} {n n' : Nat} (h : Pair n0 w ao cap ao' cap' bs n bs' n') (c : Chg S w w') (hs : ∀ k, PSet n0 ao ao' k → ¬ S k) :
    Pair n0 w' ao cap ao' cap' bs n bs' n' := ⟨h.1.chg c (fun k hk => hs k (.inl hk)), h.2.1.chg c (fun k hk => hs k (.inr hk)), h.2.2⟩
theorem Pair.left {n0 : Nat} {w w' : World} {ao ao' : Option Addr} {cap cap' : Nat} {bs bs' b1 : List UInt8} {n n' n1 : Nat} (h : Pair n0 w ao cap ao' cap' bs n bs' n') (hg : Grown1 69 n0 w n0 ao b1 n1 w') :
    ∃ ao1 cap1, Pair n0 w' ao1 cap1 ao' cap' b1 n1 bs' n' ∧ Chg (PSet n0 ao ao') w w' ∧ ∀ k, PSet n0 ao1 ao' k → PSet n0 ao ao' k ∨ w.heap.size ≤ k := by
  obtain ⟨ao1, cap1, h1, h2, h3⟩ := hg
  refine ⟨ao1, cap1, ⟨h1, h.2.1.chg h2 (fun k hk hs => h.2.2 k hs hk), fun k hk hk' => ?_⟩, h2.mono (fun _ _ e => .inl e), ?_⟩
  · rcases h3 k hk with e | e
    · exact h.2.2 k e hk'
    · have := (h.2.1.lt k hk').2
      omega
  · rintro k (hk | hk)
    · rcases h3 k hk with e | e
      · exact .inl (.inl e)
      · exact .inr e
    · exact .inl (.inr hk)
theorem Pair.right {n0 : Nat} {w w' : World} {ao ao' : Option Addr} {cap cap' : Nat} {bs bs' b1 : List UInt8} {n n' n1 : Nat} (h : Pair n0 w ao cap ao' cap' bs n bs' n') (hg : Grown1 30 n0 w (n0 + 1) ao' b1 n1 w') :
    ∃ ao1 cap1, Pair n0 w' ao cap ao1 cap1 bs n b1 n1 ∧ Chg (PSet n0 ao ao') w w' ∧ ∀ k, PSet n0 ao ao1 k → PSet n0 ao ao' k ∨ w.heap.size ≤ k := by
  obtain ⟨ao1, cap1, h1, h2, h3⟩ := hg
  refine ⟨ao1, cap1, ⟨h.1.chg h2 (fun k hk hs => h.2.2 k hk hs), h1, fun k hk hk' => ?_⟩, h2.mono (fun _ _ e => .inr e), ?_⟩
  · rcases h3 k hk' with e | e
    · exact h.2.2 k hk e
    · have := (h.1.lt k hk).2
      omega
  · rintro k (hk | hk)
    · exact .inl (.inl hk)
    · rcases h3 k hk with e | e
      · exact .inl (.inr e)
      · exact .inr e

theorem disk_New' (w : World) : Calls Try.prog 13 #[] w fun e w' => e = .returned (.pointer (some ⟨w.heap.size, 0, none⟩)) ∧ w' = w.alloc (.cells #[.slice none 0 0, .int .i64 0] 69) := by
  go_enter Try.func13, Try.ntmps13
  go_wp2
  go_ret
  exact ⟨rfl, rfl⟩

theorem pair_new (w : World) : Pair w.heap.size ((w.alloc (.cells #[.slice none 0 0, .int .i64 0] 69)).alloc (.cells #[.slice none 0 0, .int .i64 0] 30)) none 0 none 0 [] 0 [] 0 := by
  refine ⟨⟨?_, World.ownsRow_nil _ _ _ _, by simp, by simp, Nat.le_refl _⟩, ⟨?_, World.ownsRow_nil _ _ _ _, by simp, by simp, by omega⟩, ?_⟩
  · exact (Chg.alloc (fun _ => False) _ _).heap (heap_alloc_new w _) (fun h => h)
  · have := heap_alloc_new (w.alloc (.cells #[.slice none 0 0, .int .i64 0] 69)) (.cells #[.slice none 0 0, .int .i64 0] 30)
    rwa [World.size_alloc] at this
  · rintro k (rfl | h) (h' | h') <;> first | omega | cases h | cases h'

def ScriptRel (n0 : Nat) (W : World) (k : Nat) (wr : World) : Prop :=
  ∃ ao cap ao' cap' bs n, Pair n0 wr ao cap ao' cap' bs n bs n ∧ bs.length ≤ 60 * k ∧ Below n0 W wr

set_option maxHeartbeats 4000000 in
set_option maxRecDepth 100000 in
theorem DiskScript_walk {H : Type} {enc : TypeId × Value → H} (W : World) (a0 : Option Addr) (n0 c0 : Nat) (hv : Readable enc Try.prog W 22 [.slice a0 n0 c0]) : Calls Try.prog 3 #[.slice a0 n0 c0] W fun e W' => e = .returned (.bool true) ∧ Below W.heap.size W W' := by
  obtain ⟨v', acts, hv', hA⟩ := acts_of_readable hv
  obtain rfl : .slice a0 n0 c0 = v' := by simpa using hv'
  obtain ⟨ao, cap, e, -, -⟩ := hA.1.shape
  cases e
  have HA := hide hA
  clear hA hv hv'
  by_cases hok : ActsOk 80 acts
  · have hl40 := hok.1
    have HK := hide hok
    clear hok
    go_enter Try.func3, Try.ntmps3
    go_wp2_with fail
    refine (great_no W _ acts 80 HA.out HK.out (by decide)).mono ?_
    rintro e w1 ⟨rfl, rfl⟩
    go_wp2_with fail
    refine (disk_New' w1).mono ?_
    rintro e w2 ⟨rfl, rfl⟩
    have HR : Hid (ScriptRel w1.heap.size w1 0 ((w1.alloc (.cells #[.slice none 0 0, .int .i64 0] 69)).alloc (.cells #[.slice none 0 0, .int .i64 0] 30))) :=
      ⟨none, 0, none, 0, [], 0, pair_new w1, by simp, ((Below.refl _ w1).alloc (Nat.le_refl _) _).alloc (by simp) _⟩
    go_wp2_with fail
    go_loopw [5] (fun i wr => ∃ k : Nat, k ≤ acts.length ∧ i = .int .i64 k ∧ Hid (ScriptRel w1.heap.size w1 k wr)) (fun i _ => acts.length - (intOf i).toNat)
    case atStart => exact ⟨0, by omega, rfl, HR⟩
    case round =>
      clear HR
      obtain ⟨k, hk, rfl, HK1⟩ := hrel
      by_cases hlt : k < acts.length
      · obtain ⟨ao, cap, ao', cap', bs, n, hp, hl, hb⟩ := HK1.out
        have HP := hide hp
        have HB := hide hb
        have HL := hide hl
        have hx60 := HK.out.2 acts[k] (List.getElem_mem hlt)
        obtain ⟨b, off, cap'', e, g0, g1, g2⟩ := (HA.out.below hb).get k hlt
        cases e
        obtain ⟨xa, xc, hxv, -, -⟩ := ((HA.out.below hb).2.2.1 acts[k] (List.getElem_mem hlt)).1.shape
        rw [hxv] at g2
        have HXV := hide hxv
        clear hp hb hl HK1 hxv
        have hz1 := HB.out.size
        obtain ⟨wx, hwx⟩ : ∃ wx, wx = wr.alloc (.cells #[.int .i64 acts[k].act, .int .i64 acts[k].n, .slice xa acts[k].b.length xc] 32) := ⟨_, rfl⟩
        have HXC : Hid (wx.heap[wr.heap.size]? = some (.cells #[.int .i64 acts[k].act, .int .i64 acts[k].n, .slice xa acts[k].b.length xc] 32 (0, 0))) := by rw [hwx]; exact heap_alloc_new wr _
        have HCX : Hid (Chg (fun _ => False) wr wx) := by rw [hwx]; exact Chg.alloc _ _ _
        have HPX := hide (HP.out.chg HCX.out (fun _ _ h => h))
        have HBX := hide (HB.out.trans (HCX.out.below hz1 (fun _ _ h => h)))
        have HXX := hide ((HA.out.below HBX.out).rd k hlt HXV.out)
        have hsx : wx.heap.size = wr.heap.size + 1 := by rw [hwx]; simp
        have HSX := hide hsx
        clear hsx
        have HW := hide hwx
        clear hwx
        go_upto_block 2 with fail
        rw [← HW.out]
        go_cut [7] (fun s7 wc => s7 = .bool true ∧ Hid (ScriptRel w1.heap.size w1 (k + 1) wc))
        case first =>
          have gx0 := cell_of_heap HXC.out 0
          have gx1 := cell_of_heap HXC.out 1
          have gx2 := cell_of_heap HXC.out 2
          go_wp2_with fail
          · refine (LendBytes_ok wx _ acts[k].b HXX.out (by omega)).mono ?_
            rintro e w5 ⟨vin, rfl, hlent, hb5⟩
            have HL5 := hide hlent
            have HP5 := hide (HPX.out.chg (Chg.of_below0 (S := fun _ => False) hb5) (fun _ _ h => h))
            have HC5 := hide ((Chg.of_below0 (S := fun _ => False) hb5).heap HXC.out (fun h => h))
            have HB5 := hide (HBX.out.trans (hb5.mono HBX.out.size))
            have hz5 := hide hb5.size
            clear hlent hb5 gx0 gx1 gx2
            go_wp2_with fail
            refine (disk_Append _ _ _ _ _ _ _ _ HP5.out.1 HL5.out.rd (by have := HL.out; omega)).mono ?_
            rintro e w6 ⟨rfl, hg⟩
            obtain ⟨ao6, cap6, hp6, hc6, hs6⟩ := HP5.out.left hg
            have HL6 := hide (HL5.out.chg hc6 (fun j e h => by have := (HL5.out.lt j e).1; have := (HPX.out.lt j h).2; omega))
            have HP6 := hide hp6
            have HC6 := hide (hc6.heap HC5.out (fun h => by have := (HP.out.lt _ h).2; omega))
            have gy2 := cell_of_heap HC6.out 2
            have HB6 := hide (HB5.out.trans (hc6.below HB5.out.size (fun j hj e => by have := HP5.out.lt j e; omega)))
            have HS6 := hide hs6
            have hz6 := hide hc6.size
            clear hg hp6 hc6 hs6
            go_wp2_with fail
            refine (ref_Append _ _ _ _ _ _ _ acts[k].b HP6.out.2.1 ((HA.out.below HB6.out).rd k hlt HXV.out) (by have := HL.out; omega)).mono ?_
            rintro e w7 ⟨rfl, hg⟩
            obtain ⟨ao7, cap7, hp7, hc7, hs7⟩ := HP6.out.right hg
            have HS7 := hide hs7
            have HN7 : Hid (∀ j, PSet w1.heap.size ao6 ao' j → j < wx.heap.size ∨ w5.heap.size ≤ j) := fun j h => (HS6.out j h).imp (fun h => (HPX.out.lt j h).2) id
            have HL7 := hide (HL6.out.chg hc7 (fun j e h => by have := HL5.out.lt j e; have := HN7.out j h; omega))
            have HP7 := hide hp7
            have HC7 := hide (hc7.heap HC6.out (fun h => by have h1 := HN7.out _ h; rcases HS6.out _ h with h2 | h2; exact absurd (HP.out.lt _ h2).2 (by omega); have := HSX.out; have := hz5.out; omega))
            have gz2 := cell_of_heap HC7.out 2
            have HB7 := hide (HB6.out.trans (hc7.below HB6.out.size (fun j hj e => by have := HP6.out.lt j e; omega)))
            have hz7 := hide hc7.size
            clear hg hp7 hc7 hs7 gy2
            go_wp2_with fail
            refine (KeptBytes_true _ _ _ acts[k].b HL7.out ((HA.out.below HB7.out).rd k hlt HXV.out) (by omega)).mono ?_
            rintro e w8 ⟨rfl, n8, rfl⟩
            go_wp2_with fail
            refine (OverBytes_ok _ _ _ _ (by exact HL7.out.owns (by omega)) (by have := hz5.out; have := hz6.out; have := hz7.out; show wx.heap.size ≤ w7.heap.size; omega) (by omega)).mono ?_
            rintro e w9 ⟨rfl, hc9⟩
            have HC9 := hide hc9.of_drewN
            clear hc9 gz2
            go_wp2_with fail
            go_meet
            refine ⟨rfl, ao6, cap6, ao7, cap7, bs ++ acts[k].b, n, HP7.out.chg HC9.out (fun j h e => ?_), by have := HL.out; simp; omega, HB7.out.trans (HC9.out.below HB7.out.size (fun j hj e => by have := (HL5.out.lt j e).1; have := HBX.out.size; omega))⟩
            have h5 := HL5.out.lt j e
            rcases HS7.out j h with h1 | h1
            · have := HN7.out j h1
              omega
            · have := hz6.out
              omega
          · refine (disk_Sync _ _ _ _ _ _ HPX.out.1).mono ?_
            rintro e w5 ⟨rfl, hd, hc⟩
            have HD5 := hide hd
            have HR5 := hide (HPX.out.2.1.chg hc (fun j h e => HPX.out.2.2 j (.inl e) h))
            have HB5 := hide (HBX.out.trans (hc.below HBX.out.size (fun j hj e => by omega)))
            have k0 := HR5.out.c0
            have k1 := HR5.out.c1
            have k2 := HR5.out.f 1
            clear hd hc gx0 gx1 gx2
            go_wp2_with fail
            go_meet
            refine ⟨rfl, ao, cap, ao', cap', bs, bs.length, ⟨HD5.out.chg (Chg.setCell w5 ⟨w1.heap.size + 1, 1, none⟩ _) (fun j h e => HPX.out.2.2 j h (.inl e)), ⟨heap_setCell_same HR5.out.1 _, (Chg.setCell w5 ⟨w1.heap.size + 1, 1, none⟩ _).owns HR5.out.2.1 (fun j h e => ?_), Nat.le_refl _, HR5.out.2.2.2⟩, HPX.out.2.2⟩, by have := HL.out; omega, HB5.out.setCell (by simp) _⟩
            subst e
            exact ownsRow_ne HR5.out.2.1 HR5.out.1 (by decide) h
          · refine (disk_Crash _ _ _ _ _ _ acts[k].n HPX.out.1).mono ?_
            rintro e w5 ⟨rfl, hg⟩
            obtain ⟨ao5, cap5, hp5, hc5, hs5⟩ := HPX.out.left hg
            have HP5 := hide hp5
            have HC5 := hide (hc5.heap HXC.out (fun h => by have := (HP.out.lt _ h).2; omega))
            have gy1 := cell_of_heap HC5.out 1
            have HB5 := hide (HBX.out.trans (hc5.below HBX.out.size (fun j hj e => by have := HPX.out.lt j e; omega)))
            clear hg hp5 hc5 hs5 gx0 gx1 gx2
            go_wp2_with fail
            refine (ref_Crash _ _ _ _ _ _ acts[k].n HP5.out.2.1).mono ?_
            rintro e w6 ⟨rfl, hg⟩
            obtain ⟨ao6, cap6, hp6, hc6, hs6⟩ := HP5.out.right hg
            have HP6 := hide hp6
            have HB6 := hide (HB5.out.trans (hc6.below HB5.out.size (fun j hj e => by have := HP5.out.lt j e; omega)))
            clear hg hp6 hc6 hs6 gy1
            go_wp2_with fail
            go_meet
            exact ⟨rfl, ao5, cap5, ao6, cap6, _, _, HP6.out, by have := HL.out; simp; omega, HB6.out⟩
          · have k1 := gx1
            clear gx0 gx2
            by_cases hv : 0 ≤ acts[k].n ∧ acts[k].n ≤ bs.length
            · obtain ⟨hv1, hv2⟩ := hv
              obtain ⟨m, hm⟩ : ∃ m : Nat, acts[k].n = m := ⟨acts[k].n.toNat, by omega⟩
              rw [hm] at k1
              have hm2 : m ≤ bs.length := by omega
              have HM := hide hm
              clear hm hv1 hv2 gx1
              go_region_held3 (fun w' => w'.cell? ⟨wr.heap.size, 1, none⟩ = some (.int .i64 (m : Int))) (first | assumption | go_keep)
                (first
                  | (go_at_call 22; go_loud (refine (disk_Cut_yes _ _ _ _ _ _ m (by exact HPX.out.1) hm2).mono ?_; rintro e w5 ⟨rfl, hg⟩; obtain ⟨ao5, cap5, hp5, hc5, hs5⟩ := Pair.left (w := wx) HPX.out (Grown1.of_drewN hg); have HP5 := hide hp5; have HC5 := hide hc5; have h5 := hc5.cell k1 (fun h => absurd (HP.out.lt _ h).2 (Nat.lt_irrefl _)); have HC5 := hide hc5; have HN5 : Hid (∀ j, PSet w1.heap.size ao5 ao' j → j < wr.heap.size ∨ wr.heap.size + 1 ≤ j) := fun j h => (hs5 j h).imp (fun h => (HP.out.lt j h).2) (fun h => by have := HSX.out; omega); clear hg hp5 hc5 hs5))
                  | (go_at_call 23; refine (ref_Cut_yes _ _ _ _ _ _ m HP5.out.2.1 hm2).mono ?_; rintro e w6 ⟨rfl, hg⟩; obtain ⟨ao6, cap6, hp6, hc6, hs6⟩ := HP5.out.right hg; have HP6 := hide hp6; have HC6 := hide hc6; have h6 := hc6.cell h5 (fun h => by have h1 : wr.heap.size < wr.heap.size ∨ wr.heap.size + 1 ≤ wr.heap.size := HN5.out _ h; omega); clear hg hp6 hc6 hs6))
              all_goals go_wp2_with fail
              go_meet
              have HB5 := hide (HBX.out.trans (HC5.out.below HBX.out.size (fun j hj e => by have := HPX.out.lt j e; omega)))
              have HB6 := hide (HB5.out.trans (HC6.out.below HB5.out.size (fun j hj e => by have := HP5.out.lt j e; omega)))
              exact ⟨rfl, ao5, cap5, ao6, cap6, _, _, HP6.out, by have := HL.out; simp; omega, HB6.out⟩
            · have HV : Hid (acts[k].n < 0 ∨ (bs.length : Int) < acts[k].n) := hide (by omega)
              clear hv
              go_region_held3 (fun w' => w'.cell? ⟨wr.heap.size, 1, none⟩ = some (.int .i64 acts[k].n)) (first | assumption | go_keep)
                (first
                  | (go_at_call 22; go_loud (refine (disk_Cut_no _ _ _ _ _ _ acts[k].n (by exact HPX.out.1) HV.out).mono ?_; rintro e w5 ⟨rfl, rfl⟩))
                  | (go_at_call 23; go_loud (refine (ref_Cut_no _ _ _ _ _ _ acts[k].n (by exact HPX.out.2.1) HV.out).mono ?_; rintro e w6 ⟨rfl, rfl⟩)))
              all_goals go_wp2_with fail
              go_meet
              exact ⟨rfl, ao, cap, ao', cap', bs, n, by exact HPX.out, by have := HL.out; omega, by first | exact HBX.out | exact bdrewN (n := 1) HBX.out⟩
          · go_meet
            exact ⟨rfl, ao, cap, ao', cap', bs, n, by exact HPX.out, by have := HL.out; omega, by first | exact HBX.out | exact bdrewN (n := 1) HBX.out⟩
        case rest =>
          obtain ⟨rfl, HK2⟩ := hcut
          clear HPX HBX HXX HSX HW HXC HCX HP HB HL
          obtain ⟨ao, cap, ao', cap', bs, n, hp, hl, hb⟩ := HK2.out
          have HP := hide hp
          have HB := hide hb
          have hl' : bs.length ≤ 60 * (k + 1) := hl
          clear hp hb hl
          go_wp2_with fail
          refine (disk_Bytes _ _ _ _ _ _ HP.out.1).mono ?_
          rintro e w5 ⟨ao5, cap5, rfl, ho, hb5⟩
          have HO5 := hide ho
          have HP5 := hide (HP.out.chg (Chg.of_below0 (S := fun _ => False) hb5) (fun _ _ h => h))
          have HB5 := hide (HB.out.trans (hb5.mono HB.out.size))
          have hz5 := hb5.size
          have hl4 : bs.length ≤ 4860 := by omega
          have hn := HP.out.1.2.2.1
          have k0 := HP5.out.2.1.c0
          have k1 := HP5.out.2.1.c1
          have a1 : IntKind.i64.wrap ((bs.length : Int) - (n : Int)) = (bs.length : Int) - (n : Int) := IntWalk.i64_in _ (by omega)
          clear ho hb5
          go_wp2_with fail
          go_quiet (first
            | (go_at_call 25; exact Calls.quiet_of (SameBytes_refl _ _ _ bs (by exact Rd.of_owns HO5.out) (by exact HP5.out.2.1.rd) (by omega)))
            | (go_at_call 26; exact Calls.quiet_of_same (disk_Synced _ _ _ _ _ _ (by exact HP5.out.1)))
            | (go_at_call 27; exact Calls.quiet_of (disk_Unsynced _ _ _ _ _ _ (by exact HP5.out.1))))
          go_wp2_with fail
          refine (OverBytes_ok _ _ _ _ (by exact HO5.out) (by exact hz5) (by omega)).mono ?_
          rintro e w6 ⟨rfl, hc6⟩
          have HC6 := hide hc6.of_drewN
          clear hc6 k0 k1
          go_wp2_with fail
          go_roundw
          case rel =>
            refine ⟨k + 1, by omega, by go_num, ao, cap, ao', cap', bs, n, HP5.out.chg HC6.out (fun j h e => ?_), hl', HB5.out.trans (HC6.out.below HB5.out.size (fun j hj e => ?_))⟩
            · have := (ownsRow_lt HO5.out j e).1
              have := (HP.out.lt j h).2
              omega
            · have := (ownsRow_lt HO5.out j e).1
              have := HB.out.size
              omega
          case measure => simp [intOf]; omega
      · obtain ⟨ao, cap, ao', cap', bs, n, hp, hl, hb⟩ := HK1.out
        have HP := hide hp
        have HB := hide hb
        have hl4 : bs.length ≤ 4800 := by omega
        have k0 := hp.2.1.c0
        clear hp hb hl HK1
        go_wp2_with fail
        go_region_held3 (fun w' => w'.cell? ⟨w1.heap.size + 1, 0, none⟩ = some (.slice ao' bs.length cap')) (first | assumption | go_keep)
          (first
            | (go_at_call 24; refine (disk_Bytes _ _ _ _ _ _ (by exact HP.out.1)).mono ?_; rintro e w5 ⟨ao5, cap5, rfl, ho, hb5⟩; have HO5 := hide ho; have HB5 := hide (below_of_drewN hb5); have h5 := (Chg.of_below0 (S := fun _ => False) HB5.out).cell k0 (fun h => h); clear ho hb5)
            | (go_at_call 25; refine (SameBytes_refl _ _ _ bs (by exact Rd.of_owns HO5.out) (by exact HP.out.2.1.rd.chg (Chg.of_below0 (S := fun _ => False) HB5.out) (fun _ _ _ h => h)) (by omega)).mono ?_; rintro e w6 ⟨rfl, n6, rfl⟩)
            | (go_at_call 12; refine (awake16 _).mono ?_; rintro e w7 ⟨rfl, hb7⟩; have HB7 := hide (below_of_drewN hb7); have h7 := (Chg.of_below0 (S := fun _ => False) HB7.out).cell h5 (fun h => h); clear hb7))
        go_wp2_with fail
        go_ret
        exact ⟨rfl, (HB.out.trans (HB5.out.mono HB.out.size)).trans (HB7.out.mono (Nat.le_trans HB.out.size HB5.out.size))⟩
  · have HK := hide hok
    clear hok
    go_enter Try.func3, Try.ntmps3
    go_wp2_with fail
    refine (great_yes W _ acts 80 HA.out HK.out (by decide)).mono ?_
    rintro e w1 ⟨rfl, rfl⟩
    go_wp2_with fail
    refine (awake16 _).mono ?_
    rintro e w3 ⟨rfl, hb3⟩
    have HB3 := hide hb3
    clear hb3
    go_wp2_with fail
    go_ret
    exact ⟨rfl, HB3.out⟩

set_option maxRecDepth 100000 in
theorem DiskScript_lifted (os : Os) (started : os.Started) (H : Type) (enc : TypeId × Value → H) :
    ReturnsInHanded {} Try.checked os 3 .any (Rows.diskScriptSpec.pre6 enc Try.prog Try.f3 Rows.diskScriptRow.domain false) (Rows.diskScriptSpec.post enc Try.prog Try.f3 false true false false) := by
  refine returnsInHanded_of_change (C := Try.checked) law_own started (by kernel_rfl) Try.func3
    (ChangeSpec.witness6 (enc := enc) (C := Try.checked) false ⟨#[], #[.slice none 0 0], []⟩ 8 (by kernel_rfl) (by kernel_rfl) (by kernel_rfl) (by kernel_rfl)) ?_
  intro W base args ds gs before hval0 hW hcnd _
  have hval : ∀ (j : Nat) t v, Try.f3.params[j]? = some t → args[j]? = some v → Value.okWide Try.prog W .any base t v := hval0
  have hW' := hW
  obtain ⟨p, q, hA0, hV, rfl, hfz, hnd⟩ := hW
  have hA : DataW.TrodAll enc Try.prog W 0 (fun _ => true) true Try.f3.params.toList args.toList ds p := hA0
  rw [Try.params3] at hA hval
  obtain ⟨v0, vs0, d0, ds0, p0, q0, hargs, rfl, rfl, h0, r0⟩ := trodAll_cons hA
  obtain ⟨rfl, rfl, rfl⟩ := trodAll_nil r0
  obtain rfl : args = #[v0] := by cases args; simp_all
  obtain ⟨rfl, rfl⟩ := trodVars_none hV
  have k0 := h0
  have lt0 : ∀ x ∈ p0, x.block < W.heap.size := by obtain ⟨m, hm⟩ := k0; exact DataW.trod_lt m _ _ _ hm
  obtain ⟨a0, len0, cap0, rfl⟩ := okWide_slice Try.underlying22 (hval 0 22 v0 rfl rfl)
  clear hA0 hval0
  refine (DiskScript_walk (enc := enc) W a0 len0 cap0 (Readable.of_trod h0)).mono fun e W' ⟨he, bel⟩ => ?_
  subst he
  exact ⟨_, rfl, _, _, _, [], _, [], hW', trodAll_mk1 (shut_bool Try.underlying4 _), (trodAll_cons_mk (Below.trod law_laid (by kernel_rfl) (of_decide_eq_true (by kernel_rfl)) k0 bel lt0) trodAll_mk0), rfl, bel.frame _, fun h => by cases h⟩

theorem DiskScript_over : Rows.diskScriptRow.holds Try.pinned (OpenSpec.ofChange Rows.diskScriptSpec) :=
  OpenClaim.holds_of_wide 3 Try.f3 rfl rfl rfl rfl rfl rfl rfl ⟨rfl, rfl, rfl, rfl, rfl⟩ rfl rfl rfl rfl rfl (by kernel_rfl) Try.func3 (by kernel_rfl)
    (of_decide_eq_true (by kernel_rfl)) (by unfold Func.isWrapper; first | (rw [if_pos (by decide +kernel)]; kernel_rfl) | (rw [if_neg (by decide +kernel)]; exact ⟨rfl, rfl⟩))
    (fun os started H enc _ => DiskScript_lifted os started H enc)

theorem DiskScript_holds : Rows.DiskScriptSaid := DiskScript_over
#print axioms DiskScript_holds

end Go.Proofs.Ythhnpafadinheaa
