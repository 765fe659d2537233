/- The acts that a statement on disks is given; great, awake. Conditions: the acts read as data. -/
import Derived.Test.YthhnpafadinheaaDisk
import Derived.Test.YthhnpafadinheaaDec
namespace Go.Proofs.Ythhnpafadinheaa
open Go.RowKit

structure ActR where
  act : Int
  n : Int
  bv : Value
  b : List UInt8

def ActR.cells (a : ActR) : List Value := [.int .i64 a.act, .int .i64 a.n, a.bv]

/-- The acts lie below block n0. -/
def ActsAt (n0 : Nat) (w : World) (v : Value) (acts : List ActR) : Prop :=
  Rd w v acts.length (acts.map ActR.cells).flatten ∧ acts.length ≤ maxLen ∧ (∀ a ∈ acts, Rd w a.bv a.b.length (u8s a.b) ∧ a.b.length ≤ maxLen ∧ (∀ b, a.bv.ownBlock = some b → a.b ≠ [] → b < n0)) ∧
    (∀ b, v.ownBlock = some b → acts ≠ [] → b < n0)

theorem ActsAt.below {n0 : Nat} {w w' : World} {v : Value} {acts : List ActR} (h : ActsAt n0 w v acts) (hb : Below n0 w w') : ActsAt n0 w' v acts := by
  have c := Chg.of_below hb
  refine ⟨h.1.chg c (fun b h1 h2 => ?_), h.2.1, fun a ha => ?_, h.2.2.2⟩
  · have := h.2.2.2 b h1 (by rintro rfl; simp at h2)
    omega
  · obtain ⟨h1, h2, h3⟩ := h.2.2.1 a ha
    refine ⟨h1.chg c (fun b e1 e2 => ?_), h2, h3⟩
    have := h3 b e1 (by rintro e; rw [e] at e2; simp [u8s] at e2)
    omega

theorem ActsAt.rd {n0 : Nat} {w : World} {v : Value} {acts : List ActR} (h : ActsAt n0 w v acts) (i : Nat) (hi : i < acts.length) {x : Value} (hx : acts[i].bv = x) : Rd w x acts[i].b.length (u8s acts[i].b) := hx ▸ (h.2.2.1 acts[i] (List.getElem_mem hi)).1

theorem ActsAt.get {n0 : Nat} {w : World} {v : Value} {acts : List ActR} (h : ActsAt n0 w v acts) (i : Nat) (hi : i < acts.length) :
    ∃ b off cap, v = .slice (some ⟨b, off, none⟩) acts.length cap ∧ w.cell? ⟨b, off + i * 3, none⟩ = some (.int .i64 acts[i].act) ∧ w.cell? ⟨b, off + i * 3 + 1, none⟩ = some (.int .i64 acts[i].n) ∧ w.cell? ⟨b, off + i * 3 + 2, none⟩ = some acts[i].bv := by
  obtain ⟨ao, cap, rfl, _, hs⟩ := h.1.shape
  obtain ⟨b, off, rfl, hc⟩ := hs (by omega)
  have hlen : ∀ c ∈ acts.map ActR.cells, c.length = 3 := by
    intro c hc
    obtain ⟨a, _, rfl⟩ := List.mem_map.1 hc
    rfl
  have get : ∀ j, j < 3 → (acts.map ActR.cells).flatten[i * 3 + j]? = (acts[i].cells)[j]? := by
    intro j hj
    rw [flatten_getElem? 3 _ _ hlen (by decide), show (i * 3 + j) / 3 = i by omega, show (i * 3 + j) % 3 = j by omega]
    simp [hi]
  exact ⟨b, off, cap, rfl, hc (i * 3) _ (by rw [show i * 3 = i * 3 + 0 from rfl, get 0 (by decide)]; rfl), hc (i * 3 + 1) _ (by rw [get 1 (by decide)]; rfl), hc (i * 3 + 2) _ (by rw [get 2 (by decide)]; rfl)⟩

theorem acts_of_readable {H : Type} {enc : TypeId × Value → H} {W : World} {cs : List Value} (h : Readable enc Try.prog W 22 cs) : ∃ v acts, cs = [v] ∧ ActsAt W.heap.size W v acts := by
  obtain ⟨v, n, css, rfl, hr, hl, hm, hc, hb⟩ := h.slice Try.underlying22 (k := 3) (by kernel_rfl) (by decide)
  obtain ⟨acts, rfl, ha⟩ := exists_map (f := ActR.cells) (p := fun a => Rd W a.bv a.b.length (u8s a.b) ∧ a.b.length ≤ maxLen ∧ (∀ b, a.bv.ownBlock = some b → a.b ≠ [] → b < W.heap.size)) (l := css) (fun c hcc => by
    obtain ⟨h1, h2⟩ := hc c hcc
    obtain ⟨_, hf⟩ := h2.struct Try.underlying32
    have e1 : Try.prog.cellsOf 3 = 1 := by kernel_rfl
    have e2 : Try.prog.cellsOf 28 = 1 := by kernel_rfl
    match c, h1 with
    | [c0, c1, c2], _ =>
      have f0 := hf 0 3 0 1 rfl e1
      have f1 := hf 1 3 1 1 rfl e1
      have f2 := hf 2 28 2 1 rfl e2
      obtain ⟨x0, g0, _⟩ := Readable.int f0 Try.underlying3
      obtain ⟨x1, g1, _⟩ := Readable.int f1 Try.underlying3
      obtain ⟨x2, xs, g2, hrd, hml, hbb⟩ := Readable.bytes f2 Try.underlying28 Try.underlying5 (by kernel_rfl)
      simp at g0 g1 g2
      subst g0 g1 g2
      exact ⟨⟨x0, x1, _, xs⟩, rfl, hrd, hml, hbb⟩)
  simp only [List.length_map] at hl
  subst hl
  refine ⟨v, acts, rfl, hr, hm, ha, fun b h1 h2 => hb b h1 ?_⟩
  cases acts with
  | nil => exact absurd rfl h2
  | cons a l => simp [ActR.cells]

def ActsOk (most : Nat) (acts : List ActR) : Prop := acts.length ≤ most ∧ ∀ a ∈ acts, a.b.length ≤ 60

theorem great_no {n0 : Nat} (w : World) (v : Value) (acts : List ActR) (most : Nat) (h : ActsAt n0 w v acts) (hok : ActsOk most acts) (hm : most ≤ 1000) :
    Calls Try.prog 11 #[v, .int .i64 most] w fun e w' => e = .returned (.bool false) ∧ w' = w := by
  obtain ⟨ao, cap, rfl, -, -⟩ := h.1.shape
  have HA := hide h
  have hl := hok.1
  have HK := hide hok.2
  clear h hok
  go_enter Try.func11, Try.ntmps11
  go_wp2_with fail
  go_loop [5] (fun i => ∃ k : Nat, k ≤ acts.length ∧ i = .int .i64 k) (fun i => acts.length - (intOf i).toNat)
  case atStart => exact ⟨0, by omega, rfl⟩
  case round =>
    obtain ⟨k, hk, rfl⟩ := hrel
    by_cases hlt : k < acts.length
    · obtain ⟨b, off, cap', e, -, -, h2⟩ := HA.out.get k hlt
      cases e
      obtain ⟨ab, cb, hbv, -⟩ := (HA.out.2.2.1 acts[k] (List.getElem_mem hlt)).1.shape
      have hk60 := HK.out acts[k] (List.getElem_mem hlt)
      rw [hbv] at h2
      clear hbv
      go_wp2_with fail
      go_round
      case rel => exact ⟨k + 1, by omega, by go_num⟩
      case measure => simp [intOf]; omega
    · go_wp2_with fail
      go_ret
      exact ⟨ret_bool (by simp; omega), rfl⟩

theorem great_yes {n0 : Nat} (w : World) (v : Value) (acts : List ActR) (most : Nat) (h : ActsAt n0 w v acts) (hok : ¬ ActsOk most acts) (hm : most ≤ 1000) :
    Calls Try.prog 11 #[v, .int .i64 most] w fun e w' => e = .returned (.bool true) ∧ w' = w := by
  obtain ⟨ao, cap, rfl, -, -⟩ := h.1.shape
  have HA := hide h
  have hml : acts.length ≤ 9223372036854775807 := by have := h.2.1; unfold maxLen at this; omega
  by_cases hl : acts.length ≤ most
  · have HK : Hid (¬ ∀ a ∈ acts, a.b.length ≤ 60) := fun h => hok ⟨hl, h⟩
    clear h hok
    go_enter Try.func11, Try.ntmps11
    go_wp2_with fail
    go_loop [5] (fun i => ∃ k : Nat, k ≤ acts.length ∧ i = .int .i64 k ∧ ∀ j (hj : j < acts.length), j < k → acts[j].b.length ≤ 60) (fun i => acts.length - (intOf i).toNat)
    case atStart => exact ⟨0, by omega, rfl, by omega⟩
    case round =>
      obtain ⟨k, hk, rfl, hall⟩ := hrel
      have HALL := hide hall
      clear hall
      by_cases hlt : k < acts.length
      · obtain ⟨b, off, cap', e, -, -, h2⟩ := HA.out.get k hlt
        cases e
        obtain ⟨ab, cb, hbv, -⟩ := (HA.out.2.2.1 acts[k] (List.getElem_mem hlt)).1.shape
        have hkm : acts[k].b.length ≤ 9223372036854775807 := by have := (HA.out.2.2.1 acts[k] (List.getElem_mem hlt)).2.1; unfold maxLen at this; omega
        rw [hbv] at h2
        clear hbv
        by_cases h60 : acts[k].b.length ≤ 60
        · go_wp2_with fail
          go_round
          case rel =>
            refine ⟨k + 1, by omega, by go_num, fun j hj hjk => ?_⟩
            by_cases e : j = k
            · subst e; exact h60
            · exact HALL.out j hj (by omega)
          case measure => simp [intOf]; omega
        · go_wp2_with fail
          go_ret
          exact ⟨rfl, rfl⟩
      · exfalso
        refine HK.out fun a ha => ?_
        obtain ⟨j, hj, rfl⟩ := List.getElem_of_mem ha
        exact HALL.out j hj (by omega)
  · clear h hok
    by_cases h0 : 0 < acts.length
    · go_enter Try.func11, Try.ntmps11
      go_wp2_with fail
      go_loop [5] (fun i => i = .int .i64 0) (fun _ => 0)
      case atStart => rfl
      case round =>
        obtain rfl := hrel
        go_wp2_with fail
        go_ret
        exact ⟨ret_bool (by simp; omega), rfl⟩
    · omega

theorem awake16 (w : World) : Calls Try.prog 12 #[] w fun e w' => e = .returned (.bool true) ∧ Below w.heap.size w w' := by
  go_enter Try.func12, Try.ntmps12
  go_wp2_with fail
  refine (disk_New w).mono ?_
  rintro e w1 ⟨rfl, hd, hb⟩
  have HD1 := hide hd
  have HB1 := hide hb
  clear hd hb
  go_wp2_with fail
  refine (disk_Append _ _ _ _ [] 0 _ [1, 2, 3] (HD1.out.chg (Chg.alloc (fun _ => False) w1 _) (fun _ _ h => h)) (Rd_lit w1 #[.int .u8 1, .int .u8 2, .int .u8 3] 5 3) (by simp)).mono ?_
  rintro e w2 ⟨rfl, ao2, cap2, hd, hc, hs⟩
  have HD2 := hide hd
  have HB2 := hide ((HB1.out.trans (Below.alloc (Below.refl _ w1) HB1.out.size _)).trans (hc.below (by have := HB1.out.size; simp; omega) (fun k hk e => by have := HD1.out.lt k e; omega)))
  clear hd hc hs
  go_wp2_with fail
  refine (disk_Sync _ _ _ _ _ _ HD2.out).mono ?_
  rintro e w3 ⟨rfl, hd, hc⟩
  have HD3 := hide hd
  have HB3 := hide (HB2.out.trans (hc.below HB2.out.size (fun k hk e => by omega)))
  clear hd hc
  go_wp2_with fail
  refine (disk_Append _ _ _ _ _ _ _ [4, 5] (HD3.out.chg (Chg.alloc (fun _ => False) w3 _) (fun _ _ h => h)) (Rd_lit w3 #[.int .u8 4, .int .u8 5] 5 2) (by simp)).mono ?_
  rintro e w4 ⟨rfl, ao4, cap4, hd, hc, hs⟩
  have HD4 := hide hd
  have HB4 := hide ((HB3.out.trans (Below.alloc (Below.refl _ w3) HB3.out.size _)).trans (hc.below (by have := HB3.out.size; simp; omega) (fun k hk e => by have := HD3.out.lt k e; omega)))
  clear hd hc hs
  go_wp2_with fail
  refine (disk_Crash _ _ _ _ _ _ 1 HD4.out).mono ?_
  rintro e w5 ⟨rfl, ao5, cap5, hd, hc, hs⟩
  have HD5 := hide hd
  have HB5 := hide (HB4.out.trans (hc.below HB4.out.size (fun k hk e => by have := HD4.out.lt k e; omega)))
  clear hd hc hs
  go_wp2_with fail
  have HD5 : Hid (BufAt 69 w.heap.size w5 w.heap.size ao5 cap5 [1, 2, 3, 4] 4) := HD5.out
  refine (disk_Bytes _ _ _ _ _ _ HD5.out).mono ?_
  rintro e w6 ⟨ao6, cap6, rfl, ho, hb⟩
  have HO6 := hide ho
  have HC6 := hide hb
  clear ho hb
  go_wp2_with fail
  refine (SameBytes_ok _ _ _ [1, 2, 3, 4] [1, 2, 3, 4] ((Rd.of_owns HO6.out).chg (Chg.alloc (fun _ => False) w6 _) (fun _ _ _ h => h)) (Rd_lit w6 #[.int .u8 1, .int .u8 2, .int .u8 3, .int .u8 4] 5 4) (by simp) (by simp)).mono ?_
  rintro e w7 ⟨rfl, n7, rfl⟩
  have HD6 := hide ((HD5.out.chg (Chg.of_below0 (S := fun _ => False) HC6.out) (fun _ _ h => h)).chg (Chg.alloc (fun _ => False) w6 (.cells #[.int .u8 1, .int .u8 2, .int .u8 3, .int .u8 4] 5)) (fun _ _ h => h))
  go_wp2_with fail
  refine (disk_Unsynced _ _ _ _ _ _ (by exact HD6.out)).mono ?_
  rintro e w8 ⟨rfl, n8, rfl⟩
  go_wp2_with fail
  refine (disk_Synced _ _ _ _ _ _ (by exact HD6.out)).mono ?_
  rintro e w9 ⟨rfl, rfl⟩
  go_wp2_with fail
  go_ret
  refine ⟨rfl, ?_⟩
  exact bdrewN ((HB5.out.trans (HC6.out.mono HB5.out.size)).trans (Below.alloc (Below.refl _ w6) (by have := HC6.out.size; have := HB5.out.size; omega) _)) _

end Go.Proofs.Ythhnpafadinheaa
