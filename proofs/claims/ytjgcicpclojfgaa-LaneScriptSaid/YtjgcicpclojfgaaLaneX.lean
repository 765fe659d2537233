/- Lanes, and the document's: Add and Close by one contract each. Conditions: none. -/
import Derived.Test.YtjgcicpclojfgaaLaneG
namespace Go.Proofs.Ytjgcicpclojfgaa
open Go.RowKit Go.Shelf

section
variable {base : Nat} {lp : Nat} {pend lanes : Int} {aa : Option Addr} {acap : Nat} {all : List En} {p : Nat} {ao : Option Addr} {cap : Nat} {rp : Nat} {ra : Option Addr} {rcap : Nat}
theorem LGrew.of_chg {w w' : World} {wt : List En} (h : LaneAt base w lp pend lanes aa acap all p ao cap wt) (c : Chg (fun _ => False) w w') : LGrew base w lp pend lanes aa p ao all wt w' :=
  ⟨aa, acap, p, ao, cap, h.chg c (fun _ _ h => h), c.mono (fun _ _ h => h.elim), fun _ h => .inl h⟩
theorem RGrew.of_chg {w w' : World} (h : RefAt base w rp pend lanes ra rcap all) (c : Chg (fun _ => False) w w') : RGrew base w rp pend lanes ra all w' :=
  ⟨ra, rcap, h.chg c (fun _ _ h => h), c.mono (fun _ _ h => h.elim), fun _ h => .inl h⟩
theorem lane_Add_any (w : World) (c y : Int) (h : LaneAt base w lp pend lanes aa acap all p ao cap (waitR all)) (hg : GoodAll all) (hp8 : pend ≤ 8) (hl4 : lanes ≤ 4) :
    Calls Try.prog 40 #[.pointer (some ⟨lp, 0, none⟩), .int .i64 c, .int .i64 y] w fun e w' => e = .returned (.tuple #[.int .i64 (addR pend lanes all c y).1, .int .i64 (addR pend lanes all c y).2.1]) ∧ LGrew base w lp pend lanes aa p ao (addR pend lanes all c y).2.2 (waitR (addR pend lanes all c y).2.2) w' := by
  unfold addR
  by_cases hb : badArg lanes c y
  · rw [if_pos hb]
    refine (lane_Add_arg w c y h hb).mono ?_
    rintro e w' ⟨rfl, rfl⟩
    exact ⟨rfl, LGrew.refl h⟩
  · rw [if_neg hb]
    unfold badArg at hb
    by_cases hf : isFull pend all
    · rw [if_pos hf]
      refine (lane_Add_full w c y h (by omega) hf).mono ?_
      rintro e w' ⟨rfl, n, rfl⟩
      exact ⟨rfl, LGrew.of_chg h (Chg.drewN _ w n)⟩
    · rw [if_neg hf]
      unfold isFull at hf
      refine (lane_Add w c y h (by omega) (by omega) hp8 (by omega)).mono ?_
      rintro e w' ⟨rfl, hgr⟩
      rw [ins_wait hg c y (by omega) (by omega)] at hgr
      exact ⟨rfl, hgr⟩
theorem ref20_Add_any (w : World) (c y : Int) (h : RefAt base w rp pend lanes ra rcap all) :
    Calls Try.prog 48 #[.pointer (some ⟨rp, 0, none⟩), .int .i64 c, .int .i64 y] w fun e w' => e = .returned (.tuple #[.int .i64 (addR pend lanes all c y).1, .int .i64 (addR pend lanes all c y).2.1]) ∧ RGrew base w rp pend lanes ra (addR pend lanes all c y).2.2 w' := by
  unfold addR
  by_cases hb : badArg lanes c y
  · rw [if_pos hb]
    refine (ref20_Add_arg w c y h hb).mono ?_
    rintro e w' ⟨rfl, rfl⟩
    exact ⟨rfl, RGrew.refl h⟩
  · rw [if_neg hb]
    unfold badArg at hb
    by_cases hf : isFull pend all
    · rw [if_pos hf]
      refine (ref20_Add_full w c y h (by omega) hf).mono ?_
      rintro e w' ⟨rfl, hb⟩
      exact ⟨rfl, RGrew.of_chg h (Chg.of_below0 hb)⟩
    · rw [if_neg hf]
      unfold isFull at hf
      exact ref20_Add w c y h (by omega) (by omega) (by omega)
theorem lane_Close_any (w : World) (n code : Int) (h : LaneAt base w lp pend lanes aa acap all p ao cap (waitR all)) (hg : GoodAll all) :
    Calls Try.prog 41 #[.pointer (some ⟨lp, 0, none⟩), .int .i64 n, .int .i64 code] w fun e w' => e = .returned (.bool (closeR all n code).1) ∧ LGrew base w lp pend lanes aa p ao (closeR all n code).2 (waitR (closeR all n code).2) w' := by
  unfold closeR
  by_cases hc : canClose all n code
  · rw [if_pos hc]
    obtain ⟨m, rfl, hm, h7⟩ := canClose_at hg hc
    have e1 : ((m : Int) + 1 - 1).toNat = m := by omega
    rw [e1]
    refine (lane_Close w m code h hc.1 hm hc.2).mono ?_
    rintro e w' ⟨rfl, hgr⟩
    rw [wait_close hg m code hc.1] at hgr
    exact ⟨rfl, hgr⟩
  · rw [if_neg hc]
    by_cases h7 : code = 7
    · subst h7
      exact lane_Close_7 w n h
    · exact lane_Close_no w n code h h7 (by
        cases hh : (waitR all).any (byN n) with
        | false => rfl
        | true => exact absurd ⟨h7, hh⟩ hc)
theorem ref20_Close_any (w : World) (n code : Int) (h : RefAt base w rp pend lanes ra rcap all) (hg : GoodAll all) :
    Calls Try.prog 50 #[.pointer (some ⟨rp, 0, none⟩), .int .i64 n, .int .i64 code] w fun e w' => e = .returned (.bool (closeR all n code).1) ∧ RGrew base w rp pend lanes ra (closeR all n code).2 w' := by
  unfold closeR
  by_cases hc : canClose all n code
  · rw [if_pos hc]
    obtain ⟨m, rfl, hm, h7⟩ := canClose_at hg hc
    have e1 : ((m : Int) + 1 - 1).toNat = m := by omega
    rw [e1]
    exact ref20_Close w m code h hc.1 hm h7
  · rw [if_neg hc]
    refine (ref20_Close_no w n code h hg ?_).mono ?_
    · by_cases h7 : code = 7
      · exact .inl h7
      · right
        cases hh : (waitR all).any (byN n) with
        | false => rfl
        | true => exact absurd ⟨h7, hh⟩ hc
    · rintro e w' ⟨rfl, rfl⟩
      exact ⟨rfl, RGrew.refl h⟩
end

/-- Both lanes, side by side. -/
def ScrAt (W : World) (pend lanes : Int) (lp rp : Nat) (wr : World) : Prop :=
  ∃ aa acap all p ao cap ra rcap, LaneAt W.heap.size wr lp pend lanes aa acap all p ao cap (waitR all) ∧ RefAt W.heap.size wr rp pend lanes ra rcap all ∧ (∀ k, LSet lp aa p ao k → ¬ RSet rp ra k) ∧ GoodAll all ∧ Below W.heap.size W wr

/-- A row of acts. -/
def ActsAt (w : World) (v : Value) (acts : List Ac) : Prop := Rd w v acts.length (flat Ac.cells acts)
theorem acts_of_readable {H : Type} {enc : TypeId × Value → H} {W : World} {cs : List Value} (h : Readable enc Try.prog W 74 cs) : ∃ v acts, cs = [v] ∧ ActsAt W v acts ∧ acts.length ≤ maxLen ∧ (∀ b, v.ownBlock = some b → acts ≠ [] → b < W.heap.size) := by
  obtain ⟨v, n, css, rfl, hr, hl, hm, hc, hb⟩ := h.slice Try.underlying74 (k := 5) (by kernel_rfl) (by decide)
  obtain ⟨acts, rfl, -⟩ := exists_map (f := Ac.cells) (p := fun _ => True) (l := css) (fun c hcc => by
    obtain ⟨a, ha⟩ := act_of_readable (hc c hcc).2
    exact ⟨a, ha, trivial⟩)
  simp only [List.length_map] at hl
  subst hl
  refine ⟨v, acts, rfl, hr, hm, fun b h1 h2 => hb b h1 ?_⟩
  cases acts with
  | nil => exact absurd rfl h2
  | cons a l => simp [Ac.cells]
theorem acts_cells {w : World} {b off : Nat} {acts : List Ac} (h : CellsAt w b off (flat Ac.cells acts)) (i : Nat) (hi : i < acts.length) :
    w.cell? ⟨b, off + i * 5, none⟩ = some (.int .i64 acts[i].what) ∧ w.cell? ⟨b, off + i * 5 + 1, none⟩ = some (.int .i64 acts[i].commit) ∧ w.cell? ⟨b, off + i * 5 + 2, none⟩ = some (.int .i64 acts[i].lane) ∧ w.cell? ⟨b, off + i * 5 + 3, none⟩ = some (.int .i64 acts[i].n) ∧ w.cell? ⟨b, off + i * 5 + 4, none⟩ = some (.int .i64 acts[i].code) := by
  have g : ∀ (j : Nat) (u : Value), j < 5 → (acts[i].cells)[j]? = some u → w.cell? ⟨b, off + i * 5 + j, none⟩ = some u := by
    intro j u hj hu
    have := h (i * 5 + j) u (by rw [flat_get (size := 5) (fun _ => rfl) (by decide) acts i j hi hj]; exact hu)
    rwa [← Nat.add_assoc] at this
  exact ⟨g 0 _ (by decide) rfl, g 1 _ (by decide) rfl, g 2 _ (by decide) rfl, g 3 _ (by decide) rfl, g 4 _ (by decide) rfl⟩
end Go.Proofs.Ytjgcicpclojfgaa
