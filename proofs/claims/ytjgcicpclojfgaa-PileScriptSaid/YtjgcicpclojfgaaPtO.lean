/- Things by their keys: the order, the place, who is of a key. Conditions: none. -/
import Derived.Test.YtjgcicpclojfgaaPtS
import Derived.Test.YtjgcicpclojfgaaPtN
import Derived.Test.YtjgcicpclojfgaaPtD
import Derived.Test.YtjgcicpclojfgaaPileB
import Derived.Test.YtjgcicpclojfgaaPileP
import Derived.Test.YtjgcicpclojfgaaReg
import Derived.Test.YtjgcicpclojfgaaDec
import Derived.Test.YtjgcicpclojfgaaLow
namespace Go.Proofs.Ytjgcicpclojfgaa
open Go.RowKit Go.Shelf

def ltT (a b : Th) : Bool := decide (a.key < b.key)
theorem less_less : pt_Less 23 ltT := by
  refine ⟨enters_of Try.func23 (by kernel_rfl) rfl, fun W x y => ?_⟩
  go_enter Try.func23, Try.ntmps23
  go_wp2
  go_ret
  exact ⟨rfl, lays_trans (alloc_lays W _) (alloc_lays _ _)⟩
def byK (k : Int) (y : Th) : Bool := y.key == k
theorem key_pred (B : Nat) (k i : Int) : pt_Pred 28 #[.pointer (some ⟨B, 0, none⟩)] (byK k) (fun W => W.heap[B]? = some (.cells #[.int .i64 k, .int .i64 i] 43 (0, 0))) := by
  refine ⟨enters_of Try.func28 (by kernel_rfl) rfl, fun W x hB => ?_⟩
  have hb := cell_of_heap hB 0
  have hbl := (Array.getElem?_eq_some_iff.1 hB).1
  clear hB
  go_enter Try.func28, Try.ntmps28
  go_wp2
  go_ret
  exact ⟨rfl, (Below.refl _ W).alloc (Nat.le_refl _) _⟩
theorem place_eq (lt : Th → Th → Bool) (x : Th) (l : List Th) (k : Nat) (hk : k ≤ l.length) (h1 : ∀ j (hj : j < l.length), k ≤ j → lt x l[j] = true) (h2 : ∀ (h : 0 < k), lt x (l[k - 1]'(by omega)) = false) : k = placeOf lt x l := (placeOf_eq lt x l k hk h1 h2).symm

set_option maxRecDepth 100000 in
theorem place_ok (w : World) (v : Value) (l : List Th) (x : Th) (h : Rd w v l.length (flat pt_enc l)) (hm : l.length ≤ 1000000) :
    Calls Try.prog 25 #[v, .agg #[.int .i64 x.key, .int .i64 x.which]] w fun e w' => e = .returned (.int .i64 (placeOf ltT x l)) ∧ Below w.heap.size w w' := by
  obtain ⟨ao, c, rfl, -, hcs⟩ := h.shape
  have HCS := hide hcs
  clear hcs h
  go_enter Try.func25, Try.ntmps25
  go_wp2
  obtain ⟨w1, hw1⟩ : ∃ w1, w1 = w.alloc (.cells #[.int .i64 x.key, .int .i64 x.which] 43) := ⟨_, rfl⟩
  have hx := heap_alloc_new w (.cells #[.int .i64 x.key, .int .i64 x.which] 43)
  have hb1 := (Below.refl _ w).alloc (Nat.le_refl _) (.cells #[.int .i64 x.key, .int .i64 x.which] 43)
  have hc1 := Chg.alloc (fun _ => False) w (.cells #[.int .i64 x.key, .int .i64 x.which] 43)
  rw [← hw1] at hx hb1 hc1 ⊢
  have HX := hide hx
  have HB1 := hide hb1
  have HC1 := hide hc1
  clear hw1 hx hb1 hc1
  go_loopw [5] (fun i wr => ∃ k : Nat, k ≤ l.length ∧ i = .int .i64 k ∧ (∃ n, wr = w1.drewN n) ∧ Hid (∀ j (hj : j < l.length), k ≤ j → ltT x l[j] = true)) (fun i _ => (intOf i).toNat)
  case atStart => exact ⟨l.length, by omega, rfl, ⟨0, rfl⟩, fun j hj hk => by omega⟩
  case round =>
    obtain ⟨k, hk, rfl, ⟨n, rfl⟩, HK⟩ := hrel
    have hx0 := cell_of_heap HX.out 0
    cases k with
    | zero =>
      have hp := place_eq ltT x l 0 (by omega) HK.out (fun h => absurd h (by omega))
      have HP := hide hp
      clear hp
      go_wp2
      refine wp_region_quiet_lit (by kernel_rfl) (by kernel_rfl) ?_
      repeat (go_big_quiet_step (fail))
      refine wpQuiet_nil ?_
      intro _ hw'
      obtain ⟨nq, hw''⟩ := hw'
      subst hw''
      go_wp2
      go_ret
      exact ⟨ret_int (by rw [← HP.out]), bdrewN (bdrewN HB1.out _) _⟩
    | succ m =>
      obtain ⟨b, off, rfl, hcs⟩ := HCS.out (by omega)
      obtain ⟨hy0, hy1⟩ := pt_cells w b off l hcs m (by omega)
      have hy0' := HC1.out.cell hy0 (fun h => h)
      obtain ⟨y, hyy⟩ : ∃ y, y = l[m] := ⟨_, rfl⟩
      rw [← hyy] at hy0'
      have hy := hy0'
      have a1 : IntKind.i64.wrap ((m : Int) + 1 - 1) = m := by rw [Int.add_sub_cancel]; exact IntWalk.i64_in _ (by omega)
      have a2 : IntKind.i64.wrap (m : Int) = m := IntWalk.i64_in _ (by omega)
      have d0 : decide ((m : Int) + 1 > 0) = true := decide_eq_true (by omega)
      clear hcs hy0 hy1 hy0'
      by_cases hlt : x.key < y.key
      · have d1 : decide (y.key > x.key) = true := decide_eq_true hlt
        have hn : ∀ j (hj : j < l.length), m ≤ j → ltT x l[j] = true := fun j hj hmj => by
          by_cases e : j = m
          · subst e; rw [← hyy]; exact decide_eq_true hlt
          · exact HK.out j hj (by omega)
        have HN := hide hn
        clear hn hyy hlt
        go_wp2
        refine wp_region_quiet_lit (by kernel_rfl) (by kernel_rfl) ?_
        repeat (go_big_quiet_step (fail))
        refine wpQuiet_nil ?_
        intro _ hw'
        obtain ⟨nq, hw''⟩ := hw'
        subst hw''
        go_wp2
        go_roundw
        case rel => exact ⟨m, by omega, by go_num, ⟨n + nq, by simp⟩, HN.out⟩
        case measure => simp [intOf]
      · have d1 : decide (y.key > x.key) = false := decide_eq_false hlt
        have hp := place_eq ltT x l (m + 1) (by omega) HK.out (fun h => by rw [show l[m + 1 - 1] = y from hyy.symm]; exact decide_eq_false hlt)
        have HP := hide hp
        clear hp hyy hlt
        go_wp2
        refine wp_region_quiet_lit (by kernel_rfl) (by kernel_rfl) ?_
        repeat (go_big_quiet_step (fail))
        refine wpQuiet_nil ?_
        intro _ hw'
        obtain ⟨nq, hw''⟩ := hw'
        subst hw''
        go_wp2
        go_ret
        exact ⟨ret_int (by rw [← HP.out]), bdrewN (bdrewN HB1.out _) _⟩

/-- An act, as it stands in a row. -/
structure AcP where
  what : Int
  key : Int
def AcP.cells (a : AcP) : List Value := [.int .i64 a.what, .int .i64 a.key]
theorem actsP_of_readable {H : Type} {enc : TypeId × Value → H} {W : World} {cs : List Value} (h : Readable enc Try.prog W 39 cs) : ∃ v acts, cs = [v] ∧ Rd W v acts.length (flat AcP.cells acts) ∧ acts.length ≤ maxLen ∧ (∀ b, v.ownBlock = some b → acts ≠ [] → b < W.heap.size) := by
  obtain ⟨v, n, css, rfl, hr, hl, hm, hc, hb⟩ := h.slice Try.underlying39 (k := 2) (by kernel_rfl) (by decide)
  obtain ⟨acts, rfl, -⟩ := exists_map (f := AcP.cells) (p := fun _ => True) (l := css) (fun c hcc => by
    obtain ⟨h1, hf⟩ := (hc c hcc).2.struct Try.underlying47
    have h1 : c.length = 2 := h1.trans (by kernel_rfl)
    have e1 : Try.prog.cellsOf 3 = 1 := by kernel_rfl
    match c, h1 with
    | [c0, c1], _ =>
      obtain ⟨x0, g0, _⟩ := Readable.int (hf 0 3 0 1 rfl e1) Try.underlying3
      obtain ⟨x1, g1, _⟩ := Readable.int (hf 1 3 1 1 rfl e1) Try.underlying3
      simp at g0 g1
      subst g0 g1
      exact ⟨⟨x0, x1⟩, rfl, trivial⟩)
  simp only [List.length_map] at hl
  subst hl
  refine ⟨v, acts, rfl, hr, hm, fun b h1 h2 => hb b h1 ?_⟩
  cases acts with
  | nil => exact absurd rfl h2
  | cons a l => simp [AcP.cells]
theorem actsP_cells {w : World} {b off : Nat} {acts : List AcP} (h : CellsAt w b off (flat AcP.cells acts)) (i : Nat) (hi : i < acts.length) :
    w.cell? ⟨b, off + i * 2, none⟩ = some (.int .i64 acts[i].what) ∧ w.cell? ⟨b, off + i * 2 + 1, none⟩ = some (.int .i64 acts[i].key) := by
  have g : ∀ (j : Nat) (u : Value), j < 2 → (acts[i].cells)[j]? = some u → w.cell? ⟨b, off + i * 2 + j, none⟩ = some u := by
    intro j u hj hu
    have := h (i * 2 + j) u (by rw [flat_get (size := 2) (fun _ => rfl) (by decide) acts i j hi hj]; exact hu)
    rwa [← Nat.add_assoc] at this
  exact ⟨g 0 _ (by decide) rfl, g 1 _ (by decide) rfl⟩
theorem pt_Remove_none (w : World) (p : Nat) : Calls Try.prog 27 #[.pointer (some ⟨p, 0, none⟩), .nilFunc] w fun e w' => e = .returned (.int .i64 0) ∧ w' = w := by
  have hnn : ∀ w', Sem.run Try.prog (binOp BinOp.eql 53 .nilFunc .nilFunc) w' = .ok (.bool true) w' := by intro w'; kernel_rfl
  go_enter Try.func27, Try.ntmps27
  go_wp2
  go_ret
  exact ⟨rfl, rfl⟩
end Go.Proofs.Ytjgcicpclojfgaa
