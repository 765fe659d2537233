/- Commits as a statement is handed them: how they are read; GreatCommit. Conditions: none. -/
import Derived.Test.YtjmmmpnpkialjaaDoorCmO
import Derived.Test.YtjmmmpnpkialjaaDoorDec
namespace Go.Proofs.YtjmmmpnpkialjaaDoor
open Go.RowKit Go.Shelf

section
variable {H : Type} {enc : TypeId × Value → H} {W : World}
theorem file_of_readable {cs : List Value} (h : Readable enc Tryd.prog W 68 cs) : ∃ f : Fl, cs = fl_enc f ∧ True := by
  obtain ⟨hl, hf⟩ := h.struct Tryd.underlying68
  have hl2 : cs.length = 2 := by rw [hl]; kernel_rfl
  obtain ⟨p, hp, -⟩ := (hf 0 9 0 1 (by kernel_rfl) (by kernel_rfl)).string Tryd.underlying9
  obtain ⟨d, hd, -⟩ := (hf 1 9 1 1 (by kernel_rfl) (by kernel_rfl)).string Tryd.underlying9
  match cs, hl2 with
  | [a, b], _ =>
    simp at hp hd
    exact ⟨⟨p, d⟩, by rw [hp, hd]; rfl, trivial⟩
theorem flatten_flat {α : Type} (e : α → List Value) (l : List α) : (l.map e).flatten = flat e l := by simp [flat]
theorem files_of_readable {cs : List Value} (h : Readable enc Tryd.prog W 23 cs) : ∃ (v : Value) (l : List Fl), cs = [v] ∧ Rd W v l.length (flat fl_enc l) ∧ l.length ≤ maxLen ∧ (∀ b, v.ownBlock = some b → l ≠ [] → b < W.heap.size) := by
  obtain ⟨v, n, css, rfl, hr, hl, hm, hc, hb⟩ := h.slice Tryd.underlying23 (k := 2) (by kernel_rfl) (by decide)
  obtain ⟨xs, rfl, -⟩ := exists_map (f := fl_enc) (p := fun _ => True) (l := css) (fun c hcc => file_of_readable (hc c hcc).2)
  rw [flatten_flat] at hr hb
  simp only [List.length_map] at hl
  subst hl
  refine ⟨v, xs, rfl, hr, hm, fun b h1 h2 => hb b h1 ?_⟩
  cases xs with
  | nil => exact absurd rfl h2
  | cons x xs => simp [flat_cons, fl_enc]
/-- What a statement is told of a commit. -/
def Wf (c : Cm) : Prop := c.parents.length ≤ maxLen ∧ c.tree.length ≤ maxLen ∧ ∀ n ∈ c.parents, -9223372036854775808 ≤ n ∧ n ≤ 9223372036854775807
theorem wf_range {n : Int} (h : (Lit.int .i64 n).wf = true) : -9223372036854775808 ≤ n ∧ n ≤ 9223372036854775807 := by
  simpa [Lit.wf, IntKind.min, IntKind.max, IntKind.signed, IntKind.bits] using h
theorem commit_of_readable {cs : List Value} (h : Readable enc Tryd.prog W 25 cs) : ∃ x : CmV, cs = cv_enc x ∧ CmAt W x ∧ Wf x.c := by
  obtain ⟨hl, hf⟩ := h.struct Tryd.underlying25
  have hl3 : cs.length = 3 := by rw [hl]; kernel_rfl
  obtain ⟨vp, ps, hp, rp, mp, wp, bp⟩ := (hf 0 22 0 1 (by kernel_rfl) (by kernel_rfl)).ints Tryd.underlying22 Tryd.underlying3 (by kernel_rfl)
  obtain ⟨vt, ts, ht, rt, mt, bt⟩ := files_of_readable (hf 1 23 1 1 (by kernel_rfl) (by kernel_rfl))
  obtain ⟨n, hn, -⟩ := (hf 2 9 2 1 (by kernel_rfl) (by kernel_rfl)).string Tryd.underlying9
  match cs, hl3 with
  | [a, b, c], _ =>
    simp at hp ht hn
    refine ⟨⟨⟨ps, ts, n⟩, vp, vt⟩, by rw [hp, ht, hn]; rfl, ⟨?_, rt, bp, bt⟩, mp, mt, fun x hx => wf_range (wp x hx)⟩
    show Rd W vp ps.length (flat int_enc ps)
    rw [flat_int]; exact rp
end

def bigF (f : Fl) : Bool := decide (100 < f.path.size) || decide (500 < f.data.size)
def greatT (most : Nat) (t : List Fl) : Bool := decide (most < t.length) || t.any bigF
def greatC (c : Cm) : Bool := decide (5 < c.parents.length) || greatT 16 c.tree || decide (100 < c.note.size)
def greatL (most : Nat) (l : List Cm) : Bool := decide (most < l.length) || l.any greatC
theorem Few.of_great {c : Cm} (h : greatC c = false) : Few c := by
  simp only [greatC, greatT, Bool.or_eq_false_iff, decide_eq_false_iff_not] at h
  exact ⟨by omega, by omega⟩

set_option maxRecDepth 100000 in
set_option maxHeartbeats 1000000 in
theorem GreatFiles_ok (w : World) (vt : Value) (t : List Fl) (most : Nat) (ht : Rd w vt t.length (flat fl_enc t)) (hm : t.length ≤ maxLen) (hmo : most ≤ 1000) :
    Calls Tryd.prog 32 #[vt, .int .i64 (most : Int)] w fun e w' => e = .returned (.bool (greatT most t)) ∧ ∃ n, w' = w.drewN n := by
  obtain ⟨ao, ca, rfl, -, ht⟩ := ht.shape
  have hm' : t.length ≤ 9223372036854775807 := by unfold maxLen at hm; omega
  have HT := hide ht
  clear ht hm
  go_enter Tryd.func32, Tryd.ntmps32
  go_wp2_with fail
  go_loopw [5] (fun i wr => ∃ k : Nat, k ≤ t.length ∧ i = .int .i64 k ∧ Hid (∀ f ∈ t.take k, bigF f = false) ∧ ∃ n, wr = w.drewN n) (fun i _ => t.length - (intOf i).toNat)
  case atStart => exact ⟨0, Nat.zero_le _, rfl, (fun f h => by simp at h), 0, rfl⟩
  case round =>
    obtain ⟨k, hk, rfl, HN, n, rfl⟩ := hrel
    by_cases hlt : k < t.length
    · by_cases hmost : t.length ≤ most
      · have d1 : decide ((t.length : Int) ≤ (most : Int)) = true := decide_eq_true (by omega)
        obtain ⟨b, off, rfl, hcs⟩ := HT.out (by omega)
        obtain ⟨hx0, hx1⟩ := fl_cells w b off t hcs k hlt
        have hbf : bigF t[k] = (decide (100 < t[k].path.size) || decide (500 < t[k].data.size)) := rfl
        have htk : t.take (k + 1) = t.take k ++ [t[k]] := (List.take_append_getElem hlt).symm
        have HTK := hide htk
        have hany : bigF t[k] = true → greatT most t = true := fun h => by
          rw [greatT, List.any_eq_true.2 ⟨_, List.getElem_mem hlt, h⟩, Bool.or_true]
        clear htk hcs
        generalize t[k] = f at *
        by_cases h1 : 100 < f.path.size
        · have d2 : decide ((f.path.size : Int) > 100) = true := decide_eq_true (by omega)
          have HA := hide (hany (by rw [hbf, decide_eq_true h1]; rfl))
          clear hany hbf
          go_wp2_with fail
          go_ret
          exact ⟨ret_bool HA.out.symm, n, rfl⟩
        · have d2 : decide ((f.path.size : Int) > 100) = false := decide_eq_false (by omega)
          by_cases h2 : 500 < f.data.size
          · have d3 : decide ((f.data.size : Int) > 500) = true := decide_eq_true (by omega)
            have HA := hide (hany (by rw [hbf, decide_eq_true h2, Bool.or_true]))
            clear hany hbf
            go_wp2_with fail
            go_ret
            exact ⟨ret_bool HA.out.symm, n, rfl⟩
          · have d3 : decide ((f.data.size : Int) > 500) = false := decide_eq_false (by omega)
            have HF := hide (show bigF f = false by rw [hbf, decide_eq_false h1, decide_eq_false h2]; rfl)
            clear hany hbf
            go_wp2_with fail
            go_roundw
            case rel =>
              refine ⟨k + 1, by omega, by go_num, fun x hx => ?_, n, rfl⟩
              rw [HTK.out] at hx
              rcases List.mem_append.1 hx with h | h
              · exact HN.out x h
              · rw [List.mem_singleton.1 h]; exact HF.out
            case measure => simp [intOf]; omega
      · have d1 : decide (t.length ≤ most) = false := decide_eq_false hmost
        have HA := hide (show greatT most t = true by rw [greatT, decide_eq_true (by omega : most < t.length)]; rfl)
        have d4 : decide (most < t.length) = true := decide_eq_true (by omega)
        clear hmost
        go_wp2_with fail
        go_ret
        exact ⟨ret_bool HA.out.symm, n, rfl⟩
    · obtain rfl : k = t.length := by omega
      have hn := HN.out
      rw [List.take_length] at hn
      have hf : t.any bigF = false := List.any_eq_false.2 fun x hx => by rw [hn x hx]; simp
      have HA := hide (show greatT most t = decide (most < t.length) by rw [greatT, hf, Bool.or_false])
      clear hn hf HN
      go_wp2_with fail
      go_ret
      exact ⟨ret_bool HA.out.symm, n, rfl⟩

set_option maxRecDepth 100000 in
set_option maxHeartbeats 1000000 in
theorem GreatCommit_ok (w : World) (x : CmV) (hx : CmAt w x) (hw : Wf x.c) : Calls Tryd.prog 10 #[x.val] w fun e w' => e = .returned (.bool (greatC x.c)) ∧ Below w.heap.size w w' := by
  obtain ⟨⟨xps, xts, xn⟩, xp, xt⟩ := x
  unfold CmV.val
  obtain ⟨r, hr⟩ : ∃ r, r = greatC ⟨xps, xts, xn⟩ := ⟨_, rfl⟩
  have hrr : r = (decide (5 < xps.length) || greatT 16 xts || decide (100 < xn.size)) := hr
  show Calls _ _ _ _ fun e w' => e = .returned (.bool (greatC ⟨xps, xts, xn⟩)) ∧ _
  rw [← hr]
  have hps : Rd w xp xps.length (flat int_enc xps) := hx.ps
  have hB1 := (Below.refl w.heap.size w).alloc (Nat.le_refl _) (.cells #[xp, xt, .string xn] 25)
  have HB1 := hide hB1
  have hx1 := hx.same (Chg.of_below0 hB1)
  have HC := hide (GreatFiles_ok _ xt xts 16 hx1.ts hw.2.1 (by decide))
  obtain ⟨po, pc, rfl, -, -⟩ := hps.shape
  have hl : xps.length ≤ maxLen := hw.1
  unfold maxLen at hl
  clear hx hr hB1 hx1 hps hw
  generalize greatT 16 xts = q at hrr HC
  by_cases h1 : 5 < xps.length
  · have HR : Hid (r = true) := hide (by rw [hrr, decide_eq_true h1]; rfl)
    have d1 : decide ((xps.length : Int) > 5) = true := decide_eq_true (by omega)
    clear hrr
    go_enter Tryd.func10, Tryd.ntmps10
    go_wp2_with fail
    go_ret
    exact ⟨ret_bool HR.out.symm, HB1.out⟩
  · have d1 : decide ((xps.length : Int) > 5) = false := decide_eq_false (by omega)
    cases q with
    | true =>
      have HR : Hid (r = true) := hide (by rw [hrr]; simp)
      clear hrr
      go_enter Tryd.func10, Tryd.ntmps10
      go_wp2_with fail
      refine HC.out.mono ?_
      rintro e w2 ⟨rfl, n, rfl⟩
      have HB2 := hide (bdrewN HB1.out n)
      go_wp2_with fail
      go_ret
      exact ⟨ret_bool HR.out.symm, HB2.out⟩
    | false =>
      have HR : Hid (r = decide ((xn.size : Int) > 100)) := hide (by rw [hrr, decide_eq_false h1]; simp; omega)
      clear hrr
      go_enter Tryd.func10, Tryd.ntmps10
      go_wp2_with fail
      refine HC.out.mono ?_
      rintro e w2 ⟨rfl, n, rfl⟩
      have HB2 := hide (bdrewN HB1.out n)
      go_wp2_with fail
      go_ret
      exact ⟨ret_bool HR.out.symm, HB2.out⟩

end Go.Proofs.YtjmmmpnpkialjaaDoor
