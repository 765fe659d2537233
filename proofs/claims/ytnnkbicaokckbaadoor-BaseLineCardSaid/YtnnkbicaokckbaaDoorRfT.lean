/- Two repos side by side: the program's and the document's. Conditions: none. -/
import Derived.Test.YtnnkbicaokckbaaDoorRfD
import Derived.Test.YtnnkbicaokckbaaDoorRpD
namespace Go.Proofs.YtnnkbicaokckbaaDoor
open Go.RowKit Go.Shelf

theorem addL_pre (cs : List Cm) (room : Int) (c : Cm) : addL cs room c = cs ∨ addL cs room c = cs ++ [c] := by
  unfold addL
  split
  · exact .inl rfl
  split
  · exact .inl rfl
  split
  · exact .inl rfl
  split
  · exact .inl rfl
  · exact .inr rfl
theorem addL_len (cs : List Cm) (room : Int) (c : Cm) : (addL cs room c).length ≤ cs.length + 1 := by
  rcases addL_pre cs room c with e | e <;> rw [e] <;> simp
theorem cms_take_succ (l : List CmV) (k : Nat) (h : k < l.length) : cms (l.take (k + 1)) = cms (l.take k) ++ [l[k].c] := by
  have := (List.take_append_getElem h).symm
  rw [this]; simp only [cms, List.map_append, List.map_cons, List.map_nil]
theorem great_size {c : Cm} (h : greatC c = false) : ∀ f ∈ c.tree, f.path.size ≤ 100000 := by
  intro f hf
  unfold greatC greatT at h
  rw [Bool.or_eq_false_iff, Bool.or_eq_false_iff, Bool.or_eq_false_iff] at h
  have h1 := List.any_eq_false.1 h.1.2.2 f hf
  unfold bigF at h1
  simp at h1
  omega
/-- Two repos that lie apart, and off the blocks N. -/
def Two (base : Nat) (w : World) (p q : Nat) (cs csq : List Cm) (room roomq : Int) (N : Nat → Prop) : Prop :=
  ∃ ao cap l aq cq lq, RepoAt base w p ao cap l room ∧ RefAt base w q aq cq lq roomq ∧ cms l = cs ∧ cms lq = csq ∧ (∀ k, RB p ao l k → ¬ NB q aq lq k ∧ ¬ N k) ∧ ¬ N q
variable {base : Nat} {w : World} {p q : Nat} {cs csq : List Cm} {room roomq : Int} {N : Nat → Prop}
theorem Two.same {w' : World} (h : Two base w p q cs csq room roomq N) (c : Chg (fun _ => False) w w') : Two base w' p q cs csq room roomq N := by
  obtain ⟨ao, cap, l, aq, cq, lq, h1, h2, h3⟩ := h
  exact ⟨ao, cap, l, aq, cq, lq, h1.same c, h2.same c, h3⟩
theorem Two.off {N' : Nat → Prop} (h : Two base w p q cs csq room roomq N) (hN : ∀ k, N' k → N k ∨ w.heap.size ≤ k) : Two base w p q cs csq room roomq N' := by
  obtain ⟨ao, cap, l, aq, cq, lq, h1, h2, h3, h4, h5, h6⟩ := h
  refine ⟨ao, cap, l, aq, cq, lq, h1, h2, h3, h4, fun k hk => ⟨(h5 k hk).1, fun hn => ?_⟩, fun hn => ?_⟩
  · rcases hN k hn with h | h
    · exact (h5 k hk).2 h
    · have := (h1.rbl hk).2; omega
  · rcases hN q hn with h | h
    · exact h6 h
    · have := h2.plt; omega
theorem Two.is (h : Two base w p q cs csq room roomq N) : RepoIs base w p cs room := by
  obtain ⟨ao, cap, l, aq, cq, lq, h1, h2, h3, h4, h5⟩ := h
  exact ⟨ao, cap, l, h1, h3⟩
theorem Two.small (h : Two base w p q cs csq room roomq N) : cs.length ≤ 1000 ∧ csq.length ≤ 1000 ∧ 0 ≤ room ∧ room ≤ 120 ∧ base < w.heap.size := by
  have := h.is.small
  obtain ⟨ao, cap, l, aq, cq, lq, h1, h2, h3, h4, h5⟩ := h
  have h6 := h2.len
  rw [← h4, cms_length]
  omega
theorem Two.putR (h : Two base w p q cs csq room roomq N) (hN : ∀ k, N k → k < w.heap.size) (hM : Mx w) (y : CmV) (hy : CmAt w y) (fy : Few y.c) (hyN : ∀ k, YB y k → N k) (hl : cs.length < 1000) :
    Calls Tryd.prog 18 #[.pointer (some ⟨p, 0, none⟩), y.val] w fun e w' => e = .returned (.tuple #[.int .i64 (addR cs room y.c).1, .int .i64 (addR cs room y.c).2]) ∧ Two base w' p q (addL cs room y.c) csq room roomq N ∧ CmAt w' y ∧ Below base w w' := by
  obtain ⟨ao, cap, l, aq, cq, lq, h1, h2, rfl, h4, h5, h6⟩ := h
  rw [cms_length] at hl
  refine (repo_Add h1 hM y hy fy hl).mono ?_
  rintro e w' ⟨rfl, ⟨ao', cap', l', h', hl', hrb⟩, hc⟩
  refine ⟨rfl, ⟨ao', cap', l', aq, cq, lq, h', h2.turn hc (fun k hk hs => (h5 k (.inl hs)).1 hk), hl', h4, fun k hk => ?_, h6⟩, hy.chg hc (fun b hb hn hs => (h5 b (.inl hs)).2 (hyN b (.inl ⟨hb, hn⟩))) (fun b hb hn hs => (h5 b (.inl hs)).2 (hyN b (.inr ⟨hb, hn⟩))), hc.below ?_ (fun k hk hS => ?_)⟩
  · rcases hrb k hk with hk | hk
    · exact h5 k hk
    · exact ⟨fun hn => by have := h2.nlt hn; omega, fun hn => by have := hN k hn; omega⟩
  · have := h1.pb; have := h1.plt; omega
  · have := (h1.rbl (.inl hS)).1; omega
theorem Two.putQ (h : Two base w p q cs csq room roomq N) (y : CmV) (hy : CmAt w y) (fy : Few y.c) (hsz : ∀ f ∈ y.c.tree, f.path.size ≤ 100000) (hyN : ∀ k, YB y k → N k) (hl : csq.length < 1000) :
    Calls Tryd.prog 27 #[.pointer (some ⟨q, 0, none⟩), y.val] w fun e w' => e = .returned (.tuple #[.int .i64 (addR csq roomq y.c).1, .int .i64 (addR csq roomq y.c).2]) ∧ Two base w' p q cs (addL csq roomq y.c) room roomq N ∧ CmAt w' y ∧ Below base w w' := by
  obtain ⟨ao, cap, l, aq, cq, lq, h1, h2, h3, rfl, h5, h6⟩ := h
  rw [cms_length] at hl
  refine (ref10_Add h2 y hy fy hsz hl (fun h => h6 (hyN q h))).mono ?_
  rintro e w' ⟨rfl, ⟨aq', cq', lq', h', hl', hnb⟩, hc⟩
  have hq : NB q aq lq q := .inl (.inl rfl)
  refine ⟨rfl, ⟨ao, cap, l, aq', cq', lq', h1.turn hc (fun k hk hs => (h5 k hk).1 (by rw [show k = q from hs]; exact hq)), h', h3, hl', fun k hk => ⟨fun hn => ?_, (h5 k hk).2⟩, h6⟩, hy.chg hc (fun b hb hn hs => h6 (by rw [← show b = q from hs]; exact hyN b (.inl ⟨hb, hn⟩))) (fun b hb hn hs => h6 (by rw [← show b = q from hs]; exact hyN b (.inr ⟨hb, hn⟩))), hc.below ?_ (fun k hk hS => ?_)⟩
  · rcases hnb k hn with hn | hn | hn
    · exact (h5 k hk).1 hn
    · have := (h1.rbl hk).2; omega
    · exact (h5 k hk).2 (hyN k hn)
  · have := h1.pb; have := h1.plt; omega
  · have := h2.pb; have e : k = q := hS; omega
theorem Two.findR (h : Two base w p q cs csq room roomq N) (y : CmV) (hy : CmAt w y) (fy : Few y.c) :
    Calls Tryd.prog 21 #[.pointer (some ⟨p, 0, none⟩), y.val] w fun e w' => e = .returned (.int .i64 (idxF (fun x : Cm => cmEq x y.c) cs + 1)) ∧ Below w.heap.size w w' := h.is.find y hy fy
theorem Two.findQ (h : Two base w p q cs csq room roomq N) (y : CmV) (hy : CmAt w y) (fy : Few y.c) :
    Calls Tryd.prog 31 #[.pointer (some ⟨q, 0, none⟩), y.val] w fun e w' => e = .returned (.int .i64 (idxF (fun x : Cm => cmEq x y.c) csq + 1)) ∧ Below w.heap.size w w' := by
  obtain ⟨ao, cap, l, aq, cq, lq, h1, h2, h3, rfl, h5, h6⟩ := h
  rw [← cms_idx]
  exact ref10_Find h2 y hy fy
/-- Both repos anew. -/
theorem Two.new {w w1 w2 : World} {p q : Nat} {room roomq : Int} (h1 : RepoAt w.heap.size w1 p none 0 [] room) (h2 : RefAt w1.heap.size w2 q none 0 [] roomq) (hb1 : Below w.heap.size w w1) (hb2 : Below w1.heap.size w1 w2) : Two w.heap.size w2 p q [] [] room roomq (fun k => k < w.heap.size) := by
  refine ⟨none, 0, [], none, 0, [], h1.same (Chg.of_below0 hb2), ⟨h2.box, ownsRow_base h2.row (fun k hk => by cases hk), by simp, Nat.le_trans hb1.size h2.pb, h2.len, h2.room0, by simp⟩, rfl, rfl, fun k hk => ⟨fun hn => ?_, fun hn => ?_⟩, fun hn => ?_⟩
  · have h3 := (h1.rbl hk).2
    rcases hn with (rfl | hn) | ⟨x, hx, _⟩
    · have := h2.pb; omega
    · cases hn
    · cases hx
  · have := (h1.rbl hk).1; omega
  · have := h2.pb; have := hb1.size; omega
/-- Both copied. -/
theorem Two.copy {w1 w2 : World} {p2 q2 : Nat} {aq ao' : Option Addr} {cq' : Nat} {lq : List CmV} {q : Nat} {r1 r2 : Int} (g : RefAt base w q aq cq' lq roomq) {cq2 : Nat} (hcs : cms lq = cs)
    (h1 : RepoIs w.heap.size w1 p2 cs r1) (hb1 : Below w.heap.size w w1) (h2 : RefAt w1.heap.size w2 q2 ao' cq2 lq r2) (hnb : ∀ k, NB q2 ao' lq k → w1.heap.size ≤ k ∨ ∃ x ∈ lq, YB x k) (hb2 : Below w1.heap.size w1 w2) : Two w.heap.size w2 p2 q2 cs cs r1 r2 (fun k => k < w.heap.size) := by
  obtain ⟨ao, cap, l', h1, e1⟩ := h1
  have hyl : ∀ x ∈ lq, ∀ k, YB x k → k < w.heap.size := fun x hx k hk => g.nlt (.inr ⟨x, hx, hk⟩)
  refine ⟨ao, cap, l', ao', cq2, lq, h1.same (Chg.of_below0 hb2), ⟨h2.box, ownsRow_base h2.row (fun k hk => Nat.le_trans hb1.size (ownsRow_lt h2.row k hk).1), h2.cms, Nat.le_trans hb1.size h2.pb, h2.len, h2.room0, h2.off⟩, e1, hcs, fun k hk => ⟨fun hn => ?_, fun hn => ?_⟩, fun hn => ?_⟩
  · have h3 := h1.rbl hk
    rcases hnb k hn with h | ⟨x, hx, hy⟩
    · omega
    · have := hyl x hx k hy; omega
  · have := (h1.rbl hk).1; omega
  · have := h2.pb; have := hb1.size; omega
theorem Num_ok (w : World) (n : Int) : Calls Tryd.prog 28 #[.int .i64 n] w fun e w' => e = .returned (.int .i64 n) ∧ w' = w := by
  go_enter Tryd.func28, Tryd.ntmps28
  go_wp2_with fail
  go_ret
  exact ⟨rfl, rfl⟩
end Go.Proofs.YtnnkbicaokckbaaDoor
