/- request.Same, the document's, the law's. Conditions: none. -/
import Derived.Test.YtjmmmpnpkialjaaDoorReqB
import Derived.Test.YtjmmmpnpkialjaaDoorRfC
namespace Go.Proofs.YtjmmmpnpkialjaaDoor
open Go.RowKit Go.Shelf
attribute [local go_sem] Oper.semAt_some

def rqEq (a b : Rq) : Bool := (a.kind == b.kind) && (a.id == b.id) && (a.number == b.number) && (a.lane == b.lane) && (a.pass == b.pass) && cmEq a.c b.c
theorem rqEq_iff (a b : Rq) : rqEq a b = true ↔ a = b := by
  obtain ⟨k, i, n, l, p, c⟩ := a
  obtain ⟨k', i', n', l', p', c'⟩ := b
  simp only [rqEq, Bool.and_eq_true, beq_iff_eq, cmEq_iff, Rq.mk.injEq]
  simp [and_assoc]
theorem rqEq_refl (a : Rq) : rqEq a a = true := (rqEq_iff a a).2 rfl

set_option maxHeartbeats 4000000 in
set_option maxRecDepth 100000 in
/-- Whether two requests are alike. -/
theorem ref17_Same (w : World) (p q : RqV) (hp : CmAt w p.x) (hq : CmAt w q.x) (fp : Few p.x.c) (fq : Few q.x.c) :
    Calls Tryd.prog 19 #[p.val, q.val] w fun e w' => e = .returned (.bool (rqEq p.r q.r)) ∧ Below w.heap.size w w' := by
  obtain ⟨k, i, n, l, ps, x⟩ := p
  obtain ⟨k', i', n', l', ps', x'⟩ := q
  unfold RqV.val
  obtain ⟨r, hr⟩ : ∃ r, r = rqEq ⟨k, i, n, l, ps, x.c⟩ ⟨k', i', n', l', ps', x'.c⟩ := ⟨_, rfl⟩
  show Calls _ _ _ _ fun e w' => e = .returned (.bool (rqEq ⟨k, i, n, l, ps, x.c⟩ ⟨k', i', n', l', ps', x'.c⟩)) ∧ _
  rw [← hr]
  replace hr : r = ((k == k') && (i == i') && (n == n') && (l == l') && (ps == ps') && cmEq x.c x'.c) := hr
  have HR := hide hr
  simp only at hp hq fp fq
  have HS := fun W (hW : Below w.heap.size w W) => hide (ref10_Same W x x' (hp.same (Chg.of_below0 hW)) (hq.same (Chg.of_below0 hW)) fp fq)
  generalize cmEq x.c x'.c = z at HR HS
  obtain ⟨⟨xps, xts, xn⟩, xp, xt⟩ := x
  obtain ⟨⟨yps, yts, yn⟩, yp, yt⟩ := x'
  unfold CmV.val at HS
  simp only at HS
  have HB := hide (((Below.refl w.heap.size w).alloc (Nat.le_refl _) (.cells #[.int .i64 k, .int .i64 i, .int .i64 n, .int .i64 l, .bool ps, xp, xt, .string xn] 27)).alloc (by simp) (.cells #[.int .i64 k', .int .i64 i', .int .i64 n', .int .i64 l', .bool ps', yp, yt, .string yn] 27))
  clear hp hq fp fq hr
  cases h0 : (k == k') with
  | false =>
    go_enter Tryd.func19, Tryd.ntmps19
    go_wp2_with fail
    go_ret
    exact ⟨ret_bool (by rw [HR.out, h0]; rfl), HB.out⟩
  | true =>
  cases h1 : (i == i') with
  | false =>
    go_enter Tryd.func19, Tryd.ntmps19
    go_wp2_with fail
    go_ret
    exact ⟨ret_bool (by rw [HR.out, h0, h1]; rfl), HB.out⟩
  | true =>
  cases h2 : (n == n') with
  | false =>
    go_enter Tryd.func19, Tryd.ntmps19
    go_wp2_with fail
    go_ret
    exact ⟨ret_bool (by rw [HR.out, h0, h1, h2]; rfl), HB.out⟩
  | true =>
  cases h3 : (l == l') with
  | false =>
    go_enter Tryd.func19, Tryd.ntmps19
    go_wp2_with fail
    go_ret
    exact ⟨ret_bool (by rw [HR.out, h0, h1, h2, h3]; rfl), HB.out⟩
  | true =>
  cases h4 : (ps == ps') with
  | false =>
    go_enter Tryd.func19, Tryd.ntmps19
    go_wp2_with fail
    go_ret
    exact ⟨ret_bool (by rw [HR.out, h0, h1, h2, h3, h4]; rfl), HB.out⟩
  | true =>
  have HR : Hid (r = z) := hide (by rw [HR.out, h0, h1, h2, h3, h4]; rfl)
  go_enter Tryd.func19, Tryd.ntmps19
  go_wp2_with fail
  refine (HS _ HB.out).out.mono ?_
  rintro e W3 ⟨rfl, hb⟩
  have HB := hide (HB.out.trans (hb.mono HB.out.size))
  clear hb
  go_wp2_with fail
  go_ret
  exact ⟨ret_bool HR.out.symm, HB.out⟩
set_option maxHeartbeats 4000000 in
set_option maxRecDepth 100000 in
/-- Whether two requests are alike. -/
theorem law_SameRequest (w : World) (p q : RqV) (hp : CmAt w p.x) (hq : CmAt w q.x) (fp : Few p.x.c) (fq : Few q.x.c) :
    Calls Tryd.prog 24 #[p.val, q.val] w fun e w' => e = .returned (.bool (rqEq p.r q.r)) ∧ Below w.heap.size w w' := by
  obtain ⟨k, i, n, l, ps, x⟩ := p
  obtain ⟨k', i', n', l', ps', x'⟩ := q
  unfold RqV.val
  obtain ⟨r, hr⟩ : ∃ r, r = rqEq ⟨k, i, n, l, ps, x.c⟩ ⟨k', i', n', l', ps', x'.c⟩ := ⟨_, rfl⟩
  show Calls _ _ _ _ fun e w' => e = .returned (.bool (rqEq ⟨k, i, n, l, ps, x.c⟩ ⟨k', i', n', l', ps', x'.c⟩)) ∧ _
  rw [← hr]
  replace hr : r = ((k == k') && (i == i') && (n == n') && (l == l') && (ps == ps') && cmEq x.c x'.c) := hr
  have HR := hide hr
  simp only at hp hq fp fq
  have HS := fun W (hW : Below w.heap.size w W) => hide (law_SameCommit W x x' (hp.same (Chg.of_below0 hW)) (hq.same (Chg.of_below0 hW)) fp fq)
  generalize cmEq x.c x'.c = z at HR HS
  obtain ⟨⟨xps, xts, xn⟩, xp, xt⟩ := x
  obtain ⟨⟨yps, yts, yn⟩, yp, yt⟩ := x'
  unfold CmV.val at HS
  simp only at HS
  have HB := hide (((Below.refl w.heap.size w).alloc (Nat.le_refl _) (.cells #[.int .i64 k, .int .i64 i, .int .i64 n, .int .i64 l, .bool ps, xp, xt, .string xn] 27)).alloc (by simp) (.cells #[.int .i64 k', .int .i64 i', .int .i64 n', .int .i64 l', .bool ps', yp, yt, .string yn] 27))
  clear hp hq fp fq hr
  cases h0 : (k == k') with
  | false =>
    go_enter Tryd.func24, Tryd.ntmps24
    go_wp2_with fail
    go_ret
    exact ⟨ret_bool (by rw [HR.out, h0]; rfl), HB.out⟩
  | true =>
  cases h1 : (i == i') with
  | false =>
    go_enter Tryd.func24, Tryd.ntmps24
    go_wp2_with fail
    go_ret
    exact ⟨ret_bool (by rw [HR.out, h0, h1]; rfl), HB.out⟩
  | true =>
  cases h2 : (n == n') with
  | false =>
    go_enter Tryd.func24, Tryd.ntmps24
    go_wp2_with fail
    go_ret
    exact ⟨ret_bool (by rw [HR.out, h0, h1, h2]; rfl), HB.out⟩
  | true =>
  cases h3 : (l == l') with
  | false =>
    go_enter Tryd.func24, Tryd.ntmps24
    go_wp2_with fail
    go_ret
    exact ⟨ret_bool (by rw [HR.out, h0, h1, h2, h3]; rfl), HB.out⟩
  | true =>
  cases h4 : (ps == ps') with
  | false =>
    go_enter Tryd.func24, Tryd.ntmps24
    go_wp2_with fail
    go_ret
    exact ⟨ret_bool (by rw [HR.out, h0, h1, h2, h3, h4]; rfl), HB.out⟩
  | true =>
  have HR : Hid (r = z) := hide (by rw [HR.out, h0, h1, h2, h3, h4]; rfl)
  go_enter Tryd.func24, Tryd.ntmps24
  go_wp2_with fail
  refine (HS _ HB.out).out.mono ?_
  rintro e W3 ⟨rfl, hb⟩
  have HB := hide (HB.out.trans (hb.mono HB.out.size))
  clear hb
  go_wp2_with fail
  go_ret
  exact ⟨ret_bool HR.out.symm, HB.out⟩

set_option maxHeartbeats 4000000 in
set_option maxRecDepth 100000 in
theorem request_Same (w : World) (p q : RqV) (hp : CmAt w p.x) (hq : CmAt w q.x) (fp : Few p.x.c) (fq : Few q.x.c) :
    Calls Tryd.prog 18 #[p.val, q.val] w fun e w' => e = .returned (.bool (rqEq p.r q.r)) ∧ Below w.heap.size w w' := by
  obtain ⟨k, i, n, l, ps, x⟩ := p
  obtain ⟨k', i', n', l', ps', x'⟩ := q
  unfold RqV.val
  obtain ⟨r, hr⟩ : ∃ r, r = rqEq ⟨k, i, n, l, ps, x.c⟩ ⟨k', i', n', l', ps', x'.c⟩ := ⟨_, rfl⟩
  show Calls _ _ _ _ fun e w' => e = .returned (.bool (rqEq ⟨k, i, n, l, ps, x.c⟩ ⟨k', i', n', l', ps', x'.c⟩)) ∧ _
  rw [← hr]
  obtain ⟨⟨xps, xts, xn⟩, xp, xt⟩ := x
  obtain ⟨⟨yps, yts, yn⟩, yp, yt⟩ := x'
  replace hr : r = ((k == k') && (i == i') && (n == n') && (l == l') && (ps == ps') && (eqv intEq xps yps && eqv flEq xts yts && (xn.toList == yn.toList))) := hr
  have HR := hide hr
  simp only at hp hq fp fq
  have h1 : xps.length ≤ 1000000 := fp.1
  have h2 : xts.length ≤ 1000000 := fp.2
  have h3 : yps.length ≤ 1000000 := fq.1
  have h4 : yts.length ≤ 1000000 := fq.2
  have HPC := fun W (hW : Below w.heap.size w W) => hide (int_equal W xp yp xps yps (hp.same (Chg.of_below0 hW)).ps (hq.same (Chg.of_below0 hW)).ps (by omega) (by omega))
  have HTC := fun W (hW : Below w.heap.size w W) => hide (tree_Same W xt yt xts yts (hp.same (Chg.of_below0 hW)).ts (hq.same (Chg.of_below0 hW)).ts (by omega) (by omega))
  have HB := hide (((Below.refl w.heap.size w).alloc (Nat.le_refl _) (.cells #[.int .i64 k, .int .i64 i, .int .i64 n, .int .i64 l, .bool ps, xp, xt, .string xn] 27)).alloc (by simp) (.cells #[.int .i64 k', .int .i64 i', .int .i64 n', .int .i64 l', .bool ps', yp, yt, .string yn] 27))
  clear hp hq fp fq hr h1 h2 h3 h4
  simp only
  generalize eqv intEq xps yps = q1 at HR HPC
  generalize eqv flEq xts yts = q2 at HR HTC
  go_enter Tryd.func18, Tryd.ntmps18
  go_wp2_with fail
  refine (HPC _ HB.out).out.mono ?_
  rintro e W3 ⟨rfl, n3, rfl⟩
  have HB := hide (bdrewN HB.out n3)
  cases q1 with
  | false =>
    go_wp2_with fail
    go_ret
    exact ⟨ret_bool (by rw [HR.out]; simp), HB.out⟩
  | true =>
  go_wp2_with fail
  refine (HTC _ HB.out).out.mono ?_
  rintro e W4 ⟨rfl, n4, rfl⟩
  have HB := hide (bdrewN HB.out n4)
  cases q2 with
  | false =>
    go_wp2_with fail
    go_ret
    exact ⟨ret_bool (by rw [HR.out]; simp), by simpa using HB.out⟩
  | true =>
  cases h0 : (xn.toList == yn.toList) with
  | false =>
    go_wp2_with fail
    go_ret
    exact ⟨ret_bool (by rw [HR.out, h0]; simp), by simpa using HB.out⟩
  | true =>
  have HR : Hid (r = ((k == k') && (i == i') && (n == n') && (l == l') && (ps == ps'))) := hide (by rw [HR.out, h0]; simp)
  cases h1 : (k == k') with
  | false =>
    go_wp2_with fail
    go_ret
    exact ⟨ret_bool (by rw [HR.out, h1]; simp), by simpa using HB.out⟩
  | true =>
  cases h2 : (i == i') with
  | false =>
    go_wp2_with fail
    go_ret
    exact ⟨ret_bool (by rw [HR.out, h2]; simp), by simpa using HB.out⟩
  | true =>
  cases h3 : (n == n') with
  | false =>
    go_wp2_with fail
    go_ret
    exact ⟨ret_bool (by rw [HR.out, h3]; simp), by simpa using HB.out⟩
  | true =>
  cases h4 : (l == l') with
  | false =>
    go_wp2_with fail
    go_ret
    exact ⟨ret_bool (by rw [HR.out, h4]; simp), by simpa using HB.out⟩
  | true =>
  have HR : Hid (r = (ps == ps')) := hide (by rw [HR.out, h1, h2, h3, h4]; rfl)
  go_wp2_with fail
  go_ret
  exact ⟨ret_bool HR.out.symm, by simpa using HB.out⟩
end Go.Proofs.YtjmmmpnpkialjaaDoor
