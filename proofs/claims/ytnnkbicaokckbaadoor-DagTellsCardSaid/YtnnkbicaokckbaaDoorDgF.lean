/- dag.Depth. Conditions: none. -/
import Derived.Test.YtnnkbicaokckbaaDoorDgE
import Derived.Test.YtnnkbicaokckbaaDoorSeqC
import Derived.Laws.OwnMore
namespace Go.Proofs.YtnnkbicaokckbaaDoor
open Go.RowKit Go.Shelf
attribute [local go_sem] Oper.semAt_some

theorem made_one (z : Value) (n : Nat) : (madeCells #[z] n).toList = List.replicate n z := by
  apply List.ext_getElem
  · simp [madeCells]
  · intro i h1 h2
    simp [madeCells, Nat.mod_one]
theorem depth_max {base : Nat} (W : World) (b7 g N cap : Nat) (xs : List Int) (hb : W.heap[b7]? = some (.cells #[.slice (some ⟨g, 0, none⟩) (N + 1) cap] 27 (0, 0))) (ho : W.ownsRow base 3 1 (.slice (some ⟨g, 0, none⟩) (N + 1) cap) (N + 1) (xs.map (Value.int .i64)))
    (d p : Int) (hp : 0 ≤ p ∧ p ≤ (N : Int)) : Calls Tryd.prog 78 #[.int .i64 d, .int .i64 p, .pointer (some ⟨b7, 0, none⟩)] W fun e W' => e = .returned (.int .i64 (max d (xs.getD p.toNat 0))) ∧ W' = W := by
  have hl : xs.length = N + 1 := by have := ho.1; simpa using this
  obtain ⟨k, rfl⟩ : ∃ k : Nat, p = (k : Int) := ⟨p.toNat, by omega⟩
  have hk : k < xs.length := by omega
  have hx : W.cell? ⟨g, k, none⟩ = some (.int .i64 xs[k]) := by
    have := (Rd.of_owns ho).add k (.int .i64 xs[k]) (by rw [List.getElem?_map, List.getElem?_eq_getElem hk]; rfl)
    rw [Addr.add_lit, Nat.zero_add] at this
    exact this
  have hc := cell_of_heap hb 0
  have e : xs.getD (k : Int).toNat 0 = xs[k] := by simp [List.getD_eq_getElem?_getD, hk]
  rw [e]
  have hki : (k : Int) < ((N + 1 : Nat) : Int) := by omega
  clear ho hb e hl
  generalize xs[k] = y at *
  go_enter Tryd.func78, Tryd.ntmps78
  go_wp2_with fail
  go_ret
  exact ⟨rfl, rfl⟩
/-- The row of depths behind m rounds. -/
def dsN (cs : List Cm) (N m : Nat) : List Int := depL cs m ++ List.replicate (N - m) 0
theorem dsN_length (cs : List Cm) {N m : Nat} (h : m ≤ N) : (dsN cs N m).length = N + 1 := by simp [dsN, depL_length]; omega
theorem dsN_get (cs : List Cm) {N m j : Nat} (h : j ≤ m) : (dsN cs N m).getD j 0 = (depL cs m).getD j 0 := by
  rw [dsN, List.getD_eq_getElem?_getD, List.getElem?_append_left (by rw [depL_length]; omega), ← List.getD_eq_getElem?_getD]
theorem dsN_succ (cs : List Cm) {N m : Nat} (h : m < N) : dsN cs N (m + 1) = (dsN cs N m).set (m + 1) (1 + (parN cs ((m : Int) + 1)).foldl (fun d p => max d ((depL cs m).getD p.toNat 0)) 0) := by
  have e : List.replicate (N - m) (0 : Int) = 0 :: List.replicate (N - (m + 1)) 0 := by rw [show N - m = (N - (m + 1)) + 1 by omega]; rfl
  rw [dsN, dsN, e, depL, List.append_assoc, List.set_append_right _ _ (by rw [depL_length]; omega), depL_length, Nat.sub_self]
  rfl
theorem foldl_max_congr (f g : Int → Int) : ∀ (l : List Int) (a : Int), (∀ x ∈ l, f x = g x) → l.foldl (fun d p => max d (f p)) a = l.foldl (fun d p => max d (g p)) a
  | [], _, _ => rfl
  | x :: l, a, h => by
    rw [List.foldl_cons, List.foldl_cons, h x (by simp), foldl_max_congr f g l _ (fun y hy => h y (by simp [hy]))]
theorem foldl_max_le {f : Int → Int} {B : Int} : ∀ (l : List Int) (a : Int), a ≤ B → (∀ x ∈ l, f x ≤ B) → l.foldl (fun d p => max d (f p)) a ≤ B
  | [], _, h, _ => h
  | x :: l, a, h, hx => by
    rw [List.foldl_cons]
    exact foldl_max_le l _ (by have := hx x (by simp); omega) (fun y hy => hx y (by simp [hy]))
theorem foldl_max_ge {f : Int → Int} : ∀ (l : List Int) (a : Int), a ≤ l.foldl (fun d p => max d (f p)) a
  | [], _ => Int.le_refl _
  | x :: l, a => by
    rw [List.foldl_cons]
    exact Int.le_trans (Int.le_max_left _ _) (foldl_max_ge l _)
theorem depL_bd (cs : List Cm) : ∀ (k j : Nat), 0 ≤ (depL cs k).getD j 0 ∧ (depL cs k).getD j 0 ≤ k
  | 0, j => by cases j <;> simp [depL]
  | k + 1, j => by
    by_cases h1 : j ≤ k
    · have h2 := depL_bd cs k j
      have h3 : (depL cs (k + 1)).getD j 0 = (depL cs k).getD j 0 := by rw [depL_get cs (show j ≤ k + 1 by omega), depL_get cs h1]
      omega
    · by_cases h2 : j = k + 1
      · subst h2
        have e : (depL cs (k + 1)).getD (k + 1) 0 = 1 + (parN cs ((k : Int) + 1)).foldl (fun d p => max d ((depL cs k).getD p.toNat 0)) 0 := by
          rw [depL, List.getD_eq_getElem?_getD, List.getElem?_append_right (by rw [depL_length]; omega), depL_length, Nat.sub_self]; rfl
        have h3 := foldl_max_ge (f := fun p => (depL cs k).getD p.toNat 0) (parN cs ((k : Int) + 1)) 0
        have h4 := foldl_max_le (f := fun p => (depL cs k).getD p.toNat 0) (B := (k : Int)) (parN cs ((k : Int) + 1)) 0 (by omega) (fun x _ => (depL_bd cs k x.toNat).2)
        omega
      · have e : (depL cs (k + 1)).getD j 0 = 0 := by
          rw [List.getD_eq_getElem?_getD, List.getElem?_eq_none (by rw [depL_length]; omega)]; rfl
        omega
theorem range_snoc' {pre : List Nat} {x m : Nat} (h : pre ++ [x] <+: List.range m) : x = pre.length ∧ pre.length < m := by
  obtain ⟨t, ht⟩ := h
  have hl := congrArg List.length ht
  simp at hl
  have hx : (List.range m)[pre.length]? = some x := by rw [← ht]; simp
  rw [List.getElem?_range (by omega)] at hx
  exact ⟨(Option.some.inj hx).symm, by omega⟩
/-- Where the rounds stand. -/
structure DpSt (w : World) (cs : List Cm) (N g b7 B2 : Nat) (av : Option Addr) (D : Nat → Prop) (m : Nat) (W : World) : Prop where
  row : W.ownsRow w.heap.size 3 1 (.slice (some ⟨g, 0, none⟩) (N + 1) (N + 1)) (N + 1) ((dsN cs N m).map (Value.int .i64))
  box : W.heap[b7]? = some (.cells #[.slice (some ⟨g, 0, none⟩) (N + 1) (N + 1)] 27 (0, 0))
  rb : W.heap[w.heap.size]? = some (.cells #[.pointer av] 25 (0, 0))
  bel : Below w.heap.size w W
  far : ∀ k, D k → B2 + 2 ≤ k
  big : B2 + 2 ≤ W.heap.size
set_option maxRecDepth 100000 in
set_option maxHeartbeats 8000000 in
theorem dag_Depth (w : World) {v : Value} {cs : List Cm} (hd : DagOk cs) (hg : Gets w v cs) (n : Int) (hn : I64 n) :
    Calls Tryd.prog 44 #[v, .int .i64 n] w fun e w' => e = .returned (.int .i64 (depthN cs n)) ∧ Below w.heap.size w w' := by
  obtain ⟨i0, hi, hz0, hz1, hz2⟩ := info_parts int_slT.info
  have HGW := hide hg
  have hg0 := hg
  obtain ⟨hv, R0, hg⟩ := hg0
  have hc1 := Chg.alloc (fun _ => False) w (.cells #[v] 25)
  have hk1 := heap_alloc_new w (.cells #[v] 25)
  have hsz1 : (w.alloc (.cells #[v] 25)).heap.size = w.heap.size + 1 := World.size_alloc _ _
  generalize hw1 : w.alloc (.cells #[v] 25) = w1 at hc1 hk1 hsz1
  have HW1 := hide hw1
  have hget := hg.2 w1 n (Kpt.of_chg hc1 (fun _ _ _ h => h)) hn
  obtain ⟨c, hc⟩ : ∃ c, c = cmN cs n := ⟨_, rfl⟩
  rw [← hc] at hget
  obtain ⟨av, rfl⟩ := hv
  have HGET := hide hget
  have HD := hide hd
  have HC1 := hide hc1
  have HK1 := hide hk1
  clear hget hc hg hd hw1 hc1 hk1
  refine (callsIn_wide (n := 9)).1 ?_
  refine callsIn_of_wp_marks Tryd.func44 rfl trivial ?_ rfl
  simp only [Tryd.ntmps44, List.size_toArray, List.length_cons, List.length_nil, Nat.reduceAdd, Nat.reduceSub, Array.replicate_succ, Array.replicate_zero, List.push_toArray, List.append_toArray, List.nil_append, List.cons_append]
  refine wpIn_wide.2 ?_
  have q9 := cell_of_heap HK1.out 0
  go_wp2_with (rw [HW1.out])
  refine HGET.out.mono ?_
  rintro e W3 ⟨vp, vt, rfl, hown3, hb3⟩
  have hps : W3.ownsRow _ _ _ vp c.parents.length _ := hown3.ps
  have hts : W3.ownsRow _ _ _ vt c.tree.length _ := hown3.ts
  obtain ⟨aop, cap1, rfl⟩ := ownsRow_shape hps
  obtain ⟨aot, cap2, rfl⟩ := ownsRow_shape hts
  have hc4 := HC1.out.trans ((Chg.of_below0 (S := fun _ => False) hb3).trans (Chg.alloc (fun _ => False) W3 (.cells #[.slice aop c.parents.length cap1, .slice aot c.tree.length cap2, .string c.note] 33)) (S'' := fun _ => False) (fun _ _ h => h) (fun _ _ h => h)) (S'' := fun _ => False) (fun _ _ h => h) (fun _ _ h => h)
  have hk4 := (Chg.alloc (fun _ => False) W3 (.cells #[.slice aop c.parents.length cap1, .slice aot c.tree.length cap2, .string c.note] 33)).heap ((Chg.of_below0 (S := fun _ => False) hb3).heap HK1.out (fun h => h)) (fun h => h)
  simp only [val_eq]
  generalize hw4 : W3.alloc (.cells #[.slice aop c.parents.length cap1, .slice aot c.tree.length cap2, .string c.note] 33) = W4 at hc4 hk4
  have HW4 := hide hw4
  have HC4 := hide hc4
  have HK4 := hide hk4
  have HB4 := hide (hc4.below (Nat.le_refl _) (fun _ _ h => h))
  clear hps hts hown3 hb3 hc4 hw4 hk4 q9
  cases hin : inN cs n with
  | false =>
    have HR := hide (show depthN cs n = 0 by rw [depthN, if_neg (by rw [← inN_iff, hin]; simp)])
    clear hin
    go_wp2_with (rw [HW4.out])
    exact ⟨_, results_tmp rfl _ _ _, by rw [HR.out]; rfl, HB4.out⟩
  | true =>
    have hin' := inN_iff.1 hin
    have HIN := hide hin'
    have hnb : 1 ≤ n ∧ n ≤ 60 := by have := HD.out.len; omega
    obtain ⟨N, rfl⟩ : ∃ N : Nat, n = (N : Int) := ⟨n.toNat, by omega⟩
    have hN : 1 ≤ N ∧ N ≤ 60 := by omega
    have hsz4 : w.heap.size ≤ W4.heap.size := HC4.out.size
    obtain ⟨g, hgg⟩ : ∃ g, g = W4.heap.size := ⟨_, rfl⟩
    clear hin hin' hnb
    go_wp2_with (first | rw [HW4.out] | (at_make; (refine wpList_make_full _ rfl _ _ 27 rfl w.heap.size 3 i0 (.int .i64 0) 1 int_slT.under hi hz0 hz1 _ _ _ _ (N + 1) rfl rfl (by omega) (by omega) (by rw [hz2]; omega) (by unfold maxLen; omega) hsz4 ?_); intro w5 hown hgr; have HO5 := hide hown; have HG5 := hide hgr; clear hown hgr))
    rw [← hgg] at HO5 ⊢
    have hal := Chg.alloc (fun _ => False) w5 (.cells #[.slice (some ⟨g, 0, none⟩) (N + 1) (N + 1)] 27)
    have hb6 := heap_alloc_new w5 (.cells #[.slice (some ⟨g, 0, none⟩) (N + 1) (N + 1)] 27)
    have hgl := (ownsRow_lt HO5.out g rfl)
    have hs6 : (w5.alloc (.cells #[.slice (some ⟨g, 0, none⟩) (N + 1) (N + 1)] 27)).heap.size = w5.heap.size + 1 := World.size_alloc _ _
    generalize hw6 : w5.alloc (.cells #[.slice (some ⟨g, 0, none⟩) (N + 1) (N + 1)] 27) = w6 at hal hb6 hs6 ⊢
    have hc5 : Chg (fun _ => False) W4 w5 := (Chg.grown HG5.out).mono (fun _ _ h => by cases h)
    have hc46 := hc5.trans hal (S'' := fun _ => False) (fun _ _ h => h) (fun _ _ h => h)
    have hrow6 : w6.ownsRow w.heap.size 3 1 (.slice (some ⟨g, 0, none⟩) (N + 1) (N + 1)) (N + 1) ((dsN cs N 0).map (Value.int .i64)) := by
      have e : (dsN cs N 0).map (Value.int .i64) = (madeCells (Value.int .i64 0).cells ((N + 1) * 1)).toList := by
        have e1 : (Value.int .i64 0).cells = #[.int .i64 0] := rfl
        rw [e1, made_one, Nat.mul_one, dsN, depL, Nat.sub_zero]
        simp [List.replicate_succ]
      rw [e]
      exact hal.owns HO5.out (fun _ _ h => h)
    obtain ⟨b7, hb7⟩ : ∃ b7, b7 = w5.heap.size := ⟨_, rfl⟩
    rw [← hb7] at hb6 ⊢
    have HST := hide (And.intro hrow6 (And.intro hb6 (hc46.heap HK4.out (fun h => h))))
    have HC6 := hide (HC4.out.trans hc46 (S'' := fun _ => False) (fun _ _ h => h) (fun _ _ h => h))
    have hlt : w.heap.size < g ∧ g < b7 ∧ w6.heap.size = b7 + 1 := by
      have h1 := (Array.getElem?_eq_some_iff.1 HK4.out).1
      omega
    clear hal hb6 hs6 hc5 hc46 hrow6 hgl hw6 hb7 hgg HO5 HG5 hi hz0 hz1 hz2
    refine (seq_Count w6 1 ((N : Int) + 1)).mono ?_
    rintro e w7 ⟨rfl, hq1, hq2, hz7, hb8⟩
    rw [hlt.2.2] at hq1 hq2 hz7 ⊢
    have hc67 := Chg.of_below0 (S := fun _ => False) hb8
    obtain ⟨g1, g2, g3⟩ := HST.out
    have HST7 := hide (And.intro (hc67.owns g1 (fun _ _ h => h)) (And.intro (hc67.heap g2 (fun h => h)) (hc67.heap g3 (fun h => h))))
    have HC7 := hide (HC6.out.trans hc67 (S'' := fun _ => False) (fun _ _ h => h) (fun _ _ h => h))
    have HCS := hide (count_seqd (b7 + 1) (b7 + 1 + 1) 1 ((N : Int) + 1) N w7 (by omega) (by omega) (by omega) hq1 hq2)
    clear hq1 hq2 hb8 hc67 g1 g2 g3 HST HC6
    go_wp2_with fail
    refine (wpIn_wide (n := 9)).1 ?_
    refine wpIn_range_plain (α := Nat) rfl (by omega) (gf := 105) (lb := #[.pointer (some ⟨b7 + 1, 0, none⟩), .pointer (some ⟨b7 + 1 + 1, 0, none⟩)]) rfl trivial (enters_of Tryd.func105 (by kernel_rfl) rfl)
      HCS.out (Kpt.refl _ _) (fun k hk => by omega) (fun _ => rfl) (fun x t => t.setIfInBounds 8 (.int .i64 (1 + (x : Int))))
      (fun D pre Wr => DpSt w cs N g b7 w7.heap.size av D pre.length Wr) (fun _ _ _ _ => False) ?hI ?hIx ?h0 ?assign ?body ?done ?stop
    case hI =>
      rintro D s A A' S ⟨h1, h2, h3, h4, h5, h6⟩ hc hS
      have hno : ∀ k, k < w7.heap.size → ¬ S k := fun k hk h => by
        rcases hS k (by omega) h with h | h
        · have := h5 k h; omega
        · omega
      refine ⟨hc.owns h1 (fun b hb => by cases hb; exact hno _ (show g < w7.heap.size by omega)), hc.heap h2 (hno _ (by omega)), hc.heap h3 (hno _ (by omega)), h4.trans (hc.below h4.size (fun k hk => hno k (by omega))), fun k hk => ?_, Nat.le_trans h6 hc.size⟩
      rcases hk with h | h
      · exact h5 k h
      · omega
    case hIx => exact fun c D s A A' S h _ _ => h.elim
    case h0 =>
      intro W' hc' hz'
      obtain ⟨g1, g2, g3⟩ := HST7.out
      exact ⟨hc'.owns g1 (fun _ _ h => h), hc'.heap g2 (fun h => h), hc'.heap g3 (fun h => h), (HC7.out.trans hc' (S'' := fun _ => False) (fun _ _ h => h) (fun _ _ h => h)).below (Nat.le_refl _) (fun _ _ h => h), fun _ h => h.elim, by omega⟩
    case assign =>
      intro lr x W1 K hK
      simp only [told_one] at hK ⊢
      gi_wp2
      exact hK
    case body =>
      rintro lr D pre x W1 hlr hst hpre hnd hnd1 hnc hnc1
      obtain ⟨hxp, hxm⟩ := range_snoc' hpre
      obtain ⟨m, hm⟩ : ∃ m, m = pre.length := ⟨_, rfl⟩
      rw [← hm] at hst hxp hxm
      subst hxp
      have e1 : (1 : Int) + (x : Int) = (x : Int) + 1 := by omega
      have hlen : (pre ++ [x]).length = x + 1 := by simp [← hm]
      simp only [told_one, e1]
      have HLEN := hide hlen
      have qb := cell_of_heap hst.box 0
      have qr := cell_of_heap hst.rb 0
      have hxi : I64 ((x : Int) + 1) := ⟨by omega, by omega⟩
      have HG1 := hide (HGW.out.chg (Chg.of_below0 (S := fun _ => False) hst.bel))
      have HST1 := hide hst
      have hfew := HD.out.few ((x : Int) + 1)
      have HPA := hide (fun Wx (hc : Chg (fun _ => False) W1 Wx) => dag_Parents Wx (HG1.out.chg hc) ((x : Int) + 1) hxi (by omega))
      obtain ⟨F, hF⟩ : ∃ F : Int → Int → Int, F = fun d p => max d ((dsN cs N x).getD p.toNat 0) := ⟨_, rfl⟩
      obtain ⟨f, hf⟩ : ∃ f : Int, f = (parN cs ((x : Int) + 1)).foldl F 0 := ⟨_, rfl⟩
      have hfd : f = (parN cs ((x : Int) + 1)).foldl (fun d p => max d ((depL cs x).getD p.toNat 0)) 0 := by
        rw [hf, hF]
        exact foldl_max_congr _ _ _ _ (fun p hp => dsN_get cs (by have := HD.out.par _ p hp; omega))
      have hfb : 0 ≤ f ∧ f ≤ (x : Int) := by
        rw [hfd]
        exact ⟨foldl_max_ge (f := fun p => (depL cs x).getD p.toNat 0) _ _, foldl_max_le (f := fun p => (depL cs x).getD p.toNat 0) _ _ (by omega) (fun p _ => (depL_bd cs x p.toNat).2)⟩
      have hw1 : IntKind.i64.wrap (1 + f) = 1 + f := IntWalk.i64_in _ (by omega)
      have hw2 : IntKind.i64.wrap ((x : Int) + 1) = (x : Int) + 1 := IntWalk.i64_in _ (by omega)
      have hidx : (x : Int) + 1 < ((N + 1 : Nat) : Int) := by omega
      have hwn : ((x : Int) + 1).toNat = x + 1 := by omega
      have hx0 : (0 : Int) ≤ (x : Int) + 1 := by omega
      have HFD := hide hfd
      have HFF := hide hf
      have HFE := hide hF
      have HEF := hide (enters_of Tryd.func78 (by kernel_rfl) rfl)
      have HFO : Hid (∀ (Wy : World) (pr : List Int) (p : Int), Chg (fun _ => False) W1 Wy → pr ++ [p] <+: parN cs ((x : Int) + 1) → Calls Tryd.prog 78 (#[.int .i64 (pr.foldl F 0), .int .i64 p] ++ #[.pointer (some ⟨b7, 0, none⟩)]) Wy fun e W' => e = .returned (.int .i64 (F (pr.foldl F 0) p)) ∧ W' = Wy) := hide (fun Wy pr p hcy hpp => by
        have hpm : p ∈ parN cs ((x : Int) + 1) := hpp.subset (by simp)
        have hpr := HD.out.par _ p hpm
        have := depth_max Wy b7 g N (N + 1) (dsN cs N x) (hcy.heap HST1.out.box (fun h => h)) (hcy.owns HST1.out.row (fun _ _ h => h)) (pr.foldl F 0) p (by omega)
        rw [hF] at this ⊢
        exact this)
      clear hst hfew hpre hnd hnd1 hnc hnc1 hm hlen hfd hf hF hxi hlr
      gi_wp2_with fail
      refine reg_start_in (Chg (fun _ => False) W1) 10 9 (by rfl) (by kernel_rfl) (by kernel_rfl) (by rintro ⟨_, _, h⟩; exact h) (Chg.drew _ _) ?_
      intro hS0
      have hSc := hS0
      refine reg_take (i := 0) (v := ?g2v) rfl (by kernel_rfl) (by kernel_rfl) (by kernel_rfl) (by kernel_rfl) (fun _ _ _ h => h) (by rfl) ?g2y (by assumption) ?g2r
      case g2y => (intro W hS; have f0 := hS.cell qb (fun h => h); have f1 := hS.cell qr (fun h => h); first | (go_simp; done) | (go_simp; with_reducible rfl))
      simp only [Act.put, List.setIfInBounds_toArray, List.set_cons_zero, List.set_cons_succ]
      refine reg_take (i := 1) (v := ?g3v) rfl (by kernel_rfl) (by kernel_rfl) (by kernel_rfl) (by kernel_rfl) (fun _ _ _ h => h) (by rfl) ?g3y (by assumption) ?g3r
      case g3y => (intro W hS; first | (go_simp; done) | (go_simp; with_reducible rfl))
      simp only [Act.put, List.setIfInBounds_toArray, List.set_cons_zero, List.set_cons_succ]
      refine reg_take (i := 2) (v := ?g4v) rfl (by kernel_rfl) (by kernel_rfl) (by kernel_rfl) (by kernel_rfl) (fun _ _ _ h => h) (by rfl) ?g4y (by assumption) ?g4r
      case g4y => (intro W hS; have f0 := hS.cell qb (fun h => h); have f1 := hS.cell qr (fun h => h); first | (go_simp; done) | (go_simp; with_reducible rfl))
      simp only [Act.put, List.setIfInBounds_toArray, List.set_cons_zero, List.set_cons_succ]
      refine reg_take (i := 3) (v := ?g5v) rfl (by kernel_rfl) (by kernel_rfl) (by kernel_rfl) (by kernel_rfl) (fun _ _ _ h => h) (by rfl) ?g5y (by assumption) ?g5r
      case g5y => (intro W hS; first | (go_simp; done) | (go_simp; with_reducible rfl))
      simp only [Act.put, List.setIfInBounds_toArray, List.set_cons_zero, List.set_cons_succ]
      refine reg_take (i := 5) (v := .func (.func 78) #[] #[.pointer (some ⟨b7, 0, none⟩)]) rfl (by kernel_rfl) (by kernel_rfl) (by kernel_rfl) (by kernel_rfl) (fun _ _ _ h => h) (by rfl) (fun W hS => by go_simp) (by assumption) ?_
      simp only [Act.put, List.setIfInBounds_toArray, List.set_cons_zero, List.set_cons_succ]
      refine reg_one (i := 4) (by kernel_rfl) ?_
      refine op_call (i := 4) (#[.pointer av, .int .i64 ((x : Int) + 1)]) rfl (by rfl) (enters_of Tryd.func39 (by kernel_rfl) rfl) (by first | (simp [Act.eval]; done) | rfl | (simp only [List.map_toArray, List.map_cons, List.map_nil, Act.eval]; rfl) | (simp [Act.eval]; trace_state; done)) ?_
      refine (HPA.out _ hSc).mono ?_
      rintro e W2 ⟨gv, rfl, ⟨gf, lb, R, rfl, eg, hs, hR⟩, hb2⟩
      have hSc := hSc.trans (Chg.of_below0 (S := fun _ => False) hb2) (S'' := fun _ => False) (fun _ _ h => h) (fun _ _ h => h)
      have HEG := hide eg
      have HSQ := hide hs
      have HRL := hide hR
      clear hb2 eg hs hR
      refine ⟨_, rfl, hSc, ?_⟩
      simp only [Act.put, List.setIfInBounds_toArray, List.set_cons_zero, List.set_cons_succ]
      refine reg_one (i := 6) (by kernel_rfl) ?_
      refine op_call (i := 6) (#[.func (.func gf) #[] lb, .int .i64 0, .func (.func 78) #[] #[.pointer (some ⟨b7, 0, none⟩)]]) rfl (by rfl) (enters_of Tryd.func77 (by kernel_rfl) rfl) (by first | (simp [Act.eval]; done) | rfl | (simp only [List.map_toArray, List.map_cons, List.map_nil, Act.eval]; rfl) | (simp [Act.eval]; trace_state; done)) ?_
      refine (fold_ok W2 gf lb R (parN cs ((x : Int) + 1)) HEG.out HSQ.out HRL.out 0 78 #[.pointer (some ⟨b7, 0, none⟩)] HEF.out F (fun Wy pr p hby hpp => HFO.out Wy pr p (hSc.trans (Chg.of_below0 (S := fun _ => False) hby) (S'' := fun _ => False) (fun _ _ h => h) (fun _ _ h => h)) hpp)).mono ?_
      rintro e W5 ⟨rfl, hb5⟩
      rw [← HFF.out]
      have hSc := hSc.trans (Chg.of_below0 (S := fun _ => False) hb5) (S'' := fun _ => False) (fun _ _ h => h) (fun _ _ h => h)
      have hrow5 := hSc.owns HST1.out.row (fun _ _ h => h)
      have HRW5 := hide hrow5
      obtain ⟨hh1, hh2⟩ := hrow5
      rcases hh2 with ⟨e, _⟩ | ⟨g', cap', cur, e, hbg, hg5, hnc, hcm, hcs, ht⟩
      · cases e
      cases e
      obtain ⟨uu, fu⟩ := cell_some hg5 (x + 1) (by omega)
      have eu := free_of_heap hg5 (x + 1)
      clear hb5 hh1 hbg hg5 hnc hcm hcs ht
      refine ⟨_, rfl, hSc, ?_⟩
      simp only [Act.put, List.setIfInBounds_toArray, List.set_cons_zero, List.set_cons_succ]
      refine reg_take (i := 7) (v := ?g6v) rfl (by kernel_rfl) (by kernel_rfl) (by kernel_rfl) (by kernel_rfl) (fun _ _ _ h => h) (by rfl) ?g6y (by assumption) ?g6r
      case g6y => (intro W hS; first | (go_simp; done) | (go_simp; with_reducible rfl))
      simp only [Act.put, List.setIfInBounds_toArray, List.set_cons_zero, List.set_cons_succ]
      refine reg_take (i := 8) (v := ?g7v) rfl (by kernel_rfl) (by kernel_rfl) (by kernel_rfl) (by kernel_rfl) (fun _ _ _ h => h) (by rfl) ?g7y (by assumption) ?g7r
      case g7y => (intro W hS; first | (go_simp; done) | (go_simp; with_reducible rfl))
      simp only [Act.put, List.setIfInBounds_toArray, List.set_cons_zero, List.set_cons_succ]
      refine reg_late (i := 9) (by kernel_rfl) (by decide) ?_
      refine op_store (i := 9) rfl (by rfl) (w' := W5.setCell ⟨g, x + 1, none⟩ (.int .i64 (1 + f))) (by go_simp) ?_
      simp only [Act.put]
      refine wpAnyG_done (by kernel_rfl) ?_ _
      have hc5 := hSc.trans (Chg.setCell W5 ⟨g, x + 1, none⟩ (.int .i64 (1 + f))) (S'' := fun k => k = g) (fun _ _ h => h.elim) (fun _ _ h => h)
      have hst5 := HRW5.out.stored (x + 1) (.int .i64 (1 + f))
      have HC5 := hide hc5
      have HST5 := hide hst5.1
      clear hS0 hSc hc5 hst5 fu eu qb qr
      generalize W5.setCell ⟨g, x + 1, none⟩ (.int .i64 (1 + f)) = W6 at HC5 HST5 ⊢
      gi_wp2_with fail
      obtain ⟨h1, h2, h3, h4, h5, h6⟩ := HST1.out
      refine ⟨Kpt.of_chg HC5.out (fun k _ hr e => ?_), ⟨?_, HC5.out.heap h2 (fun e => by have e' : b7 = g := e; omega), HC5.out.heap h3 (fun e => by have e' : w.heap.size = g := e; omega), h4.trans (HC5.out.below h4.size (fun k hk e => by have e' : k = g := e; omega)), fun k hk => by have := h5 k hk; omega, by have := HC5.out.size; omega⟩⟩
      · have e' : k = g := e
        rcases hr with h | h | h | h
        · omega
        · have := h5 k h; omega
        · omega
        · omega
      · rw [HLEN.out, dsN_succ cs (by omega), ← HFD.out, List.map_set]
        exact HST5.out
    case stop => exact fun _ _ _ _ _ h => h.elim
    case done =>
      rintro D Wd ⟨h1, h2, h3, h4, h5, h6⟩ hdef hnd
      rw [List.length_range] at h1
      have hl : (dsN cs N N).length = N + 1 := dsN_length cs (Nat.le_refl _)
      have hx : Wd.cell? ⟨g, N, none⟩ = some (.int .i64 ((dsN cs N N).getD N 0)) := by
        have := (Rd.of_owns h1).add N (.int .i64 ((dsN cs N N).getD N 0)) (by rw [List.getElem?_map, List.getElem?_eq_getElem (by omega)]; simp [List.getD_eq_getElem?_getD, hl])
        rw [Addr.add_lit, Nat.zero_add] at this
        exact this
      have hR : (dsN cs N N).getD N 0 = depthN cs N := by
        rw [dsN_get cs (Nat.le_refl _), depthN, if_pos HIN.out]
        rfl
      rw [hR] at hx
      have qb := cell_of_heap h2 0
      have hwn : IntKind.i64.wrap (N : Int) = N := IntWalk.i64_in _ (by omega)
      have hix : (N : Int) < ((N + 1 : Nat) : Int) := by omega
      have H4 := hide h4
      clear h1 h2 h3 h4 h5 h6 hl hR hnd
      go_wp2_with fail
      refine ⟨by simp, .inl ⟨_, _, rfl, run_takeDeferred hdef, ?_⟩⟩
      have hp := chg_putObj Wd w7.heap.size (.deferred none)
      exact ⟨_, results_tmp rfl _ _ _, rfl, H4.out.trans (hp.below H4.out.size (fun k hk e => by omega))⟩
end Go.Proofs.YtnnkbicaokckbaaDoor
