/- bytes.Equal: what it answers. Conditions: the slices read as said. -/
import Derived.Test.YtjmmmpnpkialjaaDoorCodeR
namespace Go.Proofs.YtjmmmpnpkialjaaDoor
open Go.RowKit

/-- 'string(b)'. -/
theorem conv_rd (w : World) (v : Value) (b : List UInt8) (hb : Rd w v b.length (u8s b)) : (convert 30 9 v).run Tryd.prog w = .ok (.string ⟨b.toArray⟩) w := by
  obtain ⟨ao, c, rfl, hc, h0⟩ := hb.shape
  by_cases hn : b.length = 0
  · have e : b = [] := List.eq_nil_of_length_eq_zero hn
    subst e
    exact conv_zero w 30 5 9 Tryd.underlying30 Tryd.underlying5 Tryd.underlying9 ao c
  · obtain ⟨blk, off, rfl, hcs⟩ := h0 (by omega)
    exact run_convert_bytes_back (P := Tryd.prog) w 30 9 5 ⟨blk, off, none⟩ c b Tryd.underlying30 Tryd.underlying5 Tryd.underlying9 (by
      intro j hj
      rw [Addr.add_lit]
      exact hcs j _ (u8s_getElem? b j hj))
theorem bytes_Equal (w : World) (va vb : Value) (a b : List UInt8) (ha : Rd w va a.length (u8s a)) (hb : Rd w vb b.length (u8s b)) :
    Calls Tryd.prog 56 #[va, vb] w fun e w' => e = .returned (.bool (a == b)) ∧ w' = w := by
  have c1 := conv_rd w va a ha
  have c2 := conv_rd w vb b hb
  obtain ⟨aa, ca, rfl, -, -⟩ := ha.shape
  obtain ⟨ab, cb, rfl, -, -⟩ := hb.shape
  clear ha hb
  go_enter Tryd.func56, Tryd.ntmps56
  go_wp2_with fail
  go_ret
  exact ⟨rfl, rfl⟩
end Go.Proofs.YtjmmmpnpkialjaaDoor
