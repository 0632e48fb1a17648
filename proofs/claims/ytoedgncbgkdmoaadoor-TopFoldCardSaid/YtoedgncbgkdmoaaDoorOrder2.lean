/- Contracts of package order: Behind, Less, With. Conditions: each contract's own premises. -/
import Derived.Test.YtoedgncbgkdmoaaDoorOrder
namespace Go.Proofs.YtoedgncbgkdmoaaDoor
open Go.RowKit

theorem behind_err (l : List Int) (v : Value) (w : World) (hr : Ints w w.heap.size v l) (hne : orderCode l ≠ 0) :
    Calls Tryd.prog 43 #[v] w fun e w' => e = .returned (.tuple #[.slice none 0 0, .iface 43 (nv (orderCode l))]) ∧ Below w.heap.size w w' := by
  have hchk := Lib.hid (check_err l v w hr hne)
  clear hne hr
  go_enter Tryd.func43, Tryd.ntmps43
  go_wp2_with fail
  refine hchk.out.mono ?_
  rintro e w1 ⟨rfl, hb1⟩
  clear hchk
  go_wp2_with fail
  go_ret2
  exact ⟨rfl, hb1⟩
theorem behind_ok (m : List Nat) (v : Value) (w : World) (hr : Ints w w.heap.size v (zs m)) (hv : Odr.Valid m) :
    Calls Tryd.prog 43 #[v] w fun e w' => ∃ v', e = .returned (.tuple #[v', .nilIface]) ∧ Own w' w.heap.size v' (zs (Odr.closed m)) ∧ Below w.heap.size w w' := by
  have hchk := Lib.hid (check_valid m v w hr hv)
  go_enter Tryd.func43, Tryd.ntmps43
  go_wp2_with fail
  refine hchk.out.mono ?_
  rintro e w1 ⟨rfl, hb1⟩
  have hcl := Lib.hid (closed_calls m v w1.heap.size w1 ((Rd.below hr hb1).more hb1.size) hv.few hv.fits)
  clear hchk hr hv
  go_wp2_with fail
  refine hcl.out.mono ?_
  rintro e w2 ⟨v2, rfl, hown, hb2⟩
  clear hcl
  go_wp2_with fail
  go_ret2
  exact ⟨v2, rfl, hown.lower hb1.size, hb1.trans (hb2.mono hb1.size)⟩
end Go.Proofs.YtoedgncbgkdmoaaDoor
