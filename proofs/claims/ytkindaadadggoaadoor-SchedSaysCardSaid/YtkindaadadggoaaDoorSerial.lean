/- Contracts of package sched's Edges (at every schedule) and Serial. Conditions: each contract's own premises. -/
import Derived.Test.YtkindaadadggoaaDoorEdges
import Derived.Test.YtkindaadadggoaaDoorRow
namespace Go.Proofs.YtkindaadadggoaaDoor
open Go.RowKit

theorem edges_err (s : List Act3) (v : Value) (w : World) (hr : Acts w w.heap.size v s) (hne : actsCode s ≠ 0) :
    Calls Tryd.prog 51 #[v] w fun e w' => e = .returned (.tuple #[.slice none 0 0, .iface 93 (nv (actsCode s))]) ∧ Below w.heap.size w w' := by
  have hchk := Lib.hid (check_calls s v w hr hne)
  clear hne hr
  go_enter Tryd.func51, Tryd.ntmps51
  go_wp2_with fail
  refine hchk.out.mono ?_
  rintro e w1 ⟨rfl, hb1⟩
  clear hchk
  go_wp2_with fail
  go_ret2
  exact ⟨rfl, hb1⟩

theorem serial_err (s : List Act3) (v : Value) (w : World) (hr : Acts w w.heap.size v s) (hne : actsCode s ≠ 0) :
    Calls Tryd.prog 44 #[v] w fun e w' => e = .returned (.tuple #[.bool false, .slice none 0 0, .iface 93 (nv (actsCode s))]) ∧ Below w.heap.size w w' := by
  have hchk := Lib.hid (edges_err s v w hr hne)
  clear hne hr
  go_enter Tryd.func44, Tryd.ntmps44
  go_wp2_with fail
  refine hchk.out.mono ?_
  rintro e w1 ⟨rfl, hb1⟩
  clear hchk
  go_wp2_with fail
  go_ret3
  exact ⟨rfl, hb1⟩

theorem serial_ok (t : List Sch.N3) (v : Value) (w : World) (hr : Acts w w.heap.size v (Sch.zacts t)) (hlen : t.length ≤ 24) (hok : ∀ a ∈ t, Sch.Ok3 a) :
    Calls Tryd.prog 44 #[v] w fun e w' => Below w.heap.size w w' ∧
      ((Rw.row (Sch.edges t) = none ∧ e = .returned (.tuple #[.bool false, .slice none 0 0, .nilIface])) ∨
        ∃ out v', Rw.row (Sch.edges t) = some out ∧ e = .returned (.tuple #[.bool true, v', .nilIface]) ∧ Own w' w.heap.size v' (zs out)) := by
  have hchk := Lib.hid (edges_ok t v w hr hlen hok)
  have hfit := Lib.hid (Sch.fits_edges hok)
  clear hok hr
  go_enter Tryd.func44, Tryd.ntmps44
  go_wp2_with fail
  refine hchk.out.mono ?_
  rintro e w1 ⟨v1, rfl, hown, hb1⟩
  have hrow := Lib.hid (row_calls (Sch.edges t) v1 w1.heap.size w1 (Nat.le_refl _) hown.ints (by rw [Sch.length_edges]; decide) hfit.out)
  clear hchk
  go_wp2_with fail
  refine hrow.out.mono ?_
  rintro e w2 ⟨hb2, ⟨hn, rfl⟩ | ⟨out, v', hs, rfl, hown2⟩⟩
  · have HN := Lib.hid hn
    clear hn hrow
    go_wp2_with fail
    go_ret3
    exact ⟨hb1.trans (hb2.mono hb1.size), .inl ⟨HN.out, rfl⟩⟩
  · have HS := Lib.hid hs
    clear hs hrow
    go_wp2_with fail
    go_ret3
    exact ⟨hb1.trans (hb2.mono hb1.size), .inr ⟨out, v', HS.out, rfl, hown2.lower hb1.size⟩⟩

end Go.Proofs.YtkindaadadggoaaDoor
