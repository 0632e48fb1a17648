/- Contracts of package extend: ahead, Count. Conditions: each contract's own premises. -/
import Derived.Test.YtoedgncbgkdmoaaDoorExtM
import Derived.Test.YtoedgncbgkdmoaaDoorTurned
namespace Go.Proofs.YtoedgncbgkdmoaaDoor
open Go.RowKit

theorem Own.rep0 {w : World} {base g n cap : Nat} (h : Own w base (.slice (some ⟨g, 0, none⟩) n cap) (List.replicate n 0)) (hn : 0 < n) : w.cell? ⟨g, 0, none⟩ = some (.int .i64 0) ∧ w.frozen? ⟨g, 0, none⟩ = false := by
  obtain ⟨gb, gl, gc, gf, gst⟩ := h.lit
  have := gc 0 (by simpa using hn)
  rw [List.getElem_replicate] at this
  exact ⟨this, gf 0⟩

theorem ahead_err (l : List Int) (v : Value) (w : World) (hr : Ints w w.heap.size v l) (hne : orderCode l ≠ 0) :
    Calls Tryd.prog 44 #[v] w fun e w' => e = .returned (.tuple #[.slice none 0 0, .iface 43 (nv (orderCode l))]) ∧ Below w.heap.size w w' := by
  have h := Lib.hid (turned_err l v w hr hne)
  go_enter Tryd.func44, Tryd.ntmps44
  go_wp2_with fail
  refine h.out.mono ?_
  rintro e w1 ⟨rfl, hb1⟩
  clear h hr
  go_wp2_with fail
  go_ret2
  exact ⟨rfl, hb1⟩
theorem ahead_ok (m : List Nat) (v : Value) (w : World) (hr : Ints w w.heap.size v (zs m)) (hv : Odr.Valid m) (hT : Tab w) :
    Calls Tryd.prog 44 #[v] w fun e w' => ∃ v', e = .returned (.tuple #[v', .nilIface]) ∧ Own w' w.heap.size v' (zs (Odr.turned m)) ∧ Below w.heap.size w w' := by
  have h := Lib.hid (turned_ok m v w hr hv hT)
  clear hv
  go_enter Tryd.func44, Tryd.ntmps44
  go_wp2_with fail
  refine h.out.mono ?_
  rintro e w1 ⟨v1, rfl, ho, hb1⟩
  have HO := Lib.hid ho
  clear h hr ho
  go_wp2_with fail
  go_ret2
  exact ⟨v1, rfl, HO.out, hb1⟩

end Go.Proofs.YtoedgncbgkdmoaaDoor
