/- Contracts of lock's Do: whether a deed is one. Conditions: each contract's own premises. (Printed by wip/gen/lockdo.py.) -/
import Derived.Test.YtkindaadadggoaaDoorTab
import Derived.Deep.RegionLaw
import Derived.Deep.AppendLies
namespace Go.Proofs.YtkindaadadggoaaDoor
open Go.RowKit


set_option maxHeartbeats 1000000 in
theorem in_any (k tx it wt : Int) (w : World) (h1 : 0 ≤ k ∧ k ≤ 3) (h2 : 0 ≤ tx ∧ tx ≤ 4) (h3 : 0 ≤ it ∧ it ≤ 3) (h4 : k = 3 → 0 ≤ wt ∧ wt ≤ 1) :
    Calls Tryd.prog 67 #[.agg #[iv k, iv tx, iv it, iv wt]] w fun e w' => e = .returned (.bool true) ∧ w.alloc (.cells #[iv k, iv tx, iv it, iv wt] 49) = w' := by
  obtain ⟨o1, o2⟩ := h1
  obtain ⟨o3, o4⟩ := h2
  obtain ⟨o5, o6⟩ := h3
  by_cases hk : k = 3
  · obtain ⟨o7, o8⟩ := h4 hk
    subst hk
    clear h4
    go_enter Tryd.func67, Tryd.ntmps67
    go_wp2_with (go_at_call 57; refine (within_yes _ _ _ _ (by omega) (by omega)).mono ?_; rintro e w' ⟨rfl, rfl⟩)
    go_ret
    exact ⟨rfl, rfl⟩
  · have t1 : (k != 3) = true := by simpa using hk
    clear h4 hk
    go_enter Tryd.func67, Tryd.ntmps67
    go_wp2_with (go_at_call 57; refine (within_yes _ _ _ _ (by omega) (by omega)).mono ?_; rintro e w' ⟨rfl, rfl⟩)
    go_ret
    exact ⟨rfl, rfl⟩
theorem in_ok (k tx it wt : Nat) (w : World) (h1 : k ≤ 3) (h2 : tx < 5) (h3 : it < 4) (h4 : k = 3 → wt < 2) :
    Calls Tryd.prog 67 #[.agg #[nv k, nv tx, nv it, nv wt]] w fun e w' => e = .returned (.bool true) ∧ w.alloc (.cells #[nv k, nv tx, nv it, nv wt] 49) = w' :=
  in_any k tx it wt w (by omega) (by omega) (by omega) (fun h => by have := h4 (by omega); omega)
end Go.Proofs.YtkindaadadggoaaDoor
