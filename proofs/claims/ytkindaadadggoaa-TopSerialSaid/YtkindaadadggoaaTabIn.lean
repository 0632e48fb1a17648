/- Contracts of lock's Do: whether a deed is one. Conditions: each contract's own premises. (Printed by wip/gen/lockdo.py.) -/
import Derived.Test.YtkindaadadggoaaTab
import Derived.Deep.RegionLaw
import Derived.Deep.AppendLies
namespace Go.Proofs.Ytkindaadadggoaa
open Go.RowKit


set_option maxHeartbeats 1000000 in
theorem in_any (k tx it wt : Int) (w : World) (h1 : 0 ≤ k ∧ k ≤ 3) (h2 : 0 ≤ tx ∧ tx ≤ 4) (h3 : 0 ≤ it ∧ it ≤ 3) (h4 : k = 3 → 0 ≤ wt ∧ wt ≤ 1) :
    Calls Try.prog 29 #[.agg #[iv k, iv tx, iv it, iv wt]] w fun e w' => e = .returned (.bool true) ∧ w.alloc (.cells #[iv k, iv tx, iv it, iv wt] 44) = w' := by
  obtain ⟨o1, o2⟩ := h1
  obtain ⟨o3, o4⟩ := h2
  obtain ⟨o5, o6⟩ := h3
  by_cases hk : k = 3
  · obtain ⟨o7, o8⟩ := h4 hk
    subst hk
    clear h4
    go_enter Try.func29, Try.ntmps29
    go_wp2_with (go_at_call 27; refine (within_yes _ _ _ _ (by omega) (by omega)).mono ?_; rintro e w' ⟨rfl, rfl⟩)
    go_ret
    exact ⟨rfl, rfl⟩
  · have t1 : (k != 3) = true := by simpa using hk
    clear h4 hk
    go_enter Try.func29, Try.ntmps29
    go_wp2_with (go_at_call 27; refine (within_yes _ _ _ _ (by omega) (by omega)).mono ?_; rintro e w' ⟨rfl, rfl⟩)
    go_ret
    exact ⟨rfl, rfl⟩
theorem in_ok (k tx it wt : Nat) (w : World) (h1 : k ≤ 3) (h2 : tx < 5) (h3 : it < 4) (h4 : k = 3 → wt < 2) :
    Calls Try.prog 29 #[.agg #[nv k, nv tx, nv it, nv wt]] w fun e w' => e = .returned (.bool true) ∧ w.alloc (.cells #[nv k, nv tx, nv it, nv wt] 44) = w' :=
  in_any k tx it wt w (by omega) (by omega) (by omega) (fun h => by have := h4 (by omega); omega)
end Go.Proofs.Ytkindaadadggoaa
