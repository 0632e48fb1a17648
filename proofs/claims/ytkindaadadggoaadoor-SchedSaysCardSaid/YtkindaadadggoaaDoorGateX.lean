/- Contract of prior's Dead. Conditions: the contract's own premises. -/
import Derived.Test.YtkindaadadggoaaDoorGateF
namespace Go.Proofs.YtkindaadadggoaaDoor
open Go.RowKit
theorem gdead_calls (skips : Bool) (g : Gt.G) (b : Nat) (v : Value) (w : World) (h : GateAt w b skips g v) : Calls Tryd.prog 22 #[.pointer (some ⟨b, 0, none⟩)] w fun e w' => e = .returned (nv g.dead) ∧ w = w' := by
  have h1 := h.dead
  clear h
  go_enter Tryd.func22, Tryd.ntmps22
  go_wp2_with fail
  go_ret
  exact ⟨rfl, rfl⟩
end Go.Proofs.YtkindaadadggoaaDoor
