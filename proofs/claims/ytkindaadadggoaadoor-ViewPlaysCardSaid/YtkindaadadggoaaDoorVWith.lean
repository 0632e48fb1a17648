/- Contract of the reference's With. Conditions: the contract's own premises. -/
import Derived.Test.YtkindaadadggoaaDoorRef1
namespace Go.Proofs.YtkindaadadggoaaDoor
open Go.RowKit

theorem with_nat : ∀ s, s < 32 → ∀ i, i < 5 → s.testBit i = false → s + 2 ^ i = s ||| 2 ^ i := by decide
theorem with_calls (s i : Nat) (w : World) (hs : s < 32) (hi : i < 5) (h : s.testBit i = false) : Calls Tryd.prog 28 #[nv s, nv i] w fun e w' => e = .returned (nv (s ||| 2 ^ i)) ∧ w = w' := by
  have c1 := Lib.hid fun w5 : World => bit_calls s i w5 (by omega) (by omega)
  have c2 := Lib.hid fun w5 : World => pow2_calls i w5 (by omega)
  rw [h] at c1
  have hp : 2 ^ i < 2 ^ 5 := Nat.pow_lt_pow_right (by omega) hi
  have HS := Lib.hid (with_nat s hs i hi h)
  clear h
  generalize 2 ^ i = p at *
  go_enter Tryd.func28, Tryd.ntmps28
  go_wp2_with (first | (go_at_call 29; (with_reducible refine (c1.out _).mono ?_); rintro e w' ⟨rfl, rfl⟩) | (go_at_call 66; (with_reducible refine (c2.out _).mono ?_); rintro e w' ⟨rfl, rfl⟩))
  go_ret
  exact ⟨by rw [← HS.out]; rfl, rfl⟩
theorem with_same : ∀ s, s < 32 → ∀ i, i < 5 → s.testBit i = true → s ||| 2 ^ i = s := by decide
theorem with_any (s i : Nat) (w : World) (hs : s < 32) (hi : i < 5) : Calls Tryd.prog 28 #[nv s, nv i] w fun e w' => e = .returned (nv (s ||| 2 ^ i)) ∧ w = w' := by
  cases h : s.testBit i
  · exact with_calls s i w hs hi h
  · have c1 := Lib.hid fun w5 : World => bit_calls s i w5 (by omega) (by omega)
    rw [h] at c1
    rw [with_same s hs i hi h]
    clear h
    go_enter Tryd.func28, Tryd.ntmps28
    go_wp2_with (go_at_call 29; (with_reducible refine (c1.out _).mono ?_); rintro e w' ⟨rfl, rfl⟩)
    go_ret
    exact ⟨rfl, rfl⟩
end Go.Proofs.YtkindaadadggoaaDoor
