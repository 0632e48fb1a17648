/- Contracts of the reference's sets (package whensteadref1): Both, Either, Closed. Conditions: each contract's own premises. -/
import Derived.Test.YtjmjifcaobkobaaDoorRow12
import Derived.Test.YtjmjifcaobkobaaDoorRefM
namespace Go.Proofs.YtjmjifcaobkobaaDoor
open Go.RowKit

theorem and_add_or (a b : Nat) : (a &&& b) + (a ||| b) = a + b := by
  induction a using Nat.strongRecOn generalizing b with
  | ind a ih =>
    by_cases h0 : a = 0
    · subst h0; simp
    · have := ih (a / 2) (by omega) (b / 2)
      have e1 : (a &&& b) / 2 = a / 2 &&& b / 2 := Nat.and_div_two
      have e2 : (a ||| b) / 2 = a / 2 ||| b / 2 := Nat.or_div_two
      have m1 : (a &&& b) % 2 = 1 ↔ a % 2 = 1 ∧ b % 2 = 1 := Nat.and_mod_two_eq_one
      have m2 : (a ||| b) % 2 = 1 ↔ a % 2 = 1 ∨ b % 2 = 1 := Nat.or_mod_two_eq_one
      omega
end Go.Proofs.YtjmjifcaobkobaaDoor
