/- A bit more, by adding it; the reference's Bit and Pow2 at greater sets. Conditions: each one's own premises. -/
import Derived.Test.YtkindaadadggoaaCore
namespace Go.Proofs.Ytkindaadadggoaa
open Go.RowKit
theorem orb_add (a b : Nat) : (a &&& b) + (a ||| b) = a + b := by
  induction a using Nat.strongRecOn generalizing b with
  | ind a ih =>
    by_cases h0 : a = 0
    · subst h0; simp
    · have := ih (a / 2) (by omega) (b / 2)
      have e1 : (a &&& b) / 2 = a / 2 &&& b / 2 := Nat.and_div_two
      have e2 : (a ||| b) / 2 = a / 2 ||| b / 2 := Nat.or_div_two
      have m1 : (a &&& b) % 2 = 1 ↔ a % 2 = 1 ∧ b % 2 = 1 := Nat.and_mod_two_eq_one
      have m2 : (a ||| b) % 2 = 1 ↔ a % 2 = 1 ∨ b % 2 = 1 := Nat.or_mod_two_eq_one
      omega
theorem orb {s i : Nat} (h : s.testBit i = false) : s ||| 2 ^ i = s + 2 ^ i := by
  have h0 : s &&& 2 ^ i = 0 := by
    apply Nat.eq_of_testBit_eq
    intro k
    rw [Nat.testBit_and, Nat.zero_testBit, Nat.testBit_two_pow]
    by_cases hk : i = k
    · subst hk; simp [h]
    · simp [hk]
  have := orb_add s (2 ^ i)
  omega
theorem testBit_orb (s i j : Nat) : (s ||| 2 ^ i).testBit j = (s.testBit j || decide (i = j)) := by rw [Nat.testBit_or, Nat.testBit_two_pow]
end Go.Proofs.Ytkindaadadggoaa
