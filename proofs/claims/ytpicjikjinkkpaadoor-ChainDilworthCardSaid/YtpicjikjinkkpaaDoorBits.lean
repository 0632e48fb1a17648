/- Words on bits of small numbers, as the walks of this seat spell them: and, or, and-not, shifts of a one, tests. Conditions: none. -/
import Derived.Test.YtpicjikjinkkpaaDoorBase
import Derived.Test.YtpicjikjinkkpaaDoorOrd
namespace Go.Proofs.YtpicjikjinkkpaaDoor
open Go.RowKit

theorem ofInt_nat (a : Nat) (ha : a < 2 ^ 63) : (BitVec.ofInt 64 (a : Int)).toNat = a := by
  rw [BitVec.toNat_ofInt]; omega

theorem bits_and (a b : Nat) (ha : a < 2 ^ 63) (hb : b < 2 ^ 63) : bits .and .i64 (a : Int) (b : Int) = ((a &&& b : Nat) : Int) := by
  have hx : a &&& b < 2 ^ 63 := Nat.and_lt_two_pow _ hb
  show IntKind.i64.wrap ((BitVec.ofInt 64 (a : Int) &&& BitVec.ofInt 64 (b : Int)).toNat : Int) = _
  rw [BitVec.toNat_and, ofInt_nat a ha, ofInt_nat b hb, IntKind.wrap_i64]
  omega
theorem bits_or (a b : Nat) (ha : a < 2 ^ 63) (hb : b < 2 ^ 63) : bits .or .i64 (a : Int) (b : Int) = ((a ||| b : Nat) : Int) := by
  have hx : a ||| b < 2 ^ 63 := Nat.or_lt_two_pow ha hb
  show IntKind.i64.wrap ((BitVec.ofInt 64 (a : Int) ||| BitVec.ofInt 64 (b : Int)).toNat : Int) = _
  rw [BitVec.toNat_or, ofInt_nat a ha, ofInt_nat b hb, IntKind.wrap_i64]
  omega

/-- a set without what another one has -/
def Odr.diff (a b : Nat) : Nat := a ^^^ (a &&& b)
theorem Odr.testBit_diff (a b i : Nat) : (Odr.diff a b).testBit i = (a.testBit i && !b.testBit i) := by
  unfold Odr.diff
  rw [Nat.testBit_xor, Nat.testBit_and]
  cases a.testBit i <;> cases b.testBit i <;> rfl
theorem Odr.diff_lt {a n : Nat} (b : Nat) (h : a < 2 ^ n) : Odr.diff a b < 2 ^ n :=
  Nat.xor_lt_two_pow h (Nat.lt_of_le_of_lt Nat.and_le_left h)

theorem bits_andNot (a b : Nat) (ha : a < 2 ^ 63) (hb : b < 2 ^ 63) : bits .andNot .i64 (a : Int) (b : Int) = ((Odr.diff a b : Nat) : Int) := by
  have hx := Odr.diff_lt b ha
  show IntKind.i64.wrap ((BitVec.ofInt 64 (a : Int) &&& ~~~BitVec.ofInt 64 (b : Int)).toNat : Int) = _
  have e : (BitVec.ofInt 64 (a : Int) &&& ~~~BitVec.ofInt 64 (b : Int)).toNat = Odr.diff a b := by
    apply Nat.eq_of_testBit_eq
    intro i
    rw [Odr.testBit_diff]
    have h1 : ∀ c : Nat, c < 2 ^ 63 → (BitVec.ofInt 64 (c : Int)).toNat = c := ofInt_nat
    by_cases hi : i < 64
    · rw [BitVec.testBit_toNat, BitVec.getLsbD_and, BitVec.getLsbD_not, ← BitVec.testBit_toNat, ← BitVec.testBit_toNat, h1 a ha, h1 b hb]
      simp [hi]
    · rw [BitVec.testBit_toNat, BitVec.getLsbD_of_ge _ _ (by omega)]
      rw [Odr.testBit_lt ha (by omega)]; rfl
  rw [e, IntKind.wrap_i64]
  omega

/-- the test of a bit, as 'set>>i&1 == 1' reads in a walk -/
theorem bit_test (s i : Nat) (hs : s < 2 ^ 63) : (bits .and .i64 ((s : Int) / 2 ^ i) 1 == 1) = s.testBit i := by
  have e : (s : Int) / 2 ^ i = ((s / 2 ^ i : Nat) : Int) := by rw [Int.natCast_ediv, Int.natCast_pow]; rfl
  have hlt : s / 2 ^ i < 2 ^ 63 := Nat.lt_of_le_of_lt (Nat.div_le_self _ _) hs
  have h := bits_and (s / 2 ^ i) 1 hlt (by omega)
  rw [e, show (1 : Int) = ((1 : Nat) : Int) from rfl, h, Nat.testBit_eq_decide_div_mod_eq, Nat.and_one_is_mod, Bool.eq_iff_iff]
  simp
  omega

/-- 'x | 1<<j', as a walk spells it -/
theorem bits_or_shl (x j : Nat) (hx : x < 2 ^ 63) (hj : j < 62) : bits .or .i64 (x : Int) (wrap64 (2 ^ j)) = ((x ||| 2 ^ j : Nat) : Int) := by
  have h1 : 2 ^ j < 2 ^ 62 := Nat.pow_lt_pow_right (by omega) hj
  have e : wrap64 (2 ^ j) = ((2 ^ j : Nat) : Int) := by
    have : (2 : Int) ^ j = ((2 ^ j : Nat) : Int) := by rw [Int.natCast_pow]; rfl
    rw [this]
    generalize 2 ^ j = y at *
    exact IntWalk.wrap64_in _ (by constructor <;> omega)
  rw [e]
  exact bits_or _ _ hx (by omega)

theorem wrap_two_pow (j : Nat) (hj : j < 62) : wrap64 (2 ^ j) = 2 ^ j := by
  have h1 : (2 : Nat) ^ j < 2 ^ 62 := Nat.pow_lt_pow_right (by omega) hj
  have : (2 : Int) ^ j = ((2 ^ j : Nat) : Int) := by rw [Int.natCast_pow]; rfl
  rw [this]
  generalize 2 ^ j = y at *
  exact IntWalk.wrap64_in _ (by constructor <;> omega)

end Go.Proofs.YtpicjikjinkkpaaDoor
