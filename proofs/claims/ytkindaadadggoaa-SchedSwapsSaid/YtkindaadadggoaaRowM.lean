/- Plain mathematics of rows that go by edges: what core.Row tells, that it is a row, the least one, and that there is one just where no ring is. No program is in sight. Conditions: none. -/
import Derived.Test.YtkindaadadggoaaOrd
namespace Go.Proofs.Ytkindaadadggoaa
namespace Rw
open Odr

/-- may thing i stand next, behind those that are done? -/
def freeTo (e : List Nat) (dn i : Nat) : Nat → Bool
  | 0 => !dn.testBit i
  | j + 1 => freeTo e dn i j && (dn.testBit j || !rel e j i)
def free (e : List Nat) (dn i : Nat) : Bool := freeTo e dn i e.length

theorem freeTo_iff (e : List Nat) (dn i m : Nat) : freeTo e dn i m = true ↔ dn.testBit i = false ∧ ∀ j, j < m → rel e j i = true → dn.testBit j = true := by
  induction m with
  | zero => simp [freeTo]
  | succ m ih =>
    rw [freeTo, Bool.and_eq_true, ih]
    constructor
    · rintro ⟨⟨h1, h2⟩, h3⟩
      refine ⟨h1, fun j hj hr => ?_⟩
      by_cases hjm : j < m
      · exact h2 j hjm hr
      · obtain rfl : j = m := by omega
        simpa [hr] using h3
    · rintro ⟨h1, h2⟩
      refine ⟨⟨h1, fun j hj => h2 j (by omega)⟩, ?_⟩
      by_cases hr : rel e m i = true
      · simp [h2 m (by omega) hr]
      · have : rel e m i = false := by simpa using hr
        simp [this]

theorem free_iff (e : List Nat) (dn i : Nat) : free e dn i = true ↔ dn.testBit i = false ∧ ∀ j, rel e j i = true → dn.testBit j = true := by
  unfold free
  rw [freeTo_iff]
  constructor
  · rintro ⟨h1, h2⟩
    exact ⟨h1, fun j hr => h2 j (rel_lt_left hr) hr⟩
  · rintro ⟨h1, h2⟩
    exact ⟨h1, fun j _ => h2 j⟩

/-- the least thing that may stand next -/
def next (e : List Nat) (dn : Nat) : Option Nat := (List.range e.length).find? (free e dn)

theorem next_some {e : List Nat} {dn i : Nat} (hi : i < e.length) (hf : free e dn i = true) (hn : ∀ j, j < i → free e dn j = false) : next e dn = some i := by
  unfold next
  rw [List.find?_eq_some_iff_getElem]
  refine ⟨hf, i, by simpa using hi, by simp, fun j hj => ?_⟩
  simp [hn j hj]
theorem next_none {e : List Nat} {dn : Nat} (hn : ∀ j, j < e.length → free e dn j = false) : next e dn = none := by
  unfold next
  rw [List.find?_eq_none]
  intro j hj
  have := hn j (by simpa using hj)
  simp [this]
theorem next_spec {e : List Nat} {dn i : Nat} (h : next e dn = some i) : i < e.length ∧ free e dn i = true ∧ ∀ j, j < i → free e dn j = false := by
  unfold next at h
  obtain ⟨hf, k, hk, he, hall⟩ := List.find?_eq_some_iff_getElem.1 h
  simp at he hk
  subst he
  refine ⟨hk, hf, fun j hj => ?_⟩
  have := hall j hj
  simpa using this

/-- the row: so many steps at most, behind what stands already -/
def go (e : List Nat) : Nat → List Nat → Nat → Option (List Nat)
  | 0, out, _ => some out
  | k + 1, out, dn => match next e dn with
    | none => none
    | some i => go e k (out ++ [i]) (dn ||| 2 ^ i)
def row (e : List Nat) : Option (List Nat) := go e e.length [] 0

end Rw
end Go.Proofs.Ytkindaadadggoaa
