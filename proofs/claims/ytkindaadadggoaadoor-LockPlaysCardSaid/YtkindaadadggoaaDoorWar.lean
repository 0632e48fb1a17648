/- The closing's inner loop, in plain words (the head of XOrder, for seats without package order). Conditions: none. -/
import Derived.Test.YtkindaadadggoaaDoorRow12
namespace Go.Proofs.YtkindaadadggoaaDoor
open Go.RowKit

namespace Odr
/-- the inner loop of the closing, after i rows -/
def wpart (c : List Nat) (k i : Nat) : List Nat := (c.take i).map (wrow (c.getD k 0) k) ++ c.drop i
theorem length_wpart (c : List Nat) (k i : Nat) : (wpart c k i).length = c.length := by
  unfold wpart
  rw [List.length_append, List.length_map, List.length_take, List.length_drop]; omega
theorem wpart_zero (c : List Nat) (k : Nat) : wpart c k 0 = c := by simp [wpart]
theorem wpart_all (c : List Nat) (k : Nat) : wpart c k c.length = wstep k c := by simp [wpart, wstep]
theorem getD_wpart (c : List Nat) (k i j : Nat) : (wpart c k i).getD j 0 = if j < i ∧ j < c.length then wrow (c.getD k 0) k (c.getD j 0) else c.getD j 0 := by
  unfold wpart
  rw [List.getD_eq_getElem?_getD, List.getD_eq_getElem?_getD (l := c) (i := j), List.getElem?_append]
  rw [List.length_map, List.length_take]
  by_cases h : j < i ∧ j < c.length
  · rw [if_pos (by omega), if_pos h, List.getElem?_map, List.getElem?_take, if_pos h.1, List.getElem?_eq_getElem h.2]
    rfl
  · rw [if_neg h]
    by_cases hj : j < c.length
    · rw [if_neg (by omega), List.getElem?_drop]
      congr 2
      omega
    · rw [if_neg (by omega), List.getElem?_drop, List.getElem?_eq_none (by omega), List.getElem?_eq_none (by omega)]
theorem wrow_self (k y : Nat) : wrow y k y = y := by unfold wrow; split <;> simp
theorem wpart_k (c : List Nat) (k i : Nat) : (wpart c k i).getD k 0 = c.getD k 0 := by
  rw [getD_wpart]; split
  · exact wrow_self _ _
  · rfl
theorem wpart_i (c : List Nat) (k i : Nat) : (wpart c k i).getD i 0 = c.getD i 0 := by
  rw [getD_wpart, if_neg (by omega)]
theorem wpart_succ (c : List Nat) (k i : Nat) (hi : i < c.length) : wpart c k (i + 1) = (wpart c k i).set i (wrow (c.getD k 0) k (c.getD i 0)) := by
  apply List.ext_getElem (by rw [List.length_set, length_wpart, length_wpart])
  intro j h1 h2
  have e1 : (wpart c k (i + 1))[j] = (wpart c k (i + 1)).getD j 0 := by rw [List.getD_eq_getElem?_getD, List.getElem?_eq_getElem h1]; rfl
  rw [e1, getD_wpart, List.getElem_set]
  rw [length_wpart] at h1
  by_cases hij : i = j
  · subst hij
    rw [if_pos ⟨by omega, hi⟩, if_pos rfl]
  · rw [if_neg hij]
    have h3 : j < (wpart c k i).length := by rw [length_wpart]; exact h1
    have e2 : (wpart c k i)[j] = (wpart c k i).getD j 0 := by rw [List.getD_eq_getElem?_getD, List.getElem?_eq_getElem h3]; rfl
    rw [e2, getD_wpart]
    by_cases hj : j < i
    · rw [if_pos ⟨by omega, h1⟩, if_pos ⟨hj, h1⟩]
    · rw [if_neg (by omega), if_neg (by omega)]
end Odr
end Go.Proofs.YtkindaadadggoaaDoor
