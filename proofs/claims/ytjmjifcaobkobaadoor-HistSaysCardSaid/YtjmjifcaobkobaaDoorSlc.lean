/- Contracts of slices.Clone and slices.Delete at []int, in this seat's words. (The layings and the first two kinds of theorem were printed by the kit's tool for the shelf.) Conditions: each contract's own premises. -/
import Derived.Test.YtjmjifcaobkobaaDoorBase
import Derived.Test.YtjmjifcaobkobaaDoorProg
import Derived.Shelf.Slices.Clone
import Derived.Shelf.Slices.Delete
namespace Go.Proofs.YtjmjifcaobkobaaDoor
open Go.RowKit

def clone_ren : Go.Shelf.Ren := ⟨fun | 15 => 24 | n => n, fun | 22 => 28 | 3 => 3 | 4 => 4 | n => n, fun | n => n⟩
theorem clone_lays : Go.Proofs.Lays2.n15 Tryd.prog clone_ren := {
  mixed := by kernel_rfl
  f15 := Tryd.func24.trans (congrArg some (by kernel_rfl))
  t3 := Tryd.underlying3
  a3 := Tryd.isAgg3
  z3 := Tryd.sizeOf3
  v3 := Tryd.zeroValue3
  t4 := Tryd.underlying4
  a4 := Tryd.isAgg4
  z4 := Tryd.sizeOf4
  v4 := Tryd.zeroValue4
  t22 := Tryd.underlying28
  a22 := Tryd.isAgg28
  z22 := Tryd.sizeOf28
  v22 := Tryd.zeroValue28
  i3 := by kernel_rfl }
/-- a copy -/
theorem clone_calls (l : List Int) (v : Value) (w : World) (h : Ints w w.heap.size v l) (hl : l.length ≤ 100000) :
    Calls Tryd.prog 24 #[v] w fun e w' => ∃ v', e = .returned v' ∧ Own w' w.heap.size v' l ∧ Below w.heap.size w w' := by
  by_cases hn : 0 < l.length
  · obtain ⟨b, off, cap, rfl, _, _, hb, hc⟩ := Rd.shape h hn
    refine (Any.slices_Clone_int clone_lays b off l.length cap l w (Nat.le_refl _) (by omega) (fun j hj => ?_)).mono ?_
    · rw [hc j (.int .i64 (l.getD j 0)) (by rw [List.getElem?_map, List.getElem?_eq_getElem hj, List.getD_eq_getElem?_getD, List.getElem?_eq_getElem hj]; rfl)]
    · rintro e w' ⟨v', rfl, h1, _, h2⟩
      rw [List.take_length] at h1
      exact ⟨v', rfl, h1, h2⟩
  · have e : l = [] := List.length_eq_zero_iff.1 (by omega)
    subst e
    obtain ⟨A, cap, rfl⟩ := Rd.val h
    cases A with
    | none =>
      refine (Any.slices_Clone_int_nil clone_lays 0 cap w).mono ?_
      rintro e w' ⟨rfl, rfl⟩
      exact ⟨_, rfl, Own.nil _ _, Below.refl _ _⟩
    | some a =>
      refine (Any.slices_Clone_int_zero clone_lays a cap w).mono ?_
      rintro e w' ⟨v', rfl, h1, _, h2⟩
      exact ⟨v', rfl, h1, h2⟩
end Go.Proofs.YtjmjifcaobkobaaDoor
