/- Contracts of slices.Clone and slices.Delete at []int, in this seat's words. (The layings and the first two kinds of theorem were printed by the kit's tool for the shelf.) Conditions: each contract's own premises. -/
import Derived.Test.YtoedgncbgkdmoaaDoorBase
import Derived.Test.YtoedgncbgkdmoaaDoorProg
import Derived.Shelf.Slices.Clone
import Derived.Shelf.Slices.Delete
namespace Go.Proofs.YtoedgncbgkdmoaaDoor
open Go.RowKit

def clone_ren : Go.Shelf.Ren := ⟨fun | 15 => 30 | n => n, fun | 22 => 22 | 3 => 3 | 4 => 4 | n => n, fun | n => n⟩
theorem clone_lays : Go.Proofs.Lays2.n15 Tryd.prog clone_ren := {
  mixed := by kernel_rfl
  f15 := Tryd.func30.trans (congrArg some (by kernel_rfl))
  t3 := Tryd.underlying3
  a3 := Tryd.isAgg3
  z3 := Tryd.sizeOf3
  v3 := Tryd.zeroValue3
  t4 := Tryd.underlying4
  a4 := Tryd.isAgg4
  z4 := Tryd.sizeOf4
  v4 := Tryd.zeroValue4
  t22 := Tryd.underlying22
  a22 := Tryd.isAgg22
  z22 := Tryd.sizeOf22
  v22 := Tryd.zeroValue22
  i3 := by kernel_rfl }
/-- a copy -/
theorem clone_calls (l : List Int) (v : Value) (w : World) (h : Ints w w.heap.size v l) (hl : l.length ≤ 100000) :
    Calls Tryd.prog 30 #[v] w fun e w' => ∃ v', e = .returned v' ∧ Own w' w.heap.size v' l ∧ Below w.heap.size w w' := by
  by_cases hn : 0 < l.length
  · obtain ⟨b, off, cap, rfl, _, _, hb, hc⟩ := Rd.shape h hn
    refine (Any.slices_Clone_int clone_lays b off l.length cap l w (Nat.le_refl _) (by omega) (fun j hj => ?_)).mono ?_
    · rw [hc j (.int .i64 (l.getD j 0)) (by rw [List.getElem?_map, List.getElem?_eq_getElem hj, List.getD_eq_getElem?_getD, List.getElem?_eq_getElem hj]; rfl)]
    · rintro e w' ⟨v', rfl, h1, _, h2⟩
      rw [List.take_length] at h1
      exact ⟨v', rfl, h1, h2⟩
  · have e : l = [] := List.length_eq_zero_iff.1 (by omega)
    subst e
    obtain ⟨A, cap, rfl⟩ := Rd.val h
    cases A with
    | none =>
      refine (Any.slices_Clone_int_nil clone_lays 0 cap w).mono ?_
      rintro e w' ⟨rfl, rfl⟩
      exact ⟨_, rfl, Own.nil _ _, Below.refl _ _⟩
    | some a =>
      refine (Any.slices_Clone_int_zero clone_lays a cap w).mono ?_
      rintro e w' ⟨v', rfl, h1, _, h2⟩
      exact ⟨v', rfl, h1, h2⟩
def delete_ren : Go.Shelf.Ren := ⟨fun | 23 => 31 | n => n, fun | 22 => 22 | 3 => 3 | 4 => 4 | 0 => 0 | n => n, fun | n => n⟩
theorem delete_lays : Go.Proofs.Lays2.n23 Tryd.prog delete_ren := {
  mixed := by kernel_rfl
  f23 := Tryd.func31.trans (congrArg some (by kernel_rfl))
  t0 := Tryd.underlying0
  a0 := Tryd.isAgg0
  z0 := Tryd.sizeOf0
  v0 := Tryd.zeroValue0
  t3 := Tryd.underlying3
  a3 := Tryd.isAgg3
  z3 := Tryd.sizeOf3
  v3 := Tryd.zeroValue3
  t4 := Tryd.underlying4
  a4 := Tryd.isAgg4
  z4 := Tryd.sizeOf4
  v4 := Tryd.zeroValue4
  t22 := Tryd.underlying22
  a22 := Tryd.isAgg22
  z22 := Tryd.sizeOf22
  v22 := Tryd.zeroValue22
  i3 := by kernel_rfl }
theorem heap_putRow (w : World) (g off : Nat) (d : Array Int) (k : Nat) (h : k ≠ g) : (Sort.putRow (Value.int .i64) w g off d).heap[k]? = w.heap[k]? := by
  simp only [Sort.putRow, Sort.mapBlock, Array.getElem?_modify]
  rw [if_neg (fun e => h e.symm)]
theorem heap_putRow_same (w : World) (g off : Nat) (d : Array Int) (c : Array Value) (e : TypeId) (h : w.heap[g]? = some (.cells c e (0, 0))) : (Sort.putRow (Value.int .i64) w g off d).heap[g]? = some (.cells (Sort.putCells (Value.int .i64) off d c) e (0, 0)) := by
  simp only [Sort.putRow, Sort.mapBlock, Array.getElem?_modify]
  rw [if_pos trivial, h]
  rfl
/-- one is taken out of a slice of the call's own: nothing else turns -/
theorem delete_calls (l : List Int) (g cap k base : Nat) (w : World) (h : Own w base (.slice (some ⟨g, 0, none⟩) l.length cap) l) (hk : k < l.length) :
    Calls Tryd.prog 31 #[.slice (some ⟨g, 0, none⟩) l.length cap, .int .i64 (k : Int), .int .i64 ((k : Int) + 1)] w fun e w' => e = .returned (.slice (some ⟨g, 0, none⟩) (l.length - 1) cap) ∧
      Own w' base (.slice (some ⟨g, 0, none⟩) (l.length - 1) cap) (l.eraseIdx k) ∧ w.grownBy w' (some g) := by
  obtain ⟨hx, h0 | ⟨g', cap', cur, he, hb, hg, hn, hc, hs, ht⟩⟩ := h
  · cases h0.1
  cases he
  have hlit := Own.lit (w := w) (base := base) (l := l) (n := l.length) (cap := cap) ⟨hx, .inr ⟨g, cap, cur, rfl, hb, hg, hn, hc, hs, ht⟩⟩
  obtain ⟨_, hgl, hcell, hfz, _⟩ := hlit
  have hcall := Any.slices_Delete_int delete_lays g 0 cap k (k + 1) l w (fun j hj => by
    rw [List.size_toArray] at hj
    refine ⟨?_, by rw [Nat.zero_add]; exact hfz j⟩
    rw [Nat.zero_add, hcell j hj, getElem!_pos l.toArray j (by simpa using hj)]
    simp) hn (by unfold maxLen at hc; omega) (Nat.le_succ k) hk
  refine hcall.mono ?_
  rintro e w' ⟨rfl, q, rfl⟩
  have e1 : k + 1 - k = 1 := by omega
  rw [e1]
  have hd : (l.take k ++ l.drop (k + 1) ++ List.replicate 1 (0 : Int)) = l.eraseIdx k ++ [0] := by rw [List.eraseIdx_eq_take_drop_succ]; rfl
  have hel : (l.eraseIdx k).length = l.length - 1 := by rw [List.length_eraseIdx]; simp [hk]
  have hdl : (l.eraseIdx k ++ [(0 : Int)]).toArray.size = l.length := by simp [hel]; omega
  rw [hd]
  refine ⟨rfl, ⟨by rw [hel]; simp [hel], .inr ⟨g, cap, _, by rw [hel], hb, heap_putRow_same (Sort.ahead w q) g 0 _ cur _ hg, by rw [hel]; omega, hc, by simpa [Sort.putCells] using hs, ?_⟩⟩, ⟨rfl, rfl, rfl, by simp, fun j _ hj => heap_putRow (Sort.ahead w q) g 0 _ j (fun e => hj (by rw [e]))⟩⟩
  apply List.ext_getElem?
  intro j
  rw [Nat.mul_one, hel, List.getElem?_take, List.getElem?_map]
  by_cases hj : j < l.length - 1
  · rw [if_pos hj, Array.getElem?_toList]
    simp only [Sort.putCells, Array.getElem?_mapIdx]
    rw [Array.getElem?_eq_getElem (by omega), Option.map_some, if_pos ⟨Nat.zero_le _, by omega⟩, Nat.sub_zero, List.getElem?_eq_getElem (by omega), Option.map_some, getElem!_pos _ j (by omega)]
    simp [List.getElem_append_left (show j < (l.eraseIdx k).length by omega)]
  · rw [if_neg hj, List.getElem?_eq_none (by omega)]; rfl
theorem row_lt' {w : World} {base : Nat} {v : Value} {l : List Int} (h : Own w base v l) : Hid (∀ k, v.ownBlock = some k → k < w.heap.size) := by
  intro k hk
  rcases h.2 with ⟨rfl, _⟩ | ⟨b, cap, cur, rfl, hb, hgg, rest⟩
  · cases hk
  · cases hk
    exact (Array.getElem?_eq_some_iff.1 hgg).1
/-- a slice of the call's own in a block below B -/
theorem Own.under {w w' : World} {base B : Nat} {v : Value} {l : List Int} (h : Own w base v l) (hB : ∀ k, v.ownBlock = some k → k < B) (hb : Below B w w') : Own w' base v l := by
  refine ⟨h.1, ?_⟩
  rcases h.2 with hn | ⟨b, cap, cur, rfl, h1, hgg, rest⟩
  · exact .inl hn
  · exact .inr ⟨b, cap, cur, rfl, h1, (hb.block b (hB b rfl)).trans hgg, rest⟩
end Go.Proofs.YtoedgncbgkdmoaaDoor
