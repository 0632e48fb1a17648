/- Words for walks of many calls: a slice that reads as a list in every later world. Conditions: each contract's own premises. -/
import Derived.Test.YtjmjifcaobkobaaDoorCore
import Derived.Test.YtjmjifcaobkobaaDoorAs
namespace Go.Proofs.YtjmjifcaobkobaaDoor
open Go.RowKit

/-- in every world from w on the slice reads as the list -/
def Kept (w : World) (v : Value) (l : List Int) : Prop := ∀ w', Below w.heap.size w w' → Ints w' w'.heap.size v l
theorem Kept.of {w : World} {v : Value} {l : List Int} (h : Ints w w.heap.size v l) : Kept w v l := fun _ hb => (Rd.below h hb).more hb.size
theorem Kept.ints {w : World} {v : Value} {l : List Int} (h : Kept w v l) : Ints w w.heap.size v l := h w (Below.refl _ _)
theorem Kept.next {w w1 : World} {v : Value} {l : List Int} (h : Kept w v l) (hb : Below w.heap.size w w1) : Kept w1 v l := fun w' hb' => h w' (hb.trans (hb'.mono hb.size))
theorem Kept.nil (w : World) : Kept w (.slice none 0 0) [] := fun _ _ => Rd.nil _ _ _
theorem ints_same {w : World} {v u : Value} {l : List Int} (hv : Kept w v l) (hu : Kept w u l) : Calls Tryd.prog 9 #[v, u] w fun e w' => e = .returned (.bool true) ∧ Below w.heap.size w w' := by
  have h := ints_calls v u l l w.heap.size w (Nat.le_refl _) hv.ints hu.ints
  rw [decide_eq_true rfl] at h
  exact h
theorem errorn (c : Nat) (w : World) (hg : ErrTy w) (hc : c ≠ 0) : Calls Tryd.prog 5 #[.iface 38 (nv c), nv c] w fun e w' => e = .returned (.bool true) ∧ Below w.heap.size w w' := by
  have h := error_calls c (c : Int) w hg
  rw [decide_eq_true rfl] at h
  unfold errw at h
  rw [if_neg hc] at h
  exact h
theorem errorw (c : Nat) (w : World) (hg : ErrTy w) : Calls Tryd.prog 5 #[errw c, nv c] w fun e w' => e = .returned (.bool true) ∧ Below w.heap.size w w' := by
  have h := error_calls c (c : Int) w hg
  rw [decide_eq_true rfl] at h
  exact h
theorem error0 (w : World) : Calls Tryd.prog 5 #[.nilIface, .int .i64 0] w fun e w' => e = .returned (.bool true) ∧ Below w.heap.size w w' := by
  have hT := Lib.hid (told_nil w)
  go_enter Tryd.func5, Tryd.ntmps5
  go_wp2_with fail
  refine hT.out.mono ?_
  rintro e w1 ⟨rfl, rfl⟩
  clear hT
  go_wp2_with fail
  go_ret
  exact ⟨rfl, Below.refl _ _⟩
end Go.Proofs.YtjmjifcaobkobaaDoor
