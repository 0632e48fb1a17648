/- Contract of view.Serial. Conditions: the contract's own premises. -/
import Derived.Test.YtkindaadadggoaaDoorVEdges
namespace Go.Proofs.YtkindaadadggoaaDoor
open Go.RowKit Go.Shelf

set_option maxHeartbeats 1000000 in
theorem vserial_calls (v : Vw.V) (b : Nat) (vs : Nat → Value) (w : World) (h : StAt w b v vs) (hI : Vw.Inv v) (hT : Tab w) :
    Calls Tryd.prog 26 #[.pointer (some ⟨b, 0, none⟩)] w fun e w' => Below w.heap.size w w' ∧
      ((Rw.row (Vw.ed v).1 = none ∧ e = .returned (.tuple #[.bool false, .slice none 0 0])) ∨ ∃ out v', Rw.row (Vw.ed v).1 = some out ∧ e = .returned (.tuple #[.bool true, v']) ∧ Own w' w.heap.size v' (zs out)) := by
  have HE := Lib.hid (vedges_calls v b vs w h hI hT)
  have H5 := Lib.hid (Vw.five_ed hI)
  clear h hI hT
  generalize Vw.ed v = E at *
  go_enter Tryd.func26, Tryd.ntmps26
  go_wp2_with (go_at_call 56; (with_reducible refine HE.out.mono ?_); rintro e w1 ⟨v1, v2, rfl, o1, -, hb1⟩)
  have HR := Lib.hid (row_calls E.1 v1 w1.heap.size w1 (Nat.le_refl _) o1.ints (by rw [H5.out.1.1]; omega) H5.out.1.2)
  have HB1 := Lib.hid hb1
  clear o1 hb1
  cases hrow : Rw.row E.1 with
  | none =>
    have HR2 := Lib.hid (HR.out.mono (R' := fun e w' => e = .returned (.tuple #[.slice none 0 0, .bool false]) ∧ Below w1.heap.size w1 w') (fun e w' ⟨hb, hh⟩ => by
      rcases hh with ⟨_, h2⟩ | ⟨out, v', h2, _⟩
      · exact ⟨h2, hb⟩
      · rw [hrow] at h2; cases h2))
    clear HR
    go_wp2_with (go_at_call 64; (with_reducible refine HR2.out.mono ?_); rintro e w2 ⟨rfl, hb2⟩)
    have HB2 := Lib.hid (HB1.out.trans (hb2.mono HB1.out.size))
    clear hb2
    go_ret2
    exact ⟨HB2.out, .inl ⟨hrow, rfl⟩⟩
  | some out =>
    have HR2 := Lib.hid (HR.out.mono (R' := fun e w' => ∃ v', e = .returned (.tuple #[v', .bool true]) ∧ Own w' w1.heap.size v' (zs out) ∧ Below w1.heap.size w1 w') (fun e w' ⟨hb, hh⟩ => by
      rcases hh with ⟨h2, _⟩ | ⟨out', v', h2, h3, h4⟩
      · rw [hrow] at h2; cases h2
      · rw [hrow] at h2
        injection h2 with h2
        subst h2
        exact ⟨v', h3, h4, hb⟩))
    clear HR
    go_wp2_with (go_at_call 64; (with_reducible refine HR2.out.mono ?_); rintro e w2 ⟨v', rfl, ho, hb2⟩)
    have HB2 := Lib.hid (HB1.out.trans (hb2.mono HB1.out.size))
    have HO := Lib.hid (ho.lower HB1.out.size)
    clear hb2 ho
    go_ret2
    exact ⟨HB2.out, .inr ⟨out, v', hrow, rfl, HO.out⟩⟩
end Go.Proofs.YtkindaadadggoaaDoor
