/- The closed fact on gates; what a gate's methods leave. Conditions: each contract's own premises. -/
import Derived.Test.YtkindaadadggoaaDoorGateX
import Derived.Test.YtkindaadadggoaaDoorAs
namespace Go.Proofs.YtkindaadadggoaaDoor
open Go.RowKit

section
variable {W w w' : World} {b : Nat} {skips : Bool} {g g' : Gt.G} {v : Value}
theorem GateTo.at_ (h : GateTo w b skips v g w') : ∃ v', GateAt w' b skips g v' := by obtain ⟨v', h1, _⟩ := h; exact ⟨v', h1⟩
theorem GateTo.below (h : GateTo w b skips v g w') (hb : Below W.heap.size W w) (h0 : GateAt w b skips g' v) (hB : W.heap.size ≤ b) : Below W.heap.size W w' := by
  obtain ⟨v', _, h2, _⟩ := h
  exact hb.trans (h2.below hb.size (fun k hk => Nat.le_trans hB (h0.foot k hk).1))
theorem GateTo.onlyF (h : GateTo w b skips v g w') : Only (Foot b v) w w' := by obtain ⟨v', _, h2, _⟩ := h; exact h2
end
/-- a slice of the call's own in a block below B -/
theorem Own.under {w w' : World} {base B : Nat} {v : Value} {l : List Int} (h : Own w base v l) (hB : ∀ k, v.ownBlock = some k → k < B) (hb : Below B w w') : Own w' base v l := by
  refine ⟨h.1, ?_⟩
  rcases h.2 with hn | ⟨b, cap, cur, rfl, h1, hgg, rest⟩
  · exact .inl hn
  · exact .inr ⟨b, cap, cur, rfl, h1, (hb.block b (hB b rfl)).trans hgg, rest⟩
theorem errv_eq (n : Nat) : errv n = errw n := rfl

set_option maxRecDepth 20000 in
theorem priorFact_calls (w : World) (hE : ErrTy w) : Calls Tryd.prog 15 #[] w fun e w' => e = .returned (.bool true) ∧ Below w.heap.size w w' := by
  have hn := Lib.hid (gnew_calls false w)
  go_enter Tryd.func15, Tryd.ntmps15
  go_wp2_with fail
  (with_reducible refine hn.out.mono ?_)
  rintro e w1 ⟨rfl, hg1, hb1, _⟩
  have hd1 := Lib.hid (show Calls Tryd.prog 17 #[.pointer (some ⟨w.heap.size, 0, none⟩), .agg #[.int .i64 3, .int .i64 1, .int .i64 1]] w1 fun e w' => e = .returned (.tuple #[.bool true, .nilIface]) ∧ GateTo w1 w.heap.size false (.slice none 0 0) (Gt.pass false Gt.g0 (3, 1, 1)).1 w' from
    gdo_ok false Gt.g0 (3, 1, 1) w.heap.size _ w1 hg1 Gt.inv0 ⟨by decide, by decide, by decide⟩)
  clear hn
  go_wp2_with fail
  (with_reducible refine hd1.out.mono ?_)
  rintro e w2 ⟨rfl, ht2⟩
  have hb2 := ht2.below hb1 hg1 (Nat.le_refl _)
  obtain ⟨v2, hg2⟩ := ht2.at_
  have hd2 := Lib.hid (show Calls Tryd.prog 17 #[.pointer (some ⟨w.heap.size, 0, none⟩), .agg #[.int .i64 2, .int .i64 1, .int .i64 0]] w2 fun e w' => e = .returned (.tuple #[.bool false, .iface 93 (.int .i64 6)]) ∧ GateTo w2 w.heap.size false v2 (Gt.pass false (Gt.pass false Gt.g0 (3, 1, 1)).1 (2, 1, 0)).1 w' from
    gdo_ok false _ (2, 1, 0) w.heap.size _ w2 hg2 (Gt.inv_pass false Gt.inv0 ⟨by decide, by decide, by decide⟩) ⟨by decide, by decide, by decide⟩)
  clear hd1 ht2 hb1 hg1
  go_wp2_with fail
  (with_reducible refine hd2.out.mono ?_)
  rintro e w3 ⟨rfl, ht3⟩
  have hb3 := ht3.below hb2 hg2 (Nat.le_refl _)
  obtain ⟨v3, hg3⟩ := ht3.at_
  have he := Lib.hid (show Calls Tryd.prog 20 #[.iface 93 (.int .i64 6), .int .i64 6] w3 fun e w' => e = .returned (.bool true) ∧ Below w3.heap.size w3 w' from error_calls 6 6 w3 (hE.below hb3))
  have hf := Lib.hid fun (w4 : World) (hb : Below w3.heap.size w3 w4) => gdead_calls false _ w.heap.size v3 w4 (hg3.only (Only.of_below hb (Nat.le_refl _) (fun _ => False)) (fun _ _ h => h))
  clear hd2 ht3 hb2 hg2 hg3
  go_wp2_with fail
  (with_reducible refine he.out.mono ?_)
  rintro e w4 ⟨rfl, hb4⟩
  have hf2 := Lib.hid (show Calls Tryd.prog 22 #[.pointer (some ⟨w.heap.size, 0, none⟩)] w4 fun e w' => e = .returned (.int .i64 4) ∧ w4 = w' from hf.out w4 hb4)
  have hb5 := hb3.trans (hb4.mono hb3.size)
  clear he hf hb4 hb3
  go_wp2_with fail
  (with_reducible refine hf2.out.mono ?_)
  rintro e w5 ⟨rfl, rfl⟩
  clear hf2
  go_wp2_with fail
  go_ret
  exact ⟨rfl, hb5⟩
end Go.Proofs.YtkindaadadggoaaDoor
