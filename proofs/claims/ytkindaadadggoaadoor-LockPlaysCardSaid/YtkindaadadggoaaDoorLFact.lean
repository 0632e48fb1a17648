/- The closed fact on locks; what a table's methods leave. Conditions: each contract's own premises. -/
import Derived.Test.YtkindaadadggoaaDoorTabW
import Derived.Test.YtkindaadadggoaaDoorAs
namespace Go.Proofs.YtkindaadadggoaaDoor
open Go.RowKit

section
variable {W w w' : World} {b : Nat} {l l' : Lk.L} {v : Value}
theorem TabTo.at_ (h : TabTo w b v l w') : ∃ v', TabAt w' b l v' := by obtain ⟨v', h1, _⟩ := h; exact ⟨v', h1⟩
theorem TabTo.below (h : TabTo w b v l w') (hb : Below W.heap.size W w) (h0 : TabAt w b l' v) (hB : W.heap.size ≤ b) : Below W.heap.size W w' := by
  obtain ⟨v', _, h2, _⟩ := h
  exact hb.trans (h2.below hb.size (fun k hk => Nat.le_trans hB (h0.foot k hk).1))
theorem TabTo.onlyF (h : TabTo w b v l w') : Only (Foot b v) w w' := by obtain ⟨v', _, h2, _⟩ := h; exact h2
end

set_option maxRecDepth 20000 in
set_option maxHeartbeats 1000000 in
theorem lockFact_calls (w : World) (hE : ErrTy w) : Calls Tryd.prog 32 #[] w fun e w' => e = .returned (.bool true) ∧ Below w.heap.size w w' := by
  have hn := Lib.hid (lnew_calls w)
  go_enter Tryd.func32, Tryd.ntmps32
  go_wp2_with fail
  (with_reducible refine hn.out.mono ?_)
  rintro e w1 ⟨rfl, hg1, hb1⟩
  have hd1 := Lib.hid (show Calls Tryd.prog 34 #[.pointer (some ⟨w.heap.size, 0, none⟩), .agg #[.int .i64 1, .int .i64 0, .int .i64 1, .int .i64 0]] w1 fun e w' => e = .returned .nilIface ∧ TabTo w1 w.heap.size (.slice none 0 0) (Lk.lstep Lk.l0 (1, 0, 1, 0)).1 w' from
    ldo_any Lk.l0 1 0 1 0 w.heap.size _ w1 hg1 Lk.inv0 (by decide) (by decide) (by decide) 0)
  clear hn
  go_wp2_with fail
  (with_reducible refine hd1.out.mono ?_)
  rintro e w2 ⟨rfl, ht2⟩
  have hb2 := ht2.below hb1 hg1 (Nat.le_refl _)
  obtain ⟨v2, hg2⟩ := ht2.at_
  have hI2 : Lk.Inv (Lk.lstep Lk.l0 (1, 0, 1, 0)).1 := Lk.inv_step Lk.inv0 ⟨by decide, by decide, by decide, fun h => absurd h (by decide)⟩
  have hd2 := Lib.hid (show Calls Tryd.prog 34 #[.pointer (some ⟨w.heap.size, 0, none⟩), .agg #[.int .i64 0, .int .i64 1, .int .i64 1, .int .i64 0]] w2 fun e w' => e = .returned (.iface 93 (.int .i64 6)) ∧ TabTo w2 w.heap.size v2 (Lk.lstep (Lk.lstep Lk.l0 (1, 0, 1, 0)).1 (0, 1, 1, 0)).1 w' from
    ldo_any _ 0 1 1 0 w.heap.size _ w2 hg2 hI2 (by decide) (by decide) (by decide) 0)
  clear hd1 ht2 hb1 hg1
  go_wp2_with fail
  (with_reducible refine hd2.out.mono ?_)
  rintro e w3 ⟨rfl, ht3⟩
  have hb3 := ht3.below hb2 hg2 (Nat.le_refl _)
  obtain ⟨v3, hg3⟩ := ht3.at_
  have hI3 : Lk.Inv (Lk.lstep (Lk.lstep Lk.l0 (1, 0, 1, 0)).1 (0, 1, 1, 0)).1 := Lk.inv_step hI2 ⟨by decide, by decide, by decide, fun h => absurd h (by decide)⟩
  have hw := Lib.hid (waits_calls _ w.heap.size v3 w3 hg3 hI3)
  have hlist := Lib.hid (show Lk.waits (Lk.lstep (Lk.lstep Lk.l0 (1, 0, 1, 0)).1 (0, 1, 1, 0)).1 = [0, 1, 0, 0, 0] by rfl)
  rw [hlist.out] at hw
  clear hd2 ht3 hb2 hg2 hI2 hI3 hg3
  go_wp2_with fail
  (with_reducible refine hw.out.mono ?_)
  rintro e w4 ⟨v4, rfl, hown4, hb4⟩
  have hb5 := hb3.trans (hb4.mono hb3.size)
  have he := Lib.hid (show Calls Tryd.prog 20 #[.iface 93 (.int .i64 6), .int .i64 6] w4 fun e w' => e = .returned (.bool true) ∧ Below w4.heap.size w4 w' from error_calls 6 6 w4 (hE.below hb5))
  have HI := Lib.hid hown4.ints
  clear hw hb4 hb3 hown4
  obtain ⟨A4, c4, rfl⟩ := Rd.val HI.out
  go_wp2_with fail
  (with_reducible refine he.out.mono ?_)
  rintro e w5 ⟨rfl, hb6⟩
  have hb7 := hb5.trans (hb6.mono hb5.size)
  obtain ⟨b6, o6, c6, hv6, _, hc6⟩ := Ints.atN (Rd.below HI.out hb6) (k := 1) (by decide)
  cases hv6
  have hc : w5.cell? ⟨b6, o6 + 1, none⟩ = some (.int .i64 1) := hc6
  clear he hb5 hb6 hc6 HI
  go_wp2_with fail
  go_ret
  exact ⟨rfl, hb7⟩
end Go.Proofs.YtkindaadadggoaaDoor
