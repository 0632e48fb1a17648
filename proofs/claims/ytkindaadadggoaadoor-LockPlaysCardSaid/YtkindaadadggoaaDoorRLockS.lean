/- Contract of the reference's Stuck. Conditions: the contract's own premises. -/
import Derived.Test.YtkindaadadggoaaDoorRLockW
import Derived.Test.YtkindaadadggoaaDoorRef1
namespace Go.Proofs.YtkindaadadggoaaDoor
open Go.RowKit

set_option maxRecDepth 20000 in
set_option maxHeartbeats 2000000 in
theorem rstuck_calls (l : Lk.L) (vh vw va : Value) (B : Nat) (w : World) (hB : B ≤ w.heap.size) (hI : Lk.Inv l) (hr : Ints w B vh (zs (Lk.holds l))) (hu : Ints w B vw (Lk.wantsI l)) :
    Calls Tryd.prog 43 #[.agg #[vh, vw, nv l.shr, va]] w fun e w' => e = .returned (nv (Lk.stuck l)) ∧ Below w.heap.size w w' := by
  have HW := Lib.hid fun (w5 : World) (h5 : Below w.heap.size w w5) => rwaits_calls l vh vw va B w5 (Nat.le_trans hB h5.size) hI (Rd.below hr (h5.mono hB)) (Rd.below hu (h5.mono hB))
  have HF := Lib.hid (Lk.fits_waits hI)
  have hlen := Lk.length_waits l
  have HSK := Lib.hid (show Lk.stuck l = Odr.mk 5 fun i => Odr.rel (Odr.closed (Lk.waits l)) i i from rfl)
  have hlc : (Odr.closed (Lk.waits l)).length = 5 := by rw [Odr.length_closed, hlen]
  have HC5 := Lib.hid fun (t : Nat) => (show (Odr.closed (Lk.waits l)).getD t 0 < 2 ^ 5 by have := HF.out.closed.getD t; rwa [hlc] at this)
  have hcl := Lib.hid fun (v : Value) (w5 : World) (B5 : Nat) (h5 : B5 ≤ w5.heap.size) (hv : Ints w5 B5 v (zs (Lk.waits l))) => rclosed_calls (Lk.waits l) v B5 w5 h5 hv (by omega) HF.out
  have HB0 := Lib.hid ((Below.refl w.heap.size w).alloc (Nat.le_refl _) (.cells #[vh, vw, nv l.shr, va] 62))
  clear hr hu hI hlen
  generalize Lk.stuck l = sk at *
  go_enter Tryd.func43, Tryd.ntmps43
  go_wp2_with fail
  (with_reducible refine (HW.out _ HB0.out).mono ?_)
  rintro e w1 ⟨v1, rfl, hown1, hb1⟩
  have HB1 := Lib.hid (HB0.out.trans (hb1.mono HB0.out.size))
  have h2 := Lib.hid (hcl.out v1 w1 w1.heap.size (Nat.le_refl _) hown1.ints)
  clear HW hcl HF hown1 hb1
  go_wp2_with fail
  (with_reducible refine h2.out.mono ?_)
  rintro e w2 ⟨v2, rfl, hown2, hb2⟩
  have HB2 := Lib.hid (HB1.out.trans (hb2.mono HB1.out.size))
  obtain ⟨A2, c2, he2⟩ := Rd.val hown2.ints
  rw [length_zs, hlc] at he2
  subst he2
  have HI2 := Lib.hid hown2.ints
  clear h2 hown2 hb2
  generalize Odr.closed (Lk.waits l) = C at *
  go_wp2_with fail
  go_loopw [4, 5] (fun sv tv wr => ∃ t : Nat, t ≤ 5 ∧ sv = nv (Odr.mk t fun i => Odr.rel C i i) ∧ tv = nv t ∧ wr = w2) (fun _ tv _ => 5 - (intOf tv).toNat)
  case atStart => exact ⟨0, by omega, rfl, rfl, rfl⟩
  case round =>
    obtain ⟨t, ht, rfl, rfl, rfl⟩ := hrel
    by_cases ht5 : t < 5
    · obtain ⟨b1, off, c1', he, hbb, d0⟩ := Ints.atN HI2.out (k := t) (by omega)
      rw [hlc] at he
      cases he
      have h5 := HC5.out t
      have hp2 : 2 ^ t ≤ 2 ^ 4 := Nat.pow_le_pow_right (by omega) (by omega)
      have hst : Odr.mk t (fun i => Odr.rel C i i) < 2 ^ 4 := Nat.lt_of_lt_of_le (Odr.mk_lt t _) hp2
      have HSU := Lib.hid (show Odr.mk (t + 1) (fun i => Odr.rel C i i) = if (C.getD t 0).testBit t = true then 2 ^ t + Odr.mk t (fun i => Odr.rel C i i) else Odr.mk t (fun i => Odr.rel C i i) from rfl)
      have hbit := Lib.hid fun w5 : World => bit_calls (C.getD t 0) t w5 (by omega) (by omega)
      have hpw := Lib.hid fun w5 : World => pow2_calls t w5 (by omega)
      generalize C.getD t 0 = x at *
      generalize Odr.mk t (fun i => Odr.rel C i i) = S at *
      generalize 2 ^ t = p at *
      cases hb : x.testBit t
      · rw [hb] at hbit
        have hS := Lib.hid (show Odr.mk (t + 1) (fun i => Odr.rel C i i) = S by simp [HSU.out, hb])
        clear HSU hb
        go_wp2_with (go_at_call 29; (with_reducible refine (hbit.out _).mono ?_); rintro e w' ⟨rfl, rfl⟩)
        go_roundw
        case rel => exact ⟨t + 1, by omega, by rw [hS.out], by go_num, by trivial⟩
        case measure => simp [intOf]; omega
      · rw [hb] at hbit
        have hS := Lib.hid (show Odr.mk (t + 1) (fun i => Odr.rel C i i) = p + S by simp [HSU.out, hb])
        clear HSU hb
        go_wp2_with (first | (go_at_call 29; (with_reducible refine (hbit.out _).mono ?_); rintro e w' ⟨rfl, rfl⟩) | (go_at_call 66; (with_reducible refine (hpw.out _).mono ?_); rintro e w' ⟨rfl, rfl⟩))
        go_roundw
        case rel => exact ⟨t + 1, by omega, by rw [hS.out]; go_num, by go_num, by trivial⟩
        case measure => simp [intOf]; omega
    · obtain rfl : t = 5 := by omega
      go_wp2_with fail
      go_ret
      exact ⟨by rw [HSK.out]; rfl, HB2.out⟩
end Go.Proofs.YtkindaadadggoaaDoor
