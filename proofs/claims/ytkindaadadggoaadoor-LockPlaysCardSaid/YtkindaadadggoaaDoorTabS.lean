/- Contract of lock's Stuck. Conditions: the contract's own premises. -/
import Derived.Test.YtkindaadadggoaaDoorTabW
import Derived.Test.YtkindaadadggoaaDoorWar
namespace Go.Proofs.YtkindaadadggoaaDoor
open Go.RowKit

namespace Lk
open Odr
theorem mk_next {k : Nat} {p : Nat → Bool} (h : p k = true) : mk k p ||| 2 ^ k = mk (k + 1) p := by
  apply Nat.eq_of_testBit_eq
  intro i
  rw [Nat.testBit_or, testBit_mk, Nat.testBit_two_pow, testBit_mk]
  by_cases e : k = i
  · subst e; simp [h]
  · have e1 : decide (k = i) = false := by simpa using e
    have e2 : decide (i < k + 1) = decide (i < k) := by rw [decide_eq_decide]; omega
    rw [e1, e2]; simp
theorem mk_skip {k : Nat} {p : Nat → Bool} (h : p k = false) : mk (k + 1) p = mk k p := by rw [mk, h]; rfl
end Lk

set_option maxRecDepth 20000 in
set_option maxHeartbeats 4000000 in
theorem stuck_calls (l : Lk.L) (b : Nat) (v : Value) (w : World) (h : TabAt w b l v) (hI : Lk.Inv l) :
    Calls Tryd.prog 36 #[.pointer (some ⟨b, 0, none⟩)] w fun e w' => e = .returned (nv (Lk.stuck l)) ∧ Below w.heap.size w w' := by
  have hw := Lib.hid (waits_calls l b v w h hI)
  have HF := Lib.hid (Lk.fits_waits hI)
  have hlen := Lk.length_waits l
  have HSK := Lib.hid (show Lk.stuck l = Odr.mk 5 fun i => Odr.rel (Odr.closed (Lk.waits l)) i i from rfl)
  clear h hI
  generalize Lk.waits l = c0 at *
  generalize Lk.stuck l = sk at *
  go_enter Tryd.func36, Tryd.ntmps36
  have HL0 := Lib.hid hlen
  clear hlen
  go_wp2_with fail
  (with_reducible refine hw.out.mono ?_)
  rintro e w1 ⟨v1, rfl, hown, hb1⟩
  clear hw
  obtain ⟨A1, c1, rfl⟩ := Rd.val hown.ints
  rw [length_zs, HL0.out] at hown ⊢
  go_wp2_with fail
  go_loopw [12] (fun i wr => ∃ k : Nat, k ≤ 5 ∧ i = nv k ∧ Own wr w.heap.size (.slice A1 5 c1) (zs (Odr.closedTo c0 k)) ∧ Below w.heap.size w wr) (fun i _ => 5 - (intOf i).toNat)
  case atStart => exact ⟨0, Nat.zero_le _, rfl, hown, hb1⟩
  case round =>
    clear hown hb1
    obtain ⟨k, hk, rfl, hown, hb⟩ := hrel
    by_cases hkl : k < 5
    · have hcl := Odr.length_closedTo c0 k
      rw [HL0.out] at hcl
      have HC := Lib.hid (HF.out.closedTo k)
      have HST := Lib.hid (show Odr.closedTo c0 (k + 1) = Odr.wstep k (Odr.closedTo c0 k) from rfl)
      generalize Odr.closedTo c0 k = c at *
      have HCL := Lib.hid hcl
      have t3 : decide ((k : Int) < 5) = true := by simp; omega
      go_wp2_with fail
      clear t3
      go_loopw [17] (fun i wr => ∃ m : Nat, m ≤ 5 ∧ i = nv m ∧ Own wr w.heap.size (.slice A1 5 c1) (zs (Odr.wpart c k m)) ∧ Below w.heap.size w wr) (fun i _ => 5 - (intOf i).toNat)
      case atStart => exact ⟨0, Nat.zero_le _, rfl, by rw [Odr.wpart_zero]; exact hown, hb⟩
      case round =>
        clear hown hb hcl
        obtain ⟨m, hm, rfl, hown, hb⟩ := hrel
        by_cases hml : m < 5
        · have hwl : (zs (Odr.wpart c k m)).length = 5 := by rw [length_zs, Odr.length_wpart, HCL.out]
          obtain ⟨g, cap, he, gb, gs, _, gc, gf, gst⟩ := Own.shape hown (by omega)
          rw [hwl] at he
          cases he
          have gm := gc m (by omega)
          have gk := gc k (by omega)
          rw [zs_getElem, Odr.wpart_i] at gm
          rw [zs_getElem, Odr.wpart_k] at gk
          have gfm := gf m
          have GST := Lib.hid gst
          have hx12 : c.getD m 0 < 4096 := fits12 (l := c) (by rw [HCL.out]; decide) (HC.out.getD m)
          have hy12 : c.getD k 0 < 4096 := fits12 (l := c) (by rw [HCL.out]; decide) (HC.out.getD k)
          have hsucc := Lib.hid (Odr.wpart_succ c k m (by rw [HCL.out]; exact hml))
          have hset := Lib.hid (show (Odr.wpart c k m).set m (c.getD m 0) = Odr.wpart c k m by
            apply List.ext_getElem (by simp)
            intro j h1 h2
            rw [List.getElem_set]
            split
            · rename_i h; subst h
              have := Odr.wpart_i c k m
              rw [List.getD_eq_getElem?_getD, List.getElem?_eq_getElem h2] at this
              exact this.symm
            · rfl)
          have i1 : (0 : Int) ≤ (m : Int) := by omega
          have i2 : (m : Int) < 5 := by omega
          have i3 : (0 : Int) ≤ (k : Int) := by omega
          have i4 : (k : Int) < 5 := by omega
          clear gc gf gst
          generalize c.getD m 0 = x at *
          generalize c.getD k 0 = y at *
          by_cases hbit : x.testBit k = true
          · have HW := Lib.hid (show Odr.wrow y k x = x ||| y by unfold Odr.wrow; rw [if_pos hbit])
            go_wp2_with (go_at_call 58; refine (has12 _ _ _ hx12 (by omega)).mono ?_; rintro e w' ⟨rfl, rfl⟩)
            go_region
            go_wp2_with fail
            go_roundw
            case rel => exact ⟨m + 1, by omega, by go_num, by
              have h := GST.out m ((x ||| y : Nat) : Int)
              rw [zs_set] at h
              rw [bits_or x y (by omega) (by omega), hsucc.out, HW.out]
              exact h.drew, (hb.setCell (p := ⟨g, m, none⟩) gb _).drew⟩
            case measure => simp [intOf]; omega
          · have hbit' : x.testBit k = false := by simpa using hbit
            have HW := Lib.hid (show Odr.wrow y k x = x by unfold Odr.wrow; rw [if_neg hbit])
            clear hbit
            go_wp2_with (go_at_call 58; refine (has12 _ _ _ hx12 (by omega)).mono ?_; rintro e w' ⟨rfl, rfl⟩)
            go_roundw
            case rel => exact ⟨m + 1, by omega, by go_num, by rw [hsucc.out, HW.out, hset.out]; exact hown, hb⟩
            case measure => simp [intOf]; omega
        · obtain rfl : m = 5 := by omega
          clear hml
          rw [show Odr.wpart c k 5 = Odr.wpart c k c.length by rw [HCL.out], Odr.wpart_all, ← HST.out] at hown
          go_wp2_with fail
          go_roundw
          case rel => exact ⟨k + 1, by omega, by go_num, hown, hb⟩
          case measure => simp [intOf]; omega
    · obtain rfl : k = 5 := by omega
      clear hkl
      rw [show Odr.closedTo c0 5 = Odr.closed c0 by unfold Odr.closed; rw [HL0.out]] at hown
      have HCF := Lib.hid HF.out.closed
      have HCL := Lib.hid (show (Odr.closed c0).length = 5 by rw [Odr.length_closed, HL0.out])
      generalize Odr.closed c0 = c at *
      have HI := Lib.hid hown.ints
      have HB := Lib.hid hb
      clear hown hb
      go_wp2_with fail
      go_loop [6, 40] (fun sv iv' => ∃ m : Nat, m ≤ 5 ∧ iv' = nv m ∧ sv = nv (Odr.mk m fun i => Odr.rel c i i)) (fun _ iv' => 5 - (intOf iv').toNat)
      case atStart => exact ⟨0, Nat.zero_le _, rfl, rfl⟩
      case round =>
        obtain ⟨m, hm, rfl, rfl⟩ := hrel
        have hlt := Odr.mk_lt m fun i => Odr.rel c i i
        by_cases hml : m < 5
        · obtain ⟨b3, o3, d3, he, _, hcx⟩ := Ints.atN HI.out (k := m) (by rw [HCL.out]; exact hml)
          rw [HCL.out] at he
          cases he
          have hx12 : c.getD m 0 < 4096 := fits12 (l := c) (by rw [HCL.out]; decide) (HCF.out.getD m)
          have h32 : 2 ^ m ≤ 2 ^ 5 := Nat.pow_le_pow_right (by omega) hm
          have hrel := Lib.hid (show Odr.rel c m m = (c.getD m 0).testBit m from rfl)
          have hn1 := Lib.hid fun h => Lk.mk_next (k := m) (p := fun i => Odr.rel c i i) h
          have hn2 := Lib.hid fun h => Lk.mk_skip (k := m) (p := fun i => Odr.rel c i i) h
          have hor := bits_or_shl (Odr.mk m fun i => Odr.rel c i i) m (by omega) (by omega)
          generalize c.getD m 0 = x at *
          cases hbit : x.testBit m
          · have hz := Lib.hid (hn2.out (hrel.out.trans hbit))
            clear hn1 hn2 hor
            generalize (Odr.mk m fun i => Odr.rel c i i) = q at *
            go_wp2_with (go_at_call 58; refine (has12 _ _ _ hx12 (by omega)).mono ?_; rintro e w' ⟨rfl, rfl⟩)
            go_round
            case rel => exact ⟨m + 1, by omega, by go_num, by rw [hz.out]⟩
            case measure => simp [intOf]; omega
          · have hz := Lib.hid (hn1.out (hrel.out.trans hbit))
            rw [hz.out] at hor
            clear hn1 hn2
            generalize (Odr.mk m fun i => Odr.rel c i i) = q at *
            go_wp2_with (go_at_call 58; refine (has12 _ _ _ hx12 (by omega)).mono ?_; rintro e w' ⟨rfl, rfl⟩)
            go_round
            case rel => exact ⟨m + 1, by omega, by go_num, rfl⟩
            case measure => simp [intOf]; omega
        · obtain rfl : m = 5 := by omega
          rw [← HSK.out]
          go_wp2_with fail
          go_ret
          exact ⟨rfl, HB.out⟩
end Go.Proofs.YtkindaadadggoaaDoor
