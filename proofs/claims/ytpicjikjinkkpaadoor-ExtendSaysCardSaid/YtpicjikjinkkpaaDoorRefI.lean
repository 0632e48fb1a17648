/- Contract of the reference's Is: whether a list is a row, and what is wrong. Conditions: the contract's own premises. -/
import Derived.Test.YtpicjikjinkkpaaDoorRefE
namespace Go.Proofs.YtpicjikjinkkpaaDoor
open Go.RowKit

theorem rin_yes (n lo hi : Int) (w : World) (h1 : lo ≤ n) (h2 : n ≤ hi) : Calls Tryd.prog 73 #[.int .i64 n, .int .i64 lo, .int .i64 hi] w fun e w' => e = .returned (.bool true) ∧ w = w' := by
  go_enter Tryd.func73, Tryd.ntmps73
  go_wp2
  go_ret
  exact ⟨rfl, rfl⟩
theorem rin_no (n lo hi : Int) (w : World) (h : ¬ (lo ≤ n ∧ n ≤ hi)) : Calls Tryd.prog 73 #[.int .i64 n, .int .i64 lo, .int .i64 hi] w fun e w' => e = .returned (.bool false) ∧ w = w' := by
  by_cases h1 : lo ≤ n
  · have h2 : decide (n ≤ hi) = false := by simp; omega
    clear h
    go_enter Tryd.func73, Tryd.ntmps73
    go_wp2
    go_ret
    exact ⟨rfl, rfl⟩
  · clear h
    go_enter Tryd.func73, Tryd.ntmps73
    go_wp2
    go_ret
    exact ⟨rfl, rfl⟩
set_option maxRecDepth 20000 in
set_option maxHeartbeats 2000000 in
theorem ris_calls (m : List Nat) (l : List Int) (v u : Value) (w : World) (hr : Ints w w.heap.size v (zs m)) (hu : Ints w w.heap.size u l) (hv : Odr.Valid m) :
    Calls Tryd.prog 56 #[v, u] w fun e w' => e = .returned (.tuple #[.bool (Odr.isRes m l).1, nv (Odr.isRes m l).2]) ∧ Below w.heap.size w w' := by
  have h := Lib.hid (rturned_calls m v w hr hv.few hv.fits)
  have hfew := hv.few
  have htl := Odr.length_turned m
  have hplt := Lib.hid (Odr.turned_getD_lt m)
  have hR := Lib.hid (show Odr.isRes m l = if l.length = m.length then Odr.isGo (Odr.turned m) m.length 0 l else (false, 3) from rfl)
  obtain ⟨Av, cv, rfl⟩ := Rd.val hr
  have hlz : (zs m).length = m.length := by simp
  rw [hlz] at hr h ⊢
  generalize Odr.isRes m l = res at *
  clear hv hr hlz
  generalize Odr.turned m = pre at *
  generalize m.length = n at *
  obtain ⟨A0, c0, rfl⟩ := Rd.val hu
  have hml := Rd.le hu
  unfold maxLen at hml
  by_cases hl : l.length = n
  · have hR2 := hR.out
    rw [if_pos hl] at hR2
    have HR2 := Lib.hid hR2
    have hl' : ((l.length : Int) != (n : Int)) = false := by simp [hl]
    have HL := Lib.hid hl
    clear hR hR2 hl
    go_enter Tryd.func56, Tryd.ntmps56
    go_wp2_with fail
    refine h.out.mono ?_
    rintro e w1 ⟨p, rfl, hown, hb1⟩
    clear h
    obtain ⟨A, cap, rfl⟩ := Rd.val hown.ints
    rw [length_zs, htl] at hown ⊢
    have HOWN := Lib.hid hown.ints
    have HB1 := Lib.hid hb1
    have HU := Lib.hid (Rd.below hu hb1)
    clear hown hb1 hu
    go_wp2_with fail
    go_loop [7, 8] (fun o i => ∃ k d : Nat, k ≤ l.length ∧ i = nv k ∧ o = nv d ∧ d < 2 ^ n ∧ Hid (Odr.isGo pre n d (l.drop k) = res)) (fun _ i => l.length - (intOf i).toNat)
    case atStart => exact ⟨0, 0, Nat.zero_le _, rfl, rfl, Nat.two_pow_pos n, Lib.hid HR2.out.symm⟩
    case round =>
      obtain ⟨k, d, hk, rfl, rfl, hd, hgo⟩ := hrel
      have hd12 : d < 4096 := Nat.lt_of_lt_of_le hd (show 2 ^ n ≤ 2 ^ 12 from Nat.pow_le_pow_right (by omega) hfew)
      have HDN := Lib.hid hd
      clear hd
      by_cases hkl : k < l.length
      · obtain ⟨b0, off, cq, he, _, gc⟩ := Ints.at_ HU.out hkl
        injection he with he1 he2 he3
        subst he1 he3
        clear he2
        have hgo2 := hgo.out
        rw [List.drop_eq_getElem_cons hkl] at hgo2
        generalize l[k] = i at *
        unfold Odr.isGo at hgo2
        by_cases hi : 0 ≤ i ∧ i < n
        · rw [if_pos hi] at hgo2
          obtain ⟨i, rfl⟩ := Int.eq_ofNat_of_zero_le hi.1
          have hin : i < n := by omega
          rw [Int.toNat_natCast] at hgo2
          obtain ⟨bp, op, cp, he, pbase, pc⟩ := Ints.atN HOWN.out (k := i) (by rw [htl]; exact hin)
          rw [htl] at he
          injection he with he1 he2 he3
          subst he1 he3
          clear he2
          have hy12 : pre.getD i 0 < 4096 := Nat.lt_of_lt_of_le (hplt.out i) (show 2 ^ n ≤ 2 ^ 12 from Nat.pow_le_pow_right (by omega) hfew)
          have hav1 : Odr.avail pre d i = (!d.testBit i && decide (Odr.diff (pre.getD i 0) d = 0)) := rfl
          have hB := Lib.hid fun w5 => bit12 d i w5 hd12 (by omega)
          have hS := Lib.hid fun w5 => sub12 (pre.getD i 0) d w5 hy12 hd12
          have hP := Lib.hid fun w5 => pow2_calls i w5 (by omega)
          obtain ⟨y, hy⟩ : ∃ y, y = pre.getD i 0 := ⟨_, rfl⟩
          rw [← hy] at pc hy12 hav1 hS
          clear hy hi hl'
          have hI := Lib.hid fun w5 => rin_yes (i : Int) 0 ((n : Int) - 1) w5 (by omega) (by omega)
          cases hbit : d.testBit i with
          | true =>
            rw [hbit] at hB hav1
            rw [hav1, if_neg (by simp)] at hgo2
            have HG2 := Lib.hid hgo2
            clear hav1 hbit hgo2 hgo hS hP
            go_wp2_with fail
            refine (hI.out _).mono ?_
            rintro e w5 ⟨rfl, rfl⟩
            clear hI
            go_wp2_with fail
            refine (hB.out _).mono ?_
            rintro e w5 ⟨rfl, rfl⟩
            clear hB
            go_wp2_with fail
            go_ret2
            exact ⟨by rw [← HG2.out]; rfl, HB1.out⟩
          | false =>
            rw [hbit] at hB hav1
            by_cases hz0 : Odr.diff y d = 0
            · rw [decide_eq_true hz0] at hS
              rw [hav1, hz0, if_pos (by simp), Odr.or_bit hbit] at hgo2
              have HG2 := Lib.hid hgo2
              have HDN2 := Lib.hid (show d + 2 ^ i < 2 ^ n by rw [← Odr.or_bit hbit]; exact Nat.or_lt_two_pow HDN.out (Nat.pow_lt_pow_right (by omega) hin))
              have h2i : 2 ^ i ≤ 2048 := show 2 ^ i ≤ 2 ^ 11 from Nat.pow_le_pow_right (by omega) (by omega)
              clear hav1 hbit hgo2 hgo hz0
              obtain ⟨p2, hp2⟩ : ∃ p2, p2 = 2 ^ i := ⟨_, rfl⟩
              rw [← hp2] at hP HG2 HDN2 h2i
              clear hp2
              go_wp2_with fail
              refine (hI.out _).mono ?_
              rintro e w5 ⟨rfl, rfl⟩
              clear hI
              go_wp2_with fail
              refine (hB.out _).mono ?_
              rintro e w5 ⟨rfl, rfl⟩
              clear hB
              go_wp2_with fail
              refine (hS.out _).mono ?_
              rintro e w5 ⟨rfl, rfl⟩
              clear hS
              go_wp2_with fail
              refine (hP.out _).mono ?_
              rintro e w5 ⟨rfl, rfl⟩
              clear hP
              go_wp2_with fail
              go_round
              case rel => exact ⟨k + 1, d + p2, by omega, by go_num, by go_num, HDN2.out, HG2⟩
              case measure => simp [intOf]; omega
            · rw [decide_eq_false hz0] at hS
              rw [hav1, decide_eq_false hz0, if_neg (by simp)] at hgo2
              have HG2 := Lib.hid hgo2
              clear hav1 hbit hgo2 hgo hz0 hP
              go_wp2_with fail
              refine (hI.out _).mono ?_
              rintro e w5 ⟨rfl, rfl⟩
              clear hI
              go_wp2_with fail
              refine (hB.out _).mono ?_
              rintro e w5 ⟨rfl, rfl⟩
              clear hB
              go_wp2_with fail
              refine (hS.out _).mono ?_
              rintro e w5 ⟨rfl, rfl⟩
              clear hS
              go_wp2_with fail
              go_ret2
              exact ⟨by rw [← HG2.out]; rfl, HB1.out⟩
        · rw [if_neg hi] at hgo2
          have HG2 := Lib.hid hgo2
          have hI := Lib.hid fun w5 => rin_no i 0 ((n : Int) - 1) w5 (by omega)
          clear hi hgo2 hgo hl'
          go_wp2_with fail
          refine (hI.out _).mono ?_
          rintro e w5 ⟨rfl, rfl⟩
          clear hI
          go_wp2_with fail
          go_ret2
          exact ⟨by rw [← HG2.out]; rfl, HB1.out⟩
      · have hgo2 := hgo.out
        rw [List.drop_of_length_le (by omega)] at hgo2
        have HG2 := Lib.hid hgo2
        obtain rfl : k = l.length := by omega
        clear hgo hgo2 hkl hl'
        go_wp2_with fail
        go_ret2
        exact ⟨by rw [← HG2.out]; rfl, HB1.out⟩
  · have hR2 := hR.out
    rw [if_neg hl] at hR2
    have HR2 := Lib.hid hR2
    have hl' : ((l.length : Int) != (n : Int)) = true := by simp; omega
    clear hR hR2 hl hu h
    go_enter Tryd.func56, Tryd.ntmps56
    go_wp2_with fail
    go_ret2
    exact ⟨by rw [HR2.out]; rfl, Below.refl _ _⟩
end Go.Proofs.YtpicjikjinkkpaaDoor
