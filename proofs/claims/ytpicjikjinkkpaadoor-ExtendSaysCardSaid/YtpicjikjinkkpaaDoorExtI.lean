/- Contract of extend.Is. Conditions: the contract's own premises. -/
import Derived.Test.YtpicjikjinkkpaaDoorExtW
namespace Go.Proofs.YtpicjikjinkkpaaDoor
open Go.RowKit

/-- an error of a number: none, or one of package api -/
def errv (c : Nat) : Value := if c = 0 then .nilIface else .iface 56 (nv c)

theorem eis_err (l : List Int) (v u : Value) (w : World) (hr : Ints w w.heap.size v l) (hne : orderCode l ≠ 0) :
    Calls Tryd.prog 37 #[v, u] w fun e w' => e = .returned (.tuple #[.bool false, .iface 56 (nv (orderCode l))]) ∧ Below w.heap.size w w' := by
  have h := Lib.hid (ahead_err l v w hr hne)
  go_enter Tryd.func37, Tryd.ntmps37
  go_wp2_with fail
  refine h.out.mono ?_
  rintro e w1 ⟨rfl, hb1⟩
  clear h hr
  go_wp2_with fail
  go_ret2
  exact ⟨rfl, hb1⟩

set_option maxRecDepth 20000 in
set_option maxHeartbeats 2000000 in
theorem eis_ok (m : List Nat) (l : List Int) (v u : Value) (w : World) (hr : Ints w w.heap.size v (zs m)) (hu : Ints w w.heap.size u l) (hv : Odr.Valid m) (hT : Tab w) :
    Calls Tryd.prog 37 #[v, u] w fun e w' => e = .returned (.tuple #[.bool (Odr.isRes m l).1, errv (Odr.isRes m l).2]) ∧ Below w.heap.size w w' := by
  have h := Lib.hid (ahead_ok m v w hr hv hT)
  have hfew := hv.few
  have htl := Odr.length_turned m
  have hplt := Lib.hid (Odr.turned_getD_lt m)
  have hR := Lib.hid (show Odr.isRes m l = if l.length = m.length then Odr.isGo (Odr.turned m) m.length 0 l else (false, 3) from rfl)
  generalize Odr.isRes m l = res at *
  clear hv hr hT
  generalize Odr.turned m = pre at *
  generalize m.length = n at *
  obtain ⟨A0, c0, rfl⟩ := Rd.val hu
  have hml := Rd.le hu
  unfold maxLen at hml
  by_cases hl : l.length = n
  · have hR2 := hR.out
    rw [if_pos hl] at hR2
    have HR2 := Lib.hid hR2
    have hl' : ((l.length : Int) != (n : Int)) = false := by simp [hl]
    have HL := Lib.hid hl
    clear hR hR2 hl
    go_enter Tryd.func37, Tryd.ntmps37
    go_wp2_with fail
    refine h.out.mono ?_
    rintro e w1 ⟨p, rfl, hown, hb1⟩
    clear h
    obtain ⟨A, cap, rfl⟩ := Rd.val hown.ints
    rw [length_zs, htl] at hown ⊢
    have HOWN := Lib.hid hown.ints
    have HB1 := Lib.hid hb1
    have HU := Lib.hid (Rd.below hu hb1)
    clear hown hb1 hu
    go_wp2_with fail
    go_loop [8, 27] (fun o i => ∃ k d : Nat, k ≤ l.length ∧ i = nv k ∧ o = nv d ∧ d < 2 ^ n ∧ Hid (Odr.isGo pre n d (l.drop k) = res)) (fun _ i => l.length - (intOf i).toNat)
    case atStart => exact ⟨0, 0, Nat.zero_le _, rfl, rfl, Nat.two_pow_pos n, Lib.hid HR2.out.symm⟩
    case round =>
      obtain ⟨k, d, hk, rfl, rfl, hd, hgo⟩ := hrel
      have hd12 : d < 4096 := Nat.lt_of_lt_of_le hd (show 2 ^ n ≤ 2 ^ 12 from Nat.pow_le_pow_right (by omega) hfew)
      have HDN := Lib.hid hd
      clear hd
      by_cases hkl : k < l.length
      · obtain ⟨b0, off, cq, he, _, gc⟩ := Ints.at_ HU.out hkl
        injection he with he1 he2 he3
        subst he1 he3
        clear he2
        have hgo2 := hgo.out
        rw [List.drop_eq_getElem_cons hkl] at hgo2
        generalize l[k] = i at *
        unfold Odr.isGo at hgo2
        have hpred : IntKind.i64.wrap ((n : Int) - 1) = (n : Int) - 1 := IntWalk.i64_in _ (by constructor <;> omega)
        by_cases hi : 0 ≤ i ∧ i < n
        · rw [if_pos hi] at hgo2
          obtain ⟨i, rfl⟩ := Int.eq_ofNat_of_zero_le hi.1
          have hin : i < n := by omega
          rw [Int.toNat_natCast] at hgo2
          obtain ⟨bp, op, cp, he, pbase, pc⟩ := Ints.atN HOWN.out (k := i) (by rw [htl]; exact hin)
          rw [htl] at he
          injection he with he1 he2 he3
          subst he1 he3
          clear he2
          have hy12 : pre.getD i 0 < 4096 := Nat.lt_of_lt_of_le (hplt.out i) (show 2 ^ n ≤ 2 ^ 12 from Nat.pow_le_pow_right (by omega) hfew)
          have hav1 : Odr.avail pre d i = (!d.testBit i && decide (Odr.diff (pre.getD i 0) d = 0)) := rfl
          obtain ⟨y, hy⟩ : ∃ y, y = pre.getD i 0 := ⟨_, rfl⟩
          rw [← hy] at pc hy12 hav1
          have hdf := bits_andNot y d (by omega) (by omega)
          have hH := Lib.hid (has12 d i w1 hd12 (by omega))
          clear hy hi hl'
          cases hbit : d.testBit i with
          | true =>
            rw [hbit] at hH hav1
            rw [hav1, if_neg (by simp)] at hgo2
            have HG2 := Lib.hid hgo2
            clear hav1 hdf hbit hgo2 hgo
            go_wp2_with (go_at_call 62; refine (within_yes _ _ _ _ (by omega) (by omega)).mono ?_; rintro e w' ⟨rfl, rfl⟩)
            refine hH.out.mono ?_
            rintro e w5 ⟨rfl, rfl⟩
            clear hH
            go_wp2_with fail
            go_ret2
            exact ⟨by rw [← HG2.out]; rfl, HB1.out⟩
          | false =>
            rw [hbit] at hH hav1
            by_cases hz0 : Odr.diff y d = 0
            · have hz : (bits .andNot .i64 (y : Int) (d : Int) != 0) = false := by rw [hdf, hz0]; rfl
              rw [hav1, hz0, if_pos (by simp)] at hgo2
              have HG2 := Lib.hid hgo2
              have HDN2 := Lib.hid (show d ||| 2 ^ i < 2 ^ n from Nat.or_lt_two_pow HDN.out (Nat.pow_lt_pow_right (by omega) hin))
              clear hav1 hdf hbit hgo2 hgo hz0
              go_wp2_with (go_at_call 62; refine (within_yes _ _ _ _ (by omega) (by omega)).mono ?_; rintro e w' ⟨rfl, rfl⟩)
              refine hH.out.mono ?_
              rintro e w5 ⟨rfl, rfl⟩
              clear hH
              go_wp2_with fail
              go_round
              case rel => exact ⟨k + 1, d ||| 2 ^ i, by omega, by go_num, by rw [bits_or_shl _ _ (by omega) (by omega)], HDN2.out, HG2⟩
              case measure => simp [intOf]; omega
            · have hz : (bits .andNot .i64 (y : Int) (d : Int) != 0) = true := by rw [hdf]; simp; omega
              rw [hav1, decide_eq_false hz0, if_neg (by simp)] at hgo2
              have HG2 := Lib.hid hgo2
              clear hav1 hdf hbit hgo2 hgo hz0
              go_wp2_with (go_at_call 62; refine (within_yes _ _ _ _ (by omega) (by omega)).mono ?_; rintro e w' ⟨rfl, rfl⟩)
              refine hH.out.mono ?_
              rintro e w5 ⟨rfl, rfl⟩
              clear hH
              go_wp2_with fail
              go_ret2
              exact ⟨by rw [← HG2.out]; rfl, HB1.out⟩
        · rw [if_neg hi] at hgo2
          have HG2 := Lib.hid hgo2
          have hW := Lib.hid (within_no i 0 ((n : Int) - 1) w1 (by omega))
          clear hi hgo2 hgo hl'
          go_wp2_with fail
          refine hW.out.mono ?_
          rintro e w5 ⟨rfl, rfl⟩
          clear hW
          go_wp2_with fail
          go_ret2
          exact ⟨by rw [← HG2.out]; rfl, HB1.out⟩
      · have hgo2 := hgo.out
        rw [List.drop_of_length_le (by omega)] at hgo2
        have HG2 := Lib.hid hgo2
        obtain rfl : k = l.length := by omega
        clear hgo hgo2 hkl hl'
        go_wp2_with fail
        go_ret2
        exact ⟨by rw [← HG2.out]; rfl, HB1.out⟩
  · have hR2 := hR.out
    rw [if_neg hl] at hR2
    have HR2 := Lib.hid hR2
    have hl' : ((l.length : Int) != (n : Int)) = true := by simp; omega
    clear hR hR2 hl hu
    go_enter Tryd.func37, Tryd.ntmps37
    go_wp2_with fail
    refine h.out.mono ?_
    rintro e w1 ⟨p, rfl, hown, hb1⟩
    clear h
    obtain ⟨A, cap, rfl⟩ := Rd.val hown.ints
    rw [length_zs, htl]
    clear hown
    go_wp2_with fail
    go_ret2
    exact ⟨by rw [HR2.out]; rfl, hb1⟩

end Go.Proofs.YtpicjikjinkkpaaDoor
