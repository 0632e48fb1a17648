/- Contracts of the reference for rows: First, Is. Conditions: each contract's own premises. -/
import Derived.Test.YtpicjikjinkkpaaDoorExtI
import Derived.Test.YtpicjikjinkkpaaDoorKeep
import Derived.Test.YtpicjikjinkkpaaDoorSub
namespace Go.Proofs.YtpicjikjinkkpaaDoor
open Go.RowKit

theorem sub12 (a b : Nat) (w : World) (ha : a < 4096) (hb : b < 4096) : Calls Tryd.prog 27 #[nv a, nv b] w fun e w' => e = .returned (.bool (decide (Odr.diff a b = 0))) ∧ w = w' :=
  sub_calls a b w (by omega) (by omega)
set_option maxRecDepth 20000 in
set_option maxHeartbeats 2000000 in
theorem rfirst_calls (m : List Nat) (v : Value) (w : World) (hr : Ints w w.heap.size v (zs m)) (hv : Odr.Valid m) :
    Calls Tryd.prog 54 #[v] w fun e w' => (∃ v', e = .returned v' ∧ Kept w' v' (zs (Odr.firstRow m))) ∧ Below w.heap.size w w' := by
  have HC := Lib.hid (rturned_calls m v w hr hv.few hv.fits)
  have hfew := hv.few
  have htl := Odr.length_turned m
  have hplt := Lib.hid (Odr.turned_getD_lt m)
  have hF := Lib.hid (fun k (hk : k ≤ m.length) => Odr.firsts_fine hv k hk)
  have hA := Lib.hid (fun k (hk : k < m.length) => Odr.exists_avail (l := Odr.firsts (Odr.turned m) m.length k) hv (Odr.firsts_fine hv k (by omega)).2.1.nodup (Odr.firsts_fine hv k (by omega)).2.2 (by rw [(Odr.firsts_fine hv k (by omega)).1]; exact hk))
  have hR := Lib.hid (show Odr.firstRow m = Odr.firsts (Odr.turned m) m.length m.length from rfl)
  obtain ⟨A0, cap0, rfl⟩ := Rd.val hr
  have hlz : (zs m).length = m.length := by simp
  rw [hlz] at hr HC ⊢
  clear hv hr hlz
  generalize Odr.turned m = pre at *
  generalize Odr.firstRow m = frow at *
  generalize m.length = n at *
  go_enter Tryd.func54, Tryd.ntmps54
  go_wp2_with fail
  refine HC.out.mono ?_
  rintro e w1 ⟨u, rfl, hown, hb1⟩
  clear HC
  obtain ⟨A, cap, rfl⟩ := Rd.val hown.ints
  rw [length_zs, htl] at hown ⊢
  have HOWN := Lib.hid hown.ints
  have HB1 := Lib.hid hb1
  clear hown hb1
  go_wp2_with fail
  go_loopw [4, 5] (fun d o wr => ∃ k : Nat, k ≤ n ∧ d = nv (Odr.bag (Odr.firsts pre n k)) ∧ Own wr w1.heap.size o (zs (Odr.firsts pre n k)) ∧ Below w1.heap.size w1 wr) (fun _ o _ => n - lenOf o)
  case atStart => exact ⟨0, Nat.zero_le _, rfl, Own.nil _ _, Below.refl _ _⟩
  case round =>
    obtain ⟨k, hk, rfl, ho, hb⟩ := hrel
    obtain ⟨hlk, hfk, hmk⟩ := hF.out k hk
    obtain ⟨A6, c6, rfl⟩ := Rd.val ho.ints
    rw [length_zs, hlk] at ho ⊢
    have hd12 : Odr.bag (Odr.firsts pre n k) < 4096 := Nat.lt_of_lt_of_le (Odr.bag_lt hmk) (show 2 ^ n ≤ 2 ^ 12 from Nat.pow_le_pow_right (by omega) hfew)
    have HFK := Lib.hid hlk
    have HMK := Lib.hid hmk
    clear hlk hfk hmk
    by_cases hkn : k < n
    · have hav := Lib.hid (hA.out k hkn)
      have HO := Lib.hid ho
      obtain ⟨d, hd⟩ : ∃ d, d = Odr.bag (Odr.firsts pre n k) := ⟨_, rfl⟩
      rw [← hd] at hav hd12 ⊢
      have HD := Lib.hid hd
      have HBW := Lib.hid hb
      clear hd ho hb
      go_wp2_with fail
      go_loop [6] (fun i => ∃ j : Nat, i = nv j ∧ j ≤ n ∧ Hid (∀ x, x < j → Odr.avail pre d x = false)) (fun i => n - (intOf i).toNat)
      case atStart => exact ⟨0, rfl, Nat.zero_le _, Lib.hid fun x hx => absurd hx (by omega)⟩
      case round =>
        obtain ⟨j, rfl, hjn, hbef⟩ := hrel
        have hj : j < n := by
          obtain ⟨x, hx, hax⟩ := hav.out
          refine Nat.lt_of_not_le fun h => ?_
          have := hbef.out x (by omega)
          rw [hax] at this; cases this
        obtain ⟨bp, op, cp, he, _, pc⟩ := Ints.atN (Rd.below HOWN.out HBW.out) (k := j) (by rw [htl]; exact hj)
        rw [htl] at he
        injection he with he1 he2 he3
        subst he1 he3
        clear he2
        have hy12 : pre.getD j 0 < 4096 := Nat.lt_of_lt_of_le (hplt.out j) (show 2 ^ n ≤ 2 ^ 12 from Nat.pow_le_pow_right (by omega) hfew)
        have hav1 : Odr.avail pre d j = (!d.testBit j && decide (Odr.diff (pre.getD j 0) d = 0)) := rfl
        have hB := Lib.hid fun w5 => bit12 d j w5 hd12 (by omega)
        have hS := Lib.hid fun w5 => sub12 (pre.getD j 0) d w5 hy12 hd12
        have hP := Lib.hid fun w5 => pow2_calls j w5 (by omega)
        obtain ⟨y, hy⟩ : ∃ y, y = pre.getD j 0 := ⟨_, rfl⟩
        rw [← hy] at pc hy12 hav1 hS
        clear hy
        have HNO := Lib.hid (show Odr.avail pre d j = false → Hid (∀ x, x < j + 1 → Odr.avail pre d x = false) from fun h0 => Lib.hid fun x hx => by
          rcases Nat.lt_or_ge x j with h | h
          · exact hbef.out x h
          · obtain rfl : x = j := by omega
            exact h0)
        cases hbit : d.testBit j with
        | true =>
          rw [hbit] at hB hav1
          have H0 := Lib.hid (HNO.out hav1)
          clear hav1 HNO hbit hS hP
          go_wp2_with fail
          refine (hB.out _).mono ?_
          rintro e w5 ⟨rfl, rfl⟩
          clear hB
          go_wp2_with fail
          go_round
          case rel => exact ⟨j + 1, by go_num, by omega, H0.out⟩
          case measure => simp [intOf]; omega
        | false =>
          rw [hbit] at hB hav1
          by_cases hz : Odr.diff y d = 0
          · rw [decide_eq_true hz] at hS
            have hon := Odr.firsts_some (pre := pre) (n := n) (k := k) hj (by rw [← HD.out, hav1, hz]; rfl) (by rw [← HD.out]; exact hbef.out)
            have HON := Lib.hid hon
            have hor := Odr.or_bit hbit
            have HDB := Lib.hid (show Odr.bag (Odr.firsts pre n (k + 1)) = d + 2 ^ j by rw [hon, Odr.bag_snoc, ← HD.out, hor])
            have h2j : 2 ^ j ≤ 2048 := show 2 ^ j ≤ 2 ^ 11 from Nat.pow_le_pow_right (by omega) (by omega)
            have ho := HO.out
            have hb := HBW.out
            clear hav1 HNO hbit hz hon hor
            obtain ⟨p2, hp2⟩ : ∃ p2, p2 = 2 ^ j := ⟨_, rfl⟩
            rw [← hp2] at hP h2j HDB
            clear hp2
            go_wp2_with fail
            refine (hB.out _).mono ?_
            rintro e w5 ⟨rfl, rfl⟩
            clear hB
            go_wp2_with fail
            refine (hS.out _).mono ?_
            rintro e w5 ⟨rfl, rfl⟩
            clear hS
            go_wp2_with fail
            refine (hP.out _).mono ?_
            rintro e w5 ⟨rfl, rfl⟩
            clear hP
            go_wp2_with (at_builtin; refine append_int rfl _ _ rfl w1.heap.size _ (zs (Odr.firsts pre n k)) rfl (Own.alloc ho _) wr.heap.size rfl j (by simp) (by rw [length_zs, HFK.out]; omega) (by have := hb.size; simp; omega) ?_; intro v' w6 hown6 hb6 _; obtain ⟨A7, c7, rfl⟩ := Rd.val hown6.ints)
            go_roundw
            case rel => exact ⟨k + 1, by omega, by rw [HDB.out]; go_num, by rw [HON.out]; simpa [zs] using hown6, (hb.alloc hb.size _).trans hb6⟩
            case measure => have := HFK.out; simp [lenOf]; omega
          · rw [decide_eq_false hz] at hS
            have H0 := Lib.hid (HNO.out (by rw [hav1, decide_eq_false hz]; rfl))
            clear hav1 HNO hbit hz hP
            go_wp2_with fail
            refine (hB.out _).mono ?_
            rintro e w5 ⟨rfl, rfl⟩
            clear hB
            go_wp2_with fail
            refine (hS.out _).mono ?_
            rintro e w5 ⟨rfl, rfl⟩
            clear hS
            go_wp2_with fail
            go_round
            case rel => exact ⟨j + 1, by go_num, by omega, H0.out⟩
            case measure => simp [intOf]; omega
    · obtain rfl : k = n := by omega
      rw [← hR.out] at ho
      have HFIN := Lib.hid (And.intro (Kept.of ho.ints) (HB1.out.trans (hb.mono HB1.out.size)))
      clear ho hb hkn
      go_wp2_with fail
      go_ret
      exact ⟨⟨_, rfl, HFIN.out.1⟩, HFIN.out.2⟩
end Go.Proofs.YtpicjikjinkkpaaDoor
