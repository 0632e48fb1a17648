/- Contracts of package extend: First, Is. Conditions: each contract's own premises. -/
import Derived.Test.YtpicjikjinkkpaaDoorExt
import Derived.Test.YtpicjikjinkkpaaDoorExtF
namespace Go.Proofs.YtpicjikjinkkpaaDoor
open Go.RowKit

theorem first_err (l : List Int) (v : Value) (w : World) (hr : Ints w w.heap.size v l) (hne : orderCode l ≠ 0) :
    Calls Tryd.prog 36 #[v] w fun e w' => e = .returned (.tuple #[.slice none 0 0, .iface 56 (nv (orderCode l))]) ∧ Below w.heap.size w w' := by
  have h := Lib.hid (ahead_err l v w hr hne)
  go_enter Tryd.func36, Tryd.ntmps36
  go_wp2_with fail
  refine h.out.mono ?_
  rintro e w1 ⟨rfl, hb1⟩
  clear h hr
  go_wp2_with fail
  go_ret2
  exact ⟨rfl, hb1⟩

theorem avail12 {pre : List Nat} {d i : Nat} (h : Odr.avail pre d i = true) : d.testBit i = false ∧ Odr.diff (pre.getD i 0) d = 0 := by
  unfold Odr.avail at h
  simpa using h

set_option maxRecDepth 20000 in
set_option maxHeartbeats 2000000 in
theorem first_ok (m : List Nat) (v : Value) (w : World) (hr : Ints w w.heap.size v (zs m)) (hv : Odr.Valid m) (hT : Tab w) :
    Calls Tryd.prog 36 #[v] w fun e w' => ∃ v', e = .returned (.tuple #[v', .nilIface]) ∧ Own w' w.heap.size v' (zs (Odr.firstRow m)) ∧ Below w.heap.size w w' := by
  have h := Lib.hid (ahead_ok m v w hr hv hT)
  have hfew := hv.few
  have htl := Odr.length_turned m
  have hplt := Lib.hid (Odr.turned_getD_lt m)
  have hF := Lib.hid (fun k (hk : k ≤ m.length) => Odr.firsts_fine hv k hk)
  have hA := Lib.hid (fun k (hk : k < m.length) => Odr.exists_avail (l := Odr.firsts (Odr.turned m) m.length k) hv (Odr.firsts_fine hv k (by omega)).2.1.nodup (Odr.firsts_fine hv k (by omega)).2.2 (by rw [(Odr.firsts_fine hv k (by omega)).1]; exact hk))
  have hR := Lib.hid (show Odr.firstRow m = Odr.firsts (Odr.turned m) m.length m.length from rfl)
  clear hv hr hT
  generalize Odr.turned m = pre at *
  generalize Odr.firstRow m = frow at *
  generalize m.length = n at *
  go_enter Tryd.func36, Tryd.ntmps36
  go_wp2_with fail
  refine h.out.mono ?_
  rintro e w1 ⟨u, rfl, hown, hb1⟩
  clear h
  obtain ⟨A, cap, rfl⟩ := Rd.val hown.ints
  rw [length_zs, htl] at hown ⊢
  have HOWN := Lib.hid hown.ints
  have HB1 := Lib.hid hb1
  clear hown hb1
  go_wp2_with fail
  go_loopw [6, 7] (fun o d wr => ∃ k : Nat, k ≤ n ∧ d = nv (Odr.bag (Odr.firsts pre n k)) ∧ Own wr w1.heap.size o (zs (Odr.firsts pre n k)) ∧ Below w1.heap.size w1 wr) (fun o _ _ => n - lenOf o)
  case atStart => exact ⟨0, Nat.zero_le _, rfl, Own.nil _ _, Below.refl _ _⟩
  case round =>
    obtain ⟨k, hk, rfl, ho, hb⟩ := hrel
    obtain ⟨hlk, hfk, hmk⟩ := hF.out k hk
    obtain ⟨A6, c6, rfl⟩ := Rd.val ho.ints
    rw [length_zs, hlk] at ho ⊢
    have hd12 : Odr.bag (Odr.firsts pre n k) < 4096 := Nat.lt_of_lt_of_le (Odr.bag_lt hmk) (show 2 ^ n ≤ 2 ^ 12 from Nat.pow_le_pow_right (by omega) hfew)
    have HFK := Lib.hid (And.intro hlk (And.intro hfk hmk))
    clear hlk hfk hmk
    by_cases hkn : k < n
    · have hav := Lib.hid (hA.out k hkn)
      have HO := Lib.hid ho
      obtain ⟨d, hd⟩ : ∃ d, d = Odr.bag (Odr.firsts pre n k) := ⟨_, rfl⟩
      rw [← hd] at hav hd12 ⊢
      have HD := Lib.hid hd
      clear hd ho
      go_wp2_with fail
      go_loop [6, 7, 24] (fun o6 o7 i => o6 = .slice A6 k c6 ∧ o7 = nv d ∧ ∃ j : Nat, j ≤ n ∧ i = nv j ∧ Hid (∀ x, x < j → Odr.avail pre d x = false)) (fun _ _ i => n - (intOf i).toNat)
      case atStart => exact ⟨rfl, rfl, 0, Nat.zero_le _, rfl, Lib.hid fun x hx => absurd hx (by omega)⟩
      case round =>
        obtain ⟨rfl, rfl, j, hj, rfl, hbef⟩ := hrel
        by_cases hjn : j < n
        · obtain ⟨bp, op, cp, he, pbase, pc⟩ := Ints.atN (Rd.below HOWN.out hb) (k := j) (by rw [htl]; exact hjn)
          rw [htl] at he
          injection he with he1 he2 he3
          subst he1 he3
          clear he2
          have hy12 : pre.getD j 0 < 4096 := Nat.lt_of_lt_of_le (hplt.out j) (show 2 ^ n ≤ 2 ^ 12 from Nat.pow_le_pow_right (by omega) hfew)
          have hav1 : Odr.avail pre d j = (!d.testBit j && decide (Odr.diff (pre.getD j 0) d = 0)) := rfl
          obtain ⟨y, hy⟩ : ∃ y, y = pre.getD j 0 := ⟨_, rfl⟩
          rw [← hy] at pc hy12 hav1
          have hdf := bits_andNot y d (by omega) (by omega)
          have hH := Lib.hid (has12 d j wr hd12 (by omega))
          clear hy
          have hno : Odr.avail pre d j = false → Hid (∀ x, x < j + 1 → Odr.avail pre d x = false) := fun h0 => Lib.hid fun x hx => by
            rcases Nat.lt_or_ge x j with h | h
            · exact hbef.out x h
            · obtain rfl : x = j := by omega
              exact h0
          have HNO := Lib.hid hno
          clear hno
          cases hbit : d.testBit j with
          | true =>
            rw [hbit] at hH hav1
            have H0 := Lib.hid (HNO.out hav1)
            clear hav1 hdf HNO hbit
            go_wp2_with fail
            refine hH.out.mono ?_
            rintro e w5 ⟨rfl, rfl⟩
            clear hH
            go_wp2_with fail
            go_round
            case rel => exact ⟨rfl, rfl, j + 1, by omega, by go_num, H0.out⟩
            case measure => simp [intOf]; omega
          | false =>
            rw [hbit] at hH hav1
            by_cases hz0 : Odr.diff y d = 0
            · have hz : (bits .andNot .i64 (y : Int) (d : Int) == 0) = true := by rw [hdf, hz0]; rfl
              have hon := Odr.firsts_some (pre := pre) (n := n) (k := k) hjn (by rw [← HD.out, hav1, hz0]; rfl) (by rw [← HD.out]; exact hbef.out)
              have HON := Lib.hid hon
              have HDB := Lib.hid (show Odr.bag (Odr.firsts pre n (k + 1)) = d ||| 2 ^ j by rw [hon, Odr.bag_snoc, ← HD.out])
              clear hav1 hdf HNO hbit hz0 hon
              have ho := HO.out
              have hlf := HFK.out.1
              have HLF := Lib.hid hlf
              clear hlf
              go_wp2_with fail
              refine hH.out.mono ?_
              rintro e w5 ⟨rfl, rfl⟩
              clear hH
              go_wp2_with (at_builtin; refine append_int rfl _ _ rfl w1.heap.size _ (zs (Odr.firsts pre n k)) rfl (Own.alloc ho _) wr.heap.size rfl j (by simp) (by rw [length_zs, HLF.out]; omega) (by have := hb.size; simp; omega) ?_; intro v' w6 hown6 hb6 _; obtain ⟨A7, c7, rfl⟩ := Rd.val hown6.ints)
              go_roundw
              case rel => exact ⟨k + 1, by omega, by rw [bits_or_shl _ _ (by omega) (by omega), HDB.out], by rw [HON.out]; simpa [zs] using hown6, (hb.alloc hb.size _).trans hb6⟩
              case measure => have := HLF.out; simp [lenOf]; omega
            · have H0 := Lib.hid (HNO.out (by rw [hav1, decide_eq_false hz0]; rfl))
              have hz : (bits .andNot .i64 (y : Int) (d : Int) == 0) = false := by rw [hdf]; simp; omega
              clear hav1 hdf HNO hbit hz0
              go_wp2_with fail
              refine hH.out.mono ?_
              rintro e w5 ⟨rfl, rfl⟩
              clear hH
              go_wp2_with fail
              go_round
              case rel => exact ⟨rfl, rfl, j + 1, by omega, by go_num, H0.out⟩
              case measure => simp [intOf]; omega
        · exfalso
          obtain ⟨x, hx, hax⟩ := hav.out
          have := hbef.out x (by omega)
          rw [hax] at this; cases this
    · obtain rfl : k = n := by omega
      rw [← hR.out] at ho
      have HFIN := Lib.hid (And.intro (ho.lower HB1.out.size) (HB1.out.trans (hb.mono HB1.out.size)))
      clear ho hb hkn
      go_wp2_with fail
      go_ret2
      exact ⟨_, rfl, HFIN.out.1, HFIN.out.2⟩

end Go.Proofs.YtpicjikjinkkpaaDoor
