/- Contract of the reference's Widest. Conditions: the contract's own premises. -/
import Derived.Test.YtpicjikjinkkpaaDoorRefWM
import Derived.Test.YtpicjikjinkkpaaDoorKeep
import Derived.Test.YtpicjikjinkkpaaDoorMany
namespace Go.Proofs.YtpicjikjinkkpaaDoor
open Go.RowKit

theorem both12c (a b : Nat) (w : World) (ha : a < 4096) (hb : b < 4096) : Calls Tryd.prog 28 #[nv a, nv b] w fun e w' => e = .returned (nv (a &&& b)) ∧ w = w' :=
  both_calls a b w (by omega) (by omega)
set_option maxRecDepth 20000 in
set_option maxHeartbeats 1000000 in
theorem rsidec_calls (c : List Nat) (v : Value) (s : Nat) (w : World) (hr : Ints w w.heap.size v (zs c)) (hc : c.length ≤ 12) (hf : Odr.Fits c) (hs : s < 2 ^ c.length) :
    Calls Tryd.prog 72 #[v, nv s] w fun e w' => e = .returned (.bool (Odr.sideB c s)) ∧ w = w' := by
  have hs12 : s < 4096 := Nat.lt_of_lt_of_le hs (show 2 ^ c.length ≤ 2 ^ 12 from Nat.pow_le_pow_right (by omega) hc)
  have HS := Lib.hid hs
  have HF := Lib.hid hf
  obtain ⟨A, cap, rfl⟩ := Rd.val hr
  have hlz : (zs c).length = c.length := by simp
  rw [hlz] at hr ⊢
  have HR := Lib.hid hr
  clear hs hf hlz hr
  go_enter Tryd.func72, Tryd.ntmps72
  go_wp2_with fail
  go_loop [5] (fun i => ∃ k : Nat, k ≤ c.length ∧ i = nv k ∧ Hid (∀ j, j < k → s.testBit j = true → c.getD j 0 &&& s = 0)) (fun i => c.length - (intOf i).toNat)
  case atStart => exact ⟨0, Nat.zero_le _, rfl, Lib.hid fun j hj => absurd hj (by omega)⟩
  case round =>
    obtain ⟨k, hk, rfl, hall⟩ := hrel
    by_cases hkc : k < c.length
    · obtain ⟨b0, off, cap', he, _, gx⟩ := Ints.atN HR.out (k := k) hkc
      injection he with he1 he2 he3
      subst he1 he3
      clear he2
      have hx12 : c.getD k 0 < 4096 := fits12 (l := c) hc (HF.out.getD k)
      have hB := Lib.hid (bit12 s k w hs12 (by omega))
      have hO := Lib.hid (both12c (c.getD k 0) s w hx12 hs12)
      obtain ⟨x, hx⟩ : ∃ x, x = c.getD k 0 := ⟨_, rfl⟩
      rw [← hx] at gx hx12 hO
      have HX := Lib.hid hx
      clear hx
      cases hbit : s.testBit k with
      | false =>
        rw [hbit] at hB
        have hall' := Lib.hid (show ∀ j, j < k + 1 → s.testBit j = true → c.getD j 0 &&& s = 0 from fun j hj hb => by
          rcases Nat.lt_or_ge j k with h | h
          · exact hall.out j h hb
          · obtain rfl : j = k := by omega
            rw [hbit] at hb; cases hb)
        clear hbit hO
        go_wp2_with fail
        refine hB.out.mono ?_
        rintro e w' ⟨rfl, rfl⟩
        clear hB
        go_wp2_with fail
        go_round
        case rel => exact ⟨k + 1, by omega, by go_num, hall'⟩
        case measure => simp [intOf]; omega
      | true =>
        rw [hbit] at hB
        by_cases hz : x &&& s = 0
        · have hall' := Lib.hid (show ∀ j, j < k + 1 → s.testBit j = true → c.getD j 0 &&& s = 0 from fun j hj hb => by
            rcases Nat.lt_or_ge j k with h | h
            · exact hall.out j h hb
            · obtain rfl : j = k := by omega
              rw [← HX.out]; exact hz)
          rw [hz] at hO
          clear hbit hz
          go_wp2_with fail
          refine hB.out.mono ?_
          rintro e w' ⟨rfl, rfl⟩
          clear hB
          go_wp2_with fail
          refine hO.out.mono ?_
          rintro e w' ⟨rfl, rfl⟩
          clear hO
          go_wp2_with fail
          go_round
          case rel => exact ⟨k + 1, by omega, by go_num, hall'⟩
          case measure => simp [intOf]; omega
        · have HZ := Lib.hid (show Odr.sideB c s = false by
            cases h : Odr.sideB c s with
            | false => rfl
            | true =>
              have := of_decide_eq_true (List.all_eq_true.1 h k ((mem_bitsOf hs12).2 hbit))
              rw [← HX.out] at this
              exact absurd this hz)
          have hnz : (((x &&& s : Nat) : Int) != 0) = true := by simp; omega
          obtain ⟨y, hy⟩ : ∃ y, y = x &&& s := ⟨_, rfl⟩
          rw [← hy] at hO hnz
          clear hbit hz hy
          go_wp2_with fail
          refine hB.out.mono ?_
          rintro e w' ⟨rfl, rfl⟩
          clear hB
          go_wp2_with fail
          refine hO.out.mono ?_
          rintro e w' ⟨rfl, rfl⟩
          clear hO
          go_wp2_with fail
          go_ret
          exact ⟨by rw [HZ.out]; rfl, rfl⟩
    · obtain rfl : k = c.length := by omega
      have HZ := Lib.hid (show Odr.sideB c s = true from List.all_eq_true.2 fun x hx => decide_eq_true (by
        have hb := (mem_bitsOf hs12).1 hx
        exact hall.out x (Odr.bit_lt HS.out hb) hb))
      go_wp2_with fail
      go_ret
      exact ⟨by rw [HZ.out]; rfl, rfl⟩
set_option maxHeartbeats 2000000 in
theorem rwidest_calls (m : List Nat) (v : Value) (w : World) (hr : Ints w w.heap.size v (zs m)) (hv : Odr.Valid m) :
    Calls Tryd.prog 58 #[v] w fun e w' => e = .returned (nv (Odr.widest (Odr.closed m))) ∧ Below w.heap.size w w' := by
  have hchk := Lib.hid (rclosed_calls m v w.heap.size w (Nat.le_refl _) hr hv.few hv.fits)
  have hfew := hv.few
  obtain ⟨c, hc⟩ : ∃ c, c = Odr.closed m := ⟨_, rfl⟩
  have hcl : c.length = m.length := by rw [hc]; exact Odr.length_closed m
  have hcf : Odr.Fits c := by rw [hc]; exact hv.fits.closed
  have HW := Lib.hid (Odr.wdn_all (c := c) (by omega))
  obtain ⟨A0, cap0, rfl⟩ := Rd.val hr
  have hlz : (zs m).length = c.length := by rw [length_zs, hcl]
  rw [hlz] at hchk ⊢
  rw [← hc] at hchk ⊢
  have hlt : c.length ≤ 12 := by omega
  clear hr hv hc hlz hcl hfew
  obtain ⟨N, hN⟩ : ∃ N, N = 2 ^ c.length := ⟨_, rfl⟩
  have hN12 : N ≤ 4096 := by rw [hN]; exact (show 2 ^ c.length ≤ 2 ^ 12 from Nat.pow_le_pow_right (by omega) hlt)
  have hN1 : 0 < N := by rw [hN]; exact Nat.two_pow_pos _
  have HP := Lib.hid fun w5 => pow2_calls c.length w5 (by omega)
  rw [← hN] at HP HW
  have HN := Lib.hid hN
  clear hN
  go_enter Tryd.func58, Tryd.ntmps58
  go_wp2_with fail
  (with_reducible refine hchk.out.mono ?_)
  rintro e w1 ⟨u, rfl, hown, hb1⟩
  clear hchk
  obtain ⟨A, cap, rfl⟩ := Rd.val hown.ints
  rw [length_zs] at hown ⊢
  have hI := Lib.hid hown.ints
  have HB1 := Lib.hid hb1
  have HS := Lib.hid fun s (hs : s < N) (w5 : World) (hb : Below w1.heap.size w1 w5) => rsidec_calls c (.slice A c.length cap) s w5 ((Rd.below hI.out hb).more hb.size) hlt hcf (by rw [← HN.out]; exact hs)
  clear hown hb1 hI hcf
  have e1 : IntKind.i64.wrap ((N : Int) - 1) = (N : Int) - 1 := IntWalk.i64_in _ (by constructor <;> omega)
  go_wp2_with fail
  (with_reducible refine (HP.out _).mono ?_)
  rintro e w5 ⟨rfl, rfl⟩
  clear HP
  go_wp2_with fail
  go_loopw [4, 5] (fun b i wr => ∃ k s : Nat, s + k = N - 1 ∧ i = nv s ∧ b = nv (Odr.wdn c N k) ∧ Odr.wdn c N k < 4096 ∧ Hid (Below w1.heap.size w1 wr)) (fun _ i _ => (intOf i).toNat)
  case atStart => exact ⟨0, N - 1, by omega, by first | rfl | go_num | (simp; omega), rfl, by show (0 : Nat) < 4096; omega, Lib.hid (Below.refl _ _)⟩
  case round =>
    obtain ⟨k, s, hsk, rfl, rfl, h1, hb⟩ := hrel
    by_cases hs0 : 0 < s
    · have hM1 := Lib.hid fun w5 => rmany_calls s w5 (by omega)
      have hM2 := Lib.hid fun w5 => rmany_calls (Odr.wdn c N k) w5 h1
      have hS := Lib.hid (HS.out s (by omega) wr hb.out)
      have hnx := Lib.hid (show Odr.wdn c N (k + 1) = if Odr.pop 12 (Odr.wdn c N k) ≤ Odr.pop 12 s ∧ Odr.sideB c s = true then s else Odr.wdn c N k by
        rw [Odr.wdn, show N - 1 - k = s by omega])
      obtain ⟨b', hbe'⟩ : ∃ b', b' = Odr.wdn c N (k + 1) := ⟨_, rfl⟩
      obtain ⟨b, hbe⟩ : ∃ b, b = Odr.wdn c N k := ⟨_, rfl⟩
      rw [← hbe'] at hnx
      rw [← hbe] at hnx hM2 h1 ⊢
      have HBE' := Lib.hid hbe'
      clear hbe' hbe
      generalize Odr.sideB c s = sb at *
      have hp1 := Odr.cnt_le 12 s.testBit
      have hp2 := Odr.cnt_le 12 b.testBit
      change Odr.pop 12 s ≤ 12 at hp1
      change Odr.pop 12 b ≤ 12 at hp2
      generalize Odr.pop 12 s = p at *
      generalize Odr.pop 12 b = q at *
      by_cases hqp : q ≤ p
      · cases sb with
        | true =>
          have hb' := hnx.out
          rw [if_pos ⟨hqp, rfl⟩] at hb'
          have HB' := Lib.hid hb'
          clear hnx hb'
          go_wp2_with fail
          (with_reducible refine (hM1.out _).mono ?_)
          rintro e w5 ⟨rfl, rfl⟩
          clear hM1
          go_wp2_with fail
          (with_reducible refine (hM2.out _).mono ?_)
          rintro e w5 ⟨rfl, rfl⟩
          clear hM2
          go_wp2_with fail
          (with_reducible refine hS.out.mono ?_)
          rintro e w6 ⟨rfl, rfl⟩
          clear hS
          go_wp2_with fail
          go_roundw
          case rel => exact ⟨k + 1, s - 1, by omega, by go_num, by rw [← HBE'.out, HB'.out], by rw [← HBE'.out, HB'.out]; omega, hb⟩
          case measure => simp [intOf]; omega
        | false =>
          have hb' := hnx.out
          rw [if_neg (by simp)] at hb'
          have HB' := Lib.hid hb'
          clear hnx hb'
          go_wp2_with fail
          (with_reducible refine (hM1.out _).mono ?_)
          rintro e w5 ⟨rfl, rfl⟩
          clear hM1
          go_wp2_with fail
          (with_reducible refine (hM2.out _).mono ?_)
          rintro e w5 ⟨rfl, rfl⟩
          clear hM2
          go_wp2_with fail
          (with_reducible refine hS.out.mono ?_)
          rintro e w6 ⟨rfl, rfl⟩
          clear hS
          go_wp2_with fail
          go_roundw
          case rel => exact ⟨k + 1, s - 1, by omega, by go_num, by rw [← HBE'.out, HB'.out], by rw [← HBE'.out, HB'.out]; exact h1, hb⟩
          case measure => simp [intOf]; omega
      · have hb' := hnx.out
        rw [if_neg (fun h => hqp h.1)] at hb'
        have HB' := Lib.hid hb'
        clear hnx hb' hS
        go_wp2_with fail
        (with_reducible refine (hM1.out _).mono ?_)
        rintro e w5 ⟨rfl, rfl⟩
        clear hM1
        go_wp2_with fail
        (with_reducible refine (hM2.out _).mono ?_)
        rintro e w5 ⟨rfl, rfl⟩
        clear hM2
        go_wp2_with fail
        go_roundw
        case rel => exact ⟨k + 1, s - 1, by omega, by go_num, by rw [← HBE'.out, HB'.out], by rw [← HBE'.out, HB'.out]; exact h1, hb⟩
        case measure => simp [intOf]; omega
    · obtain rfl : s = 0 := by omega
      obtain rfl : k = N - 1 := by omega
      obtain ⟨z, hz⟩ : ∃ z, z = Odr.widest c := ⟨_, rfl⟩
      have HZ := Lib.hid hz
      rw [HW.out, ← hz]
      clear hz
      have hfin := HB1.out.trans (hb.out.mono HB1.out.size)
      clear hb HW
      go_wp2_with fail
      go_ret
      exact ⟨by rw [← HZ.out]; rfl, hfin⟩
end Go.Proofs.YtpicjikjinkkpaaDoor
