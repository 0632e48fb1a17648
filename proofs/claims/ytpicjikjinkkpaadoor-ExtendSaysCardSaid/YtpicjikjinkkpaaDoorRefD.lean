/- Contracts of the reference for closed sets: Side, Downs, Down, Last. Conditions: each contract's own premises. -/
import Derived.Test.YtpicjikjinkkpaaDoorDownS
import Derived.Test.YtpicjikjinkkpaaDoorKeep
namespace Go.Proofs.YtpicjikjinkkpaaDoor
open Go.RowKit

theorem both12 (a b : Nat) (w : World) (ha : a < 4096) (hb : b < 4096) : Calls Tryd.prog 28 #[nv a, nv b] w fun e w' => e = .returned (nv (a &&& b)) ∧ w = w' :=
  both_calls a b w (by omega) (by omega)
set_option maxRecDepth 20000 in
set_option maxHeartbeats 1000000 in
theorem rside_calls (c : List Nat) (v : Value) (s : Nat) (w : World) (hr : Ints w w.heap.size v (zs c)) (hc : c.length ≤ 12) (hf : Odr.Fits c) (hs : s < 2 ^ c.length) :
    Calls Tryd.prog 72 #[v, nv s] w fun e w' => e = .returned (.bool (Odr.sideB c s)) ∧ w = w' := by
  have hs12 : s < 4096 := Nat.lt_of_lt_of_le hs (show 2 ^ c.length ≤ 2 ^ 12 from Nat.pow_le_pow_right (by omega) hc)
  have HS := Lib.hid hs
  have HF := Lib.hid hf
  obtain ⟨A, cap, rfl⟩ := Rd.val hr
  have hlz : (zs c).length = c.length := by simp
  rw [hlz] at hr ⊢
  have HR := Lib.hid hr
  clear hs hf hlz hr
  go_enter Tryd.func72, Tryd.ntmps72
  go_wp2_with fail
  go_loop [5] (fun i => ∃ k : Nat, k ≤ c.length ∧ i = nv k ∧ Hid (∀ j, j < k → s.testBit j = true → c.getD j 0 &&& s = 0)) (fun i => c.length - (intOf i).toNat)
  case atStart => exact ⟨0, Nat.zero_le _, rfl, Lib.hid fun j hj => absurd hj (by omega)⟩
  case round =>
    obtain ⟨k, hk, rfl, hall⟩ := hrel
    by_cases hkc : k < c.length
    · obtain ⟨b0, off, cap', he, _, gx⟩ := Ints.atN HR.out (k := k) hkc
      injection he with he1 he2 he3
      subst he1 he3
      clear he2
      have hx12 : c.getD k 0 < 4096 := fits12 (l := c) hc (HF.out.getD k)
      have hB := Lib.hid (bit12 s k w hs12 (by omega))
      have hO := Lib.hid (both12 (c.getD k 0) s w hx12 hs12)
      obtain ⟨x, hx⟩ : ∃ x, x = c.getD k 0 := ⟨_, rfl⟩
      rw [← hx] at gx hx12 hO
      have HX := Lib.hid hx
      clear hx
      cases hbit : s.testBit k with
      | false =>
        rw [hbit] at hB
        have hall' := Lib.hid (show ∀ j, j < k + 1 → s.testBit j = true → c.getD j 0 &&& s = 0 from fun j hj hb => by
          rcases Nat.lt_or_ge j k with h | h
          · exact hall.out j h hb
          · obtain rfl : j = k := by omega
            rw [hbit] at hb; cases hb)
        clear hbit hO
        go_wp2_with fail
        refine hB.out.mono ?_
        rintro e w' ⟨rfl, rfl⟩
        clear hB
        go_wp2_with fail
        go_round
        case rel => exact ⟨k + 1, by omega, by go_num, hall'⟩
        case measure => simp [intOf]; omega
      | true =>
        rw [hbit] at hB
        by_cases hz : x &&& s = 0
        · have hall' := Lib.hid (show ∀ j, j < k + 1 → s.testBit j = true → c.getD j 0 &&& s = 0 from fun j hj hb => by
            rcases Nat.lt_or_ge j k with h | h
            · exact hall.out j h hb
            · obtain rfl : j = k := by omega
              rw [← HX.out]; exact hz)
          rw [hz] at hO
          clear hbit hz
          go_wp2_with fail
          refine hB.out.mono ?_
          rintro e w' ⟨rfl, rfl⟩
          clear hB
          go_wp2_with fail
          refine hO.out.mono ?_
          rintro e w' ⟨rfl, rfl⟩
          clear hO
          go_wp2_with fail
          go_round
          case rel => exact ⟨k + 1, by omega, by go_num, hall'⟩
          case measure => simp [intOf]; omega
        · have HZ := Lib.hid (show Odr.sideB c s = false by
            cases h : Odr.sideB c s with
            | false => rfl
            | true =>
              have := of_decide_eq_true (List.all_eq_true.1 h k ((mem_bitsOf hs12).2 hbit))
              rw [← HX.out] at this
              exact absurd this hz)
          have hnz : (((x &&& s : Nat) : Int) != 0) = true := by simp; omega
          obtain ⟨y, hy⟩ : ∃ y, y = x &&& s := ⟨_, rfl⟩
          rw [← hy] at hO hnz
          clear hbit hz hy
          go_wp2_with fail
          refine hB.out.mono ?_
          rintro e w' ⟨rfl, rfl⟩
          clear hB
          go_wp2_with fail
          refine hO.out.mono ?_
          rintro e w' ⟨rfl, rfl⟩
          clear hO
          go_wp2_with fail
          go_ret
          exact ⟨by rw [HZ.out]; rfl, rfl⟩
    · obtain rfl : k = c.length := by omega
      have HZ := Lib.hid (show Odr.sideB c s = true from List.all_eq_true.2 fun x hx => decide_eq_true (by
        have hb := (mem_bitsOf hs12).1 hx
        exact hall.out x (Odr.bit_lt HS.out hb) hb))
      go_wp2_with fail
      go_ret
      exact ⟨by rw [HZ.out]; rfl, rfl⟩
set_option maxRecDepth 20000 in
set_option maxHeartbeats 1000000 in
theorem rdowns_calls (m : List Nat) (v : Value) (w : World) (hr : Ints w w.heap.size v (zs m)) (hv : Odr.Valid m) :
    Calls Tryd.prog 50 #[v] w fun e w' => e = .returned (nv (Odr.downs m)) ∧ Below w.heap.size w w' := by
  have HC := Lib.hid (rclosed_calls m v w.heap.size w (Nat.le_refl _) hr hv.few hv.fits)
  have hcl := Odr.length_closed m
  have hfew := hv.few
  have hcf := Lib.hid hv.fits.closed
  have HD := Lib.hid (show Odr.downs m = Odr.cnt (2 ^ m.length) (Odr.sideB (Odr.closed m)) from (Odr.sides_downs hv).symm)
  have h2n : 2 ^ m.length ≤ 4096 := show 2 ^ m.length ≤ 2 ^ 12 from Nat.pow_le_pow_right (by omega) hfew
  have HP := Lib.hid fun w5 => pow2_calls m.length w5 (by omega)
  obtain ⟨A0, cap0, rfl⟩ := Rd.val hr
  have hlz : (zs m).length = m.length := by simp
  rw [hlz] at hr HC ⊢
  clear hr hv hlz
  obtain ⟨c, hc⟩ : ∃ c, c = Odr.closed m := ⟨_, rfl⟩
  rw [← hc] at HC hcl hcf HD
  clear hc
  obtain ⟨N, hN⟩ : ∃ N, N = 2 ^ m.length := ⟨_, rfl⟩
  rw [← hN] at HD h2n HP
  have HN := Lib.hid (show N = 2 ^ c.length by rw [hN, hcl])
  clear hN
  go_enter Tryd.func50, Tryd.ntmps50
  go_wp2_with fail
  refine HC.out.mono ?_
  rintro e w1 ⟨u, rfl, hown, hb⟩
  clear HC
  obtain ⟨A, cap, rfl⟩ := Rd.val hown.ints
  rw [length_zs, hcl] at hown ⊢
  have HI := Lib.hid hown.ints
  have HB := Lib.hid hb
  clear hown hb
  go_wp2_with fail
  go_loop [4, 5] (fun n i => ∃ k q : Nat, k ≤ N ∧ i = nv k ∧ n = nv q ∧ q ≤ k ∧ Hid (q = Odr.cnt k (Odr.sideB c))) (fun _ i => N - (intOf i).toNat)
  case atStart => exact ⟨0, 0, Nat.zero_le _, rfl, rfl, Nat.le_refl _, Lib.hid rfl⟩
  case round =>
    obtain ⟨k, q, hk, rfl, rfl, hqk, hq⟩ := hrel
    by_cases hkN : k < N
    · have hcN : k < 2 ^ c.length := by rw [← HN.out]; exact hkN
      have hS := Lib.hid (rside_calls c (.slice A m.length cap) k w1 HI.out (by omega) hcf.out hcN)
      clear hcN
      have hnx := Lib.hid (show Odr.cnt (k + 1) (Odr.sideB c) = q + if Odr.sideB c k = true then 1 else 0 by rw [hq.out]; rfl)
      cases hsb : Odr.sideB c k with
      | true =>
        rw [hsb] at hS
        have hn := Lib.hid (show q + 1 = Odr.cnt (k + 1) (Odr.sideB c) by rw [hnx.out, hsb]; rfl)
        clear hsb hnx hq
        go_wp2_with fail
        refine (HP.out _).mono ?_
        rintro e w' ⟨rfl, rfl⟩
        go_wp2_with fail
        refine hS.out.mono ?_
        rintro e w' ⟨rfl, rfl⟩
        clear hS
        go_wp2_with fail
        go_round
        case rel => exact ⟨k + 1, q + 1, by omega, by go_num, by go_num, by omega, hn⟩
        case measure => simp [intOf]; omega
      | false =>
        rw [hsb] at hS
        have hn := Lib.hid (show q = Odr.cnt (k + 1) (Odr.sideB c) by rw [hnx.out, hsb]; simp)
        clear hsb hnx hq
        go_wp2_with fail
        refine (HP.out _).mono ?_
        rintro e w' ⟨rfl, rfl⟩
        go_wp2_with fail
        refine hS.out.mono ?_
        rintro e w' ⟨rfl, rfl⟩
        clear hS
        go_wp2_with fail
        go_round
        case rel => exact ⟨k + 1, q, by omega, by go_num, rfl, by omega, hn⟩
        case measure => simp [intOf]; omega
    · obtain rfl : k = N := by omega
      have hfin := Lib.hid (show Odr.downs m = q by rw [HD.out, hq.out])
      clear hq hkN
      go_wp2_with fail
      refine (HP.out _).mono ?_
      rintro e w' ⟨rfl, rfl⟩
      go_wp2_with fail
      go_ret
      exact ⟨by rw [hfin.out]; rfl, HB.out⟩
set_option maxRecDepth 20000 in
set_option maxHeartbeats 1000000 in
theorem rdown_calls (m : List Nat) (v : Value) (s : Nat) (w : World) (hr : Ints w w.heap.size v (zs m)) (hv : Odr.Valid m) (hs : s < 2 ^ m.length) :
    Calls Tryd.prog 52 #[v, nv s] w fun e w' => e = .returned (nv (Odr.dclose m s)) ∧ Below w.heap.size w w' := by
  have HC := Lib.hid (rturned_calls m v w hr hv.few hv.fits)
  have htl := Odr.length_turned m
  have hfew := hv.few
  have hs12 := Odr.set12 hv hs
  have hplt := Lib.hid fun i => Nat.lt_of_lt_of_le (Odr.turned_getD_lt m i) (show 2 ^ m.length ≤ 2 ^ 12 from Nat.pow_le_pow_right (by omega) hfew)
  have hrlt := Lib.hid fun k => Nat.lt_of_lt_of_le (Odr.rdown_lt hs k) (show 2 ^ m.length ≤ 2 ^ 12 from Nat.pow_le_pow_right (by omega) hfew)
  have HD := Lib.hid (Odr.rdown_all hv hs)
  obtain ⟨A0, cap0, rfl⟩ := Rd.val hr
  have hlz : (zs m).length = m.length := by simp
  rw [hlz] at hr HC ⊢
  clear hr hv hlz hs
  generalize Odr.turned m = pre at *
  generalize Odr.dclose m s = fin at *
  generalize m.length = n at *
  go_enter Tryd.func52, Tryd.ntmps52
  go_wp2_with fail
  refine HC.out.mono ?_
  rintro e w1 ⟨u, rfl, hown, hb⟩
  clear HC
  obtain ⟨A, cap, rfl⟩ := Rd.val hown.ints
  rw [length_zs, htl] at hown ⊢
  have HI := Lib.hid hown.ints
  have HB := Lib.hid hb
  clear hown hb
  go_wp2_with fail
  go_loop [6, 7] (fun o i => ∃ k : Nat, k ≤ n ∧ i = nv k ∧ o = nv (Odr.rdown pre s k)) (fun _ i => n - (intOf i).toNat)
  case atStart => exact ⟨0, Nat.zero_le _, rfl, rfl⟩
  case round =>
    obtain ⟨k, hk, rfl, rfl⟩ := hrel
    by_cases hkn : k < n
    · obtain ⟨b0, off, cap', he, _, gx⟩ := Ints.atN HI.out (k := k) (by omega)
      rw [htl] at he
      injection he with he1 he2 he3
      subst he1 he3
      clear he2
      have hx12 := hplt.out k
      have hr12 := hrlt.out k
      have hB := Lib.hid (bit12 s k w1 hs12 (by omega))
      have hO := Lib.hid (either12 (Odr.rdown pre s k) (pre.getD k 0) w1 hr12 hx12)
      have hnx := Lib.hid (show Odr.rdown pre s (k + 1) = if s.testBit k = true then Odr.rdown pre s k ||| pre.getD k 0 else Odr.rdown pre s k from rfl)
      obtain ⟨x, hx⟩ : ∃ x, x = pre.getD k 0 := ⟨_, rfl⟩
      obtain ⟨y, hy⟩ : ∃ y, y = Odr.rdown pre s k := ⟨_, rfl⟩
      rw [← hx] at gx hx12
      rw [← hx, ← hy] at hO hnx
      rw [← hy] at hr12 ⊢
      clear hx hy
      cases hbit : s.testBit k with
      | false =>
        rw [hbit] at hB
        have hn := Lib.hid (show Odr.rdown pre s (k + 1) = y by rw [hnx.out, hbit]; simp)
        clear hbit hnx hO
        go_wp2_with fail
        refine hB.out.mono ?_
        rintro e w' ⟨rfl, rfl⟩
        clear hB
        go_wp2_with fail
        go_round
        case rel => exact ⟨k + 1, by omega, by go_num, by rw [hn.out]⟩
        case measure => simp [intOf]; omega
      | true =>
        rw [hbit] at hB
        have hn := Lib.hid (show Odr.rdown pre s (k + 1) = y ||| x by rw [hnx.out, hbit]; simp)
        clear hbit hnx
        go_wp2_with fail
        refine hB.out.mono ?_
        rintro e w' ⟨rfl, rfl⟩
        clear hB
        go_wp2_with fail
        refine hO.out.mono ?_
        rintro e w' ⟨rfl, rfl⟩
        clear hO
        go_wp2_with fail
        go_round
        case rel => exact ⟨k + 1, by omega, by go_num, by rw [hn.out]⟩
        case measure => simp [intOf]; omega
    · obtain rfl : k = n := by omega
      rw [HD.out]
      go_wp2_with fail
      go_ret
      exact ⟨rfl, HB.out⟩
set_option maxRecDepth 20000 in
set_option maxHeartbeats 1000000 in
theorem rlast_calls (m : List Nat) (v : Value) (s : Nat) (w : World) (hr : Ints w w.heap.size v (zs m)) (hv : Odr.Valid m) (hs : s < 2 ^ m.length) :
    Calls Tryd.prog 53 #[v, nv s] w fun e w' => e = .returned (nv (Odr.dlast m s)) ∧ Below w.heap.size w w' := by
  have HC := Lib.hid (rclosed_calls m v w.heap.size w (Nat.le_refl _) hr hv.few hv.fits)
  have hcl := Odr.length_closed m
  have hfew := hv.few
  have hs12 := Odr.set12 hv hs
  have hcf := Lib.hid hv.fits.closed
  have HD := Lib.hid (Odr.rlast_all hv hs)
  have HL := Lib.hid fun i => (show Odr.lastP m s i = (s.testBit i && decide ((Odr.closed m).getD i 0 &&& s = 0)) from rfl)
  obtain ⟨A0, cap0, rfl⟩ := Rd.val hr
  have hlz : (zs m).length = m.length := by simp
  rw [hlz] at hr HC ⊢
  clear hr hv hlz hs
  generalize Odr.lastP m s = P at *
  generalize Odr.closed m = c at *
  generalize Odr.dlast m s = fin at *
  generalize m.length = n at *
  go_enter Tryd.func53, Tryd.ntmps53
  go_wp2_with fail
  refine HC.out.mono ?_
  rintro e w1 ⟨u, rfl, hown, hb⟩
  clear HC
  obtain ⟨A, cap, rfl⟩ := Rd.val hown.ints
  rw [length_zs, hcl] at hown ⊢
  have HI := Lib.hid hown.ints
  have HB := Lib.hid hb
  clear hown hb
  go_wp2_with fail
  go_loop [6, 7] (fun o i => ∃ k q : Nat, k ≤ n ∧ i = nv k ∧ o = nv q ∧ q < 4096 ∧ Hid (q = Odr.mk k P)) (fun _ i => n - (intOf i).toNat)
  case atStart => exact ⟨0, 0, Nat.zero_le _, rfl, rfl, by omega, Lib.hid rfl⟩
  case round =>
    obtain ⟨k, q, hk, rfl, rfl, hq12, hq⟩ := hrel
    by_cases hkn : k < n
    · obtain ⟨b0, off, cap', he, _, gx⟩ := Ints.atN HI.out (k := k) (by omega)
      rw [hcl] at he
      injection he with he1 he2 he3
      subst he1 he3
      clear he2
      have hx12 : c.getD k 0 < 4096 := fits12 (l := c) (by omega) (hcf.out.getD k)
      have hB := Lib.hid (bit12 s k w1 hs12 (by omega))
      have hO := Lib.hid (both12 (c.getD k 0) s w1 hx12 hs12)
      have hW := Lib.hid (pow2_calls k w1 (by omega))
      have hnx := Lib.hid (show Odr.mk (k + 1) P = if P k = true then 2 ^ k + q else q by rw [Odr.mk, ← hq.out])
      have hPk := HL.out k
      have hlt := Odr.mk_lt (k + 1) P
      have h12 : 2 ^ (k + 1) ≤ 4096 := show 2 ^ (k + 1) ≤ 2 ^ 12 from Nat.pow_le_pow_right (by omega) (by omega)
      obtain ⟨x, hx⟩ : ∃ x, x = c.getD k 0 := ⟨_, rfl⟩
      rw [← hx] at gx hx12 hO hPk
      clear hx
      cases hbit : s.testBit k with
      | false =>
        rw [hbit] at hB hPk
        have hn := Lib.hid (show q = Odr.mk (k + 1) P by rw [hnx.out, hPk]; simp)
        clear hbit hnx hO hPk hW hlt hq
        go_wp2_with fail
        refine hB.out.mono ?_
        rintro e w' ⟨rfl, rfl⟩
        clear hB
        go_wp2_with fail
        go_round
        case rel => exact ⟨k + 1, q, by omega, by go_num, rfl, hq12, hn⟩
        case measure => simp [intOf]; omega
      | true =>
        rw [hbit] at hB hPk
        by_cases hz : x &&& s = 0
        · rw [hz] at hO hPk
          have hn := Lib.hid (show q + 2 ^ k = Odr.mk (k + 1) P by rw [hnx.out, hPk]; simp; omega)
          have hq2 : q + 2 ^ k < 4096 := by rw [hn.out]; omega
          clear hbit hnx hPk hlt hq hz
          generalize 2 ^ k = y at *
          go_wp2_with fail
          refine hB.out.mono ?_
          rintro e w' ⟨rfl, rfl⟩
          clear hB
          go_wp2_with fail
          refine hO.out.mono ?_
          rintro e w' ⟨rfl, rfl⟩
          clear hO
          go_wp2_with fail
          refine hW.out.mono ?_
          rintro e w' ⟨rfl, rfl⟩
          clear hW
          go_wp2_with fail
          go_round
          case rel => exact ⟨k + 1, q + y, by omega, by go_num, by go_num, hq2, hn⟩
          case measure => simp [intOf]; omega
        · have hn := Lib.hid (show q = Odr.mk (k + 1) P by rw [hnx.out, hPk, decide_eq_false hz]; simp)
          have hnz : (((x &&& s : Nat) : Int) == 0) = false := by simp; omega
          obtain ⟨y, hy⟩ : ∃ y, y = x &&& s := ⟨_, rfl⟩
          rw [← hy] at hO hnz
          clear hbit hnx hPk hlt hq hz hy hW
          go_wp2_with fail
          refine hB.out.mono ?_
          rintro e w' ⟨rfl, rfl⟩
          clear hB
          go_wp2_with fail
          refine hO.out.mono ?_
          rintro e w' ⟨rfl, rfl⟩
          clear hO
          go_wp2_with fail
          go_round
          case rel => exact ⟨k + 1, q, by omega, by go_num, rfl, hq12, hn⟩
          case measure => simp [intOf]; omega
    · obtain rfl : k = n := by omega
      have hfin := Lib.hid (show fin = q by rw [hq.out, HD.out])
      clear hq
      go_wp2_with fail
      go_ret
      exact ⟨by rw [hfin.out]; rfl, HB.out⟩
end Go.Proofs.YtpicjikjinkkpaaDoor
