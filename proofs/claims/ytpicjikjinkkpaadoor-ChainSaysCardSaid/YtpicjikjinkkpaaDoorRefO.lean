/- Contracts of the reference for orders: Mask, Order, Turned, With, More. Conditions: each contract's own premises. -/
import Derived.Test.YtpicjikjinkkpaaDoorOrder
import Derived.Test.YtpicjikjinkkpaaDoorRef1
import Derived.Test.YtpicjikjinkkpaaDoorLastM
import Derived.Test.YtpicjikjinkkpaaDoorExtM
namespace Go.Proofs.YtpicjikjinkkpaaDoor
open Go.RowKit

theorem rmask_calls (s : Int) (n : Nat) (w : World) (hn : n ≤ 12) : Calls Tryd.prog 51 #[.int .i64 s, nv n] w fun e w' => e = .returned (.bool (decide (0 ≤ s ∧ s < 2 ^ n))) ∧ w = w' := by
  by_cases h0 : 0 ≤ s
  · have hP := Lib.hid (pow2_calls n w (by omega))
    have hc : ((2 ^ n : Nat) : Int) = (2 : Int) ^ n := by rw [Int.natCast_pow]; rfl
    have HC := Lib.hid (show decide (s < ((2 ^ n : Nat) : Int)) = decide (0 ≤ s ∧ s < 2 ^ n) by rw [hc]; simp [h0])
    clear hc
    go_enter Tryd.func51, Tryd.ntmps51
    go_wp2_with fail
    refine hP.out.mono ?_
    rintro e w' ⟨rfl, rfl⟩
    clear hP
    go_wp2_with fail
    go_ret
    exact ⟨by rw [← HC.out]; rfl, rfl⟩
  · have hd : decide (0 ≤ s) = false := by simpa using h0
    have HC := Lib.hid (show decide (0 ≤ s ∧ s < 2 ^ n) = false by simp; omega)
    clear h0
    go_enter Tryd.func51, Tryd.ntmps51
    go_wp2_with fail
    go_ret
    exact ⟨by rw [HC.out]; simp, rfl⟩
theorem orderCode_mask {l : List Int} (h : l.length ≤ 12) (hm : ¬ masksOk l) : orderCode l = 1 := by
  unfold orderCode; rw [if_neg (by omega), if_neg hm]
theorem orderCode_fits {m : List Nat} (h : m.length ≤ 12) (hf : Odr.Fits m) : orderCode (zs m) = if irrOk m then 0 else 6 := by
  have hmk : masksOk (zs m) := by
    intro x hx
    obtain ⟨y, hy, rfl⟩ := List.mem_map.1 hx
    rw [length_zs]
    have := hf y hy
    refine ⟨by omega, ?_⟩
    rw [show (2 : Int) ^ m.length = ((2 ^ m.length : Nat) : Int) by rw [Int.natCast_pow]; rfl]
    omega
  have hz : (zs m).map Int.toNat = m := by
    unfold zs
    rw [List.map_map]
    conv => rhs; rw [← List.map_id m]
    exact List.map_congr_left fun x _ => by simp
  unfold orderCode
  rw [if_neg (by rw [length_zs]; omega), if_pos hmk, hz]

set_option maxHeartbeats 2000000 in
theorem rorder_calls (l : List Int) (v : Value) (w : World) (hr : Ints w w.heap.size v l) :
    Calls Tryd.prog 46 #[v] w fun e w' => e = .returned (nv (orderCode l)) ∧ Below w.heap.size w w' := by
  obtain ⟨A, cap, rfl⟩ := Rd.val hr
  have hml := Rd.le hr
  unfold maxLen at hml
  by_cases h12 : 12 < l.length
  · have HO := Lib.hid (show orderCode l = 4 by unfold orderCode; rw [if_pos h12])
    clear hr
    go_enter Tryd.func46, Tryd.ntmps46
    go_wp2_with fail
    go_ret
    exact ⟨by rw [HO.out]; rfl, Below.refl _ _⟩
  · have hle : l.length ≤ 12 := by omega
    have hd12 : decide (12 < l.length) = false := by simpa using h12
    clear h12
    go_enter Tryd.func46, Tryd.ntmps46
    go_wp2_with fail
    clear hd12
    go_loop [3] (fun i => ∃ k : Nat, k ≤ l.length ∧ i = nv k ∧ Hid (∀ j, j < k → ∀ x, l[j]? = some x → 0 ≤ x ∧ x < 2 ^ l.length)) (fun i => l.length - (intOf i).toNat)
    case atStart => exact ⟨0, Nat.zero_le _, rfl, Lib.hid fun j hj => absurd hj (by omega)⟩
    case round =>
      obtain ⟨k, hk, rfl, hall⟩ := hrel
      by_cases hkl : k < l.length
      · obtain ⟨b0, off, cap', he, _, hc⟩ := Ints.at_ hr hkl
        injection he with he1 he2 he3
        subst he1 he3
        clear he2
        have hx0 := List.getElem?_eq_getElem hkl
        obtain ⟨x, hx⟩ : ∃ x, x = l[k] := ⟨_, rfl⟩
        rw [← hx] at hc hx0
        have HX0 := Lib.hid hx0
        have hM := Lib.hid (rmask_calls x l.length w hle)
        have HRR := Lib.hid hr
        clear hx hx0 hr
        by_cases hok : 0 ≤ x ∧ x < 2 ^ l.length
        · rw [decide_eq_true hok] at hM
          have hall' := Lib.hid (show ∀ j, j < k + 1 → ∀ x, l[j]? = some x → 0 ≤ x ∧ x < 2 ^ l.length from fun j hj y hy => by
            rcases Nat.lt_or_ge j k with h | h
            · exact hall.out j h y hy
            · obtain rfl : j = k := by omega
              rw [HX0.out] at hy
              injection hy with hy
              subst hy
              exact hok)
          clear hok
          go_wp2_with fail
          refine hM.out.mono ?_
          rintro e w' ⟨rfl, rfl⟩
          clear hM
          go_wp2_with fail
          go_round
          case rel => exact ⟨k + 1, by omega, by go_num, hall'⟩
          case measure => simp [intOf]; omega
        · rw [decide_eq_false hok] at hM
          have HO := Lib.hid (show orderCode l = 1 from orderCode_mask hle fun h => hok (h x (List.mem_of_getElem? HX0.out)))
          clear hok
          go_wp2_with fail
          refine hM.out.mono ?_
          rintro e w' ⟨rfl, rfl⟩
          clear hM
          go_wp2_with fail
          go_ret
          exact ⟨by rw [HO.out]; rfl, Below.refl _ _⟩
      · obtain rfl : k = l.length := by omega
        have hmk : masksOk l := fun x hx => by
          obtain ⟨i, hi, he⟩ := List.mem_iff_getElem.1 hx
          exact hall.out i hi x (by rw [List.getElem?_eq_getElem hi, he])
        obtain ⟨hz, hf⟩ := masks_nat hmk
        generalize l.map Int.toNat = m at *
        subst hz
        have HC := Lib.hid (rclosed_calls m (.slice A (zs m).length cap) w.heap.size w (Nat.le_refl _) hr (by simpa using hle) hf)
        have HO := Lib.hid (orderCode_fits (by simpa using hle) hf)
        have hfc := Lib.hid hf.closed
        have hcl := Odr.length_closed m
        have hm12 : m.length ≤ 12 := by simpa using hle
        clear hall hmk hf hr hkl hk
        simp only [length_zs] at *
        go_wp2_with fail
        refine HC.out.mono ?_
        rintro e w1 ⟨u, rfl, hown, hb⟩
        clear HC
        obtain ⟨Au, cu, rfl⟩ := Rd.val hown.ints
        rw [length_zs, hcl] at hown ⊢
        have HI := Lib.hid hown.ints
        have HB := Lib.hid hb
        clear hown hb
        go_wp2_with fail
        go_loop [5] (fun i => ∃ k : Nat, k ≤ m.length ∧ i = nv k ∧ Hid (∀ j, j < k → Odr.rel (Odr.closed m) j j = false)) (fun i => m.length - (intOf i).toNat)
        case atStart => exact ⟨0, Nat.zero_le _, rfl, Lib.hid fun j hj => absurd hj (by omega)⟩
        case round =>
          obtain ⟨k, hk, rfl, hall⟩ := hrel
          by_cases hkm : k < m.length
          · obtain ⟨b0, off, cap', he, _, hc⟩ := Ints.atN HI.out (k := k) (by omega)
            rw [hcl] at he
            injection he with he1 he2 he3
            subst he1 he3
            clear he2
            have hx12 : (Odr.closed m).getD k 0 < 4096 := fits12 (l := Odr.closed m) (by omega) (hfc.out.getD k)
            have hB := Lib.hid (bit12 ((Odr.closed m).getD k 0) k w1 hx12 (by omega))
            rw [show ((Odr.closed m).getD k 0).testBit k = Odr.rel (Odr.closed m) k k from rfl] at hB
            generalize (Odr.closed m).getD k 0 = x at *
            cases hbit : Odr.rel (Odr.closed m) k k with
            | false =>
              rw [hbit] at hB
              have hall' := Lib.hid (show ∀ j, j < k + 1 → Odr.rel (Odr.closed m) j j = false from fun j hj => by
                rcases Nat.lt_or_ge j k with h | h
                · exact hall.out j h
                · obtain rfl : j = k := by omega
                  exact hbit)
              clear hbit
              go_wp2_with fail
              refine hB.out.mono ?_
              rintro e w' ⟨rfl, rfl⟩
              clear hB
              go_wp2_with fail
              go_round
              case rel => exact ⟨k + 1, by omega, by go_num, hall'⟩
              case measure => simp [intOf]; omega
            | true =>
              rw [hbit] at hB
              have HO6 := Lib.hid (show orderCode (zs m) = 6 by
                rw [HO.out, if_neg]
                intro h
                have := h k hkm
                rw [hbit] at this; cases this)
              clear hbit
              go_wp2_with fail
              refine hB.out.mono ?_
              rintro e w' ⟨rfl, rfl⟩
              clear hB
              go_wp2_with fail
              go_ret
              exact ⟨by rw [HO6.out]; rfl, HB.out⟩
          · obtain rfl : k = m.length := by omega
            have HO0 := Lib.hid (show orderCode (zs m) = 0 by rw [HO.out, if_pos]; exact fun j hj => hall.out j hj)
            go_wp2_with fail
            go_ret
            exact ⟨by rw [HO0.out]; rfl, HB.out⟩
end Go.Proofs.YtpicjikjinkkpaaDoor
