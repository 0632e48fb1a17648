/- Contracts of the reference's sets (package whensteadref1): Both, Either, Closed. Conditions: each contract's own premises. -/
import Derived.Test.YtpicjikjinkkpaaDoorRow12
import Derived.Test.YtpicjikjinkkpaaDoorRefM
namespace Go.Proofs.YtpicjikjinkkpaaDoor
open Go.RowKit

theorem both_calls (a b : Nat) (w : World) (ha : a < 2 ^ 30) (hb : b < 2 ^ 30) : Calls Tryd.prog 28 #[nv a, nv b] w fun e w' => e = .returned (nv (a &&& b)) ∧ w = w' := by
  go_enter Tryd.func28, Tryd.ntmps28
  go_wp2_with fail
  go_loop [0, 1, 5, 6] (fun x y out p => ∃ (k u v m q : Nat), k ≤ 30 ∧ x = nv u ∧ y = nv v ∧ out = nv m ∧ p = nv q ∧ u < 2 ^ 30 ∧ v < 2 ^ 30 ∧ m < 2 ^ 30 ∧ q ≤ 2 ^ 30 ∧
      Hid (u = a / 2 ^ k ∧ v = b / 2 ^ k ∧ m = (a &&& b) % 2 ^ k ∧ q = 2 ^ k)) (fun x _ _ _ => (intOf x).toNat)
  case atStart => exact ⟨0, a, b, 0, 1, by omega, rfl, rfl, rfl, rfl, ha, hb, by omega, by omega, Lib.hid ⟨by simp, by simp, by rw [Nat.pow_zero, Nat.mod_one], rfl⟩⟩
  case round =>
    obtain ⟨k, u, v, m, q, hk, rfl, rfl, rfl, rfl, hu, hv, hm, hq, hh⟩ := hrel
    by_cases h1 : 0 < u
    · by_cases h2 : 0 < v
      · obtain ⟨e1, e2, e3, e4⟩ := hh.out
        have hk30 : k < 30 := by
          rcases Nat.lt_or_ge k 30 with h | h
          · exact h
          · have : 2 ^ 30 ≤ 2 ^ k := Nat.pow_le_pow_right (by omega) h
            rw [Nat.div_eq_of_lt (by omega)] at e1
            omega
        have hq2 : q * 2 ≤ 2 ^ 30 := by rw [e4, ← Nat.pow_succ]; exact Nat.pow_le_pow_right (by omega) hk30
        have d1 : u / 2 = a / 2 ^ (k + 1) := by rw [e1, Nat.div_div_eq_div_mul, Nat.pow_succ]
        have d2 : v / 2 = b / 2 ^ (k + 1) := by rw [e2, Nat.div_div_eq_div_mul, Nat.pow_succ]
        have d4 : q * 2 = 2 ^ (k + 1) := by rw [e4, Nat.pow_succ]
        have hbit : ((a &&& b) / 2 ^ k % 2 = 1) ↔ (u % 2 = 1 ∧ v % 2 = 1) := by
          have t1 := Nat.testBit_eq_decide_div_mod_eq (x := a &&& b) (i := k)
          have t2 := Nat.testBit_eq_decide_div_mod_eq (x := a) (i := k)
          have t3 := Nat.testBit_eq_decide_div_mod_eq (x := b) (i := k)
          rw [Nat.testBit_and, t2, t3] at t1
          rw [e1, e2]
          rw [← Bool.decide_and] at t1
          exact (decide_eq_decide.1 t1).symm
        have hmod : (a &&& b) % 2 ^ (k + 1) = m + q * ((a &&& b) / 2 ^ k % 2) := by rw [e3, e4, Nat.mod_pow_succ]
        have hab : (a &&& b) < 2 ^ 30 := Nat.and_lt_two_pow _ hb
        have hml : m + q * ((a &&& b) / 2 ^ k % 2) < 2 ^ 30 := by rw [← hmod]; exact Nat.lt_of_le_of_lt (Nat.mod_le _ _) hab
        clear e1 e2 e3 e4 hh
        by_cases hbb : u % 2 = 1 ∧ v % 2 = 1
        · have g1 : (((u : Int) % 2) == 1) = true := by simp; omega
          have g2 : (((v : Int) % 2) == 1) = true := by simp; omega
          rw [hbit.2 hbb, Nat.mul_one] at hmod hml
          have HM := Lib.hid hmod
          have HD := Lib.hid (And.intro d1 (And.intro d2 d4))
          clear hmod d1 d2 d4 hbit hbb
          go_wp2_with fail
          go_round
          case rel => exact ⟨k + 1, u / 2, v / 2, m + q, q * 2, by omega, by go_num, by go_num, by go_num, by go_num, by omega, by omega, hml, hq2, Lib.hid ⟨HD.out.1, HD.out.2.1, HM.out.symm, HD.out.2.2⟩⟩
          case measure => simp [intOf]; omega
        · have h0 : (a &&& b) / 2 ^ k % 2 = 0 := by
            have := Nat.mod_two_eq_zero_or_one ((a &&& b) / 2 ^ k)
            rcases this with h | h
            · exact h
            · exact absurd (hbit.1 h) hbb
          rw [h0, Nat.mul_zero, Nat.add_zero] at hmod
          have HM := Lib.hid hmod
          have HD := Lib.hid (And.intro d1 (And.intro d2 d4))
          have hcases : ((((u : Int) % 2) == 1) = true ∧ (((v : Int) % 2) == 1) = false) ∨ (((u : Int) % 2) == 1) = false := by
            by_cases hu2 : u % 2 = 1
            · exact .inl ⟨by simp; omega, by simp; omega⟩
            · exact .inr (by simp; omega)
          clear hmod d1 d2 d4 hbit hbb h0 hml
          rcases hcases with ⟨g1, g2⟩ | g1
          all_goals
            go_wp2_with fail
            go_round
            case rel => exact ⟨k + 1, u / 2, v / 2, m, q * 2, by omega, by go_num, by go_num, rfl, by go_num, by omega, by omega, hm, hq2, Lib.hid ⟨HD.out.1, HD.out.2.1, HM.out.symm, HD.out.2.2⟩⟩
            case measure => simp [intOf]; omega
      · have h2' : decide (0 < v) = false := by simp; omega
        have hz : a &&& b = m := by
          obtain ⟨e1, e2, e3, e4⟩ := hh.out
          have : b < 2 ^ k := by
            rcases Nat.lt_or_ge b (2 ^ k) with h | h
            · exact h
            · have := Nat.div_pos h (Nat.two_pow_pos k); omega
          rw [e3, Nat.mod_eq_of_lt (Nat.and_lt_two_pow _ this)]
        have HZ := Lib.hid hz
        clear hz h2 hh
        go_wp2_with fail
        go_ret
        exact ⟨by rw [HZ.out]; rfl, rfl⟩
    · have h1' : decide (0 < u) = false := by simp; omega
      have hz : a &&& b = m := by
        obtain ⟨e1, e2, e3, e4⟩ := hh.out
        have : a < 2 ^ k := by
          rcases Nat.lt_or_ge a (2 ^ k) with h | h
          · exact h
          · have := Nat.div_pos h (Nat.two_pow_pos k); omega
        rw [e3, Nat.mod_eq_of_lt (Nat.lt_of_le_of_lt Nat.and_le_left this)]
      have HZ := Lib.hid hz
      clear hz h1 hh
      go_wp2_with fail
      go_ret
      exact ⟨by rw [HZ.out]; rfl, rfl⟩

theorem and_add_or (a b : Nat) : (a &&& b) + (a ||| b) = a + b := by
  induction a using Nat.strongRecOn generalizing b with
  | ind a ih =>
    by_cases h0 : a = 0
    · subst h0; simp
    · have := ih (a / 2) (by omega) (b / 2)
      have e1 : (a &&& b) / 2 = a / 2 &&& b / 2 := Nat.and_div_two
      have e2 : (a ||| b) / 2 = a / 2 ||| b / 2 := Nat.or_div_two
      have m1 : (a &&& b) % 2 = 1 ↔ a % 2 = 1 ∧ b % 2 = 1 := Nat.and_mod_two_eq_one
      have m2 : (a ||| b) % 2 = 1 ↔ a % 2 = 1 ∨ b % 2 = 1 := Nat.or_mod_two_eq_one
      omega
theorem either_calls (a b : Nat) (w : World) (ha : a < 2 ^ 30) (hb : b < 2 ^ 30) : Calls Tryd.prog 29 #[nv a, nv b] w fun e w' => e = .returned (nv (a ||| b)) ∧ w = w' := by
  have h1 := and_add_or a b
  have h2 : a ||| b < 2 ^ 30 := Nat.or_lt_two_pow ha hb
  have hc := Lib.hid (fun w => both_calls a b w ha hb)
  generalize a &&& b = x at *
  generalize a ||| b = y at *
  go_enter Tryd.func29, Tryd.ntmps29
  go_wp2_with fail
  refine (hc.out _).mono ?_
  rintro e w' ⟨rfl, rfl⟩
  have H := Lib.hid h1
  have hxy : x ≤ a + b := by omega
  clear hc h1
  go_wp2_with fail
  go_ret
  exact ⟨by have := H.out; simp; omega, rfl⟩
theorem bit12 (s i : Nat) (w : World) (hs : s < 4096) (hi : i < 64) : Calls Tryd.prog 34 #[nv s, nv i] w fun e w' => e = .returned (.bool (s.testBit i)) ∧ w = w' :=
  bit_calls s i w (by omega) (by omega)
theorem either12 (a b : Nat) (w : World) (ha : a < 4096) (hb : b < 4096) : Calls Tryd.prog 29 #[nv a, nv b] w fun e w' => e = .returned (nv (a ||| b)) ∧ w = w' :=
  either_calls a b w (by omega) (by omega)

set_option maxHeartbeats 1000000 in
theorem rclosed_calls (l : List Nat) (v : Value) (B : Nat) (w : World) (hB : B ≤ w.heap.size) (hr : Ints w B v (zs l)) (hlen : l.length ≤ 12) (hf : Odr.Fits l) :
    Calls Tryd.prog 47 #[v] w fun e w' => ∃ v', e = .returned v' ∧ Own w' w.heap.size v' (zs (Odr.closed l)) ∧ Below w.heap.size w w' := by
  have HF := Lib.hid hf
  have HE := Lib.hid (Odr.rclosed_eq hf)
  clear hf
  obtain ⟨A, cap, rfl⟩ := Rd.val hr
  simp only [length_zs] at *
  go_enter Tryd.func47, Tryd.ntmps47
  go_wp2_with fail
  go_loopw [3, 4] (fun o i wr => ∃ k : Nat, k ≤ l.length ∧ i = nv k ∧ Own wr w.heap.size o (zs ((Odr.rclosed l).take k)) ∧ Below w.heap.size w wr) (fun _ i _ => l.length - (intOf i).toNat)
  case atStart => exact ⟨0, Nat.zero_le _, rfl, Own.nil _ _, Below.refl _ _⟩
  case round =>
    obtain ⟨k, hk, rfl, hown, hb⟩ := hrel
    have hbs := hb.size
    obtain ⟨wo, rfl⟩ : ∃ wo : World, wo = wr := ⟨_, rfl⟩
    by_cases hkl : k < l.length
    · obtain ⟨b0, off, cap', he, _, hc⟩ := Ints.atN (Rd.below hr (hb.mono hB)) hkl
      cases he
      obtain ⟨x, hx⟩ : ∃ x, x = l.getD k 0 := ⟨_, rfl⟩
      rw [← hx] at hc
      have HX := Lib.hid hx
      have hxl := Lib.hid (HF.out.getD k)
      rw [← hx] at hxl
      clear hx
      go_wp2_with fail
      go_loop [5, 6] (fun s n => ∃ (m y : Nat), m ≤ l.length ∧ n = nv m ∧ s = nv y ∧ Hid (y = Odr.rounds l x m)) (fun _ n => l.length - (intOf n).toNat)
      case atStart => exact ⟨0, x, Nat.zero_le _, rfl, rfl, Lib.hid rfl⟩
      case round =>
        obtain ⟨m, y, hm, rfl, rfl, hy⟩ := hrel
        by_cases hml : m < l.length
        · go_wp2_with fail
          go_loop [5, 7] (fun s j => ∃ (q z : Nat), q ≤ l.length ∧ j = nv q ∧ s = nv z ∧ z < 4096 ∧ Hid (z = Odr.rto l y q)) (fun _ j => l.length - (intOf j).toNat)
          case atStart => exact ⟨0, y, Nat.zero_le _, rfl, rfl, fits12 hlen (by rw [hy.out]; exact Odr.rounds_lt HF.out hxl.out m), Lib.hid rfl⟩
          case round =>
            obtain ⟨q, z, hq, rfl, rfl, hz, hzz⟩ := hrel
            by_cases hql : q < l.length
            · obtain ⟨b1, off1, cap1, he, _, hd⟩ := Ints.atN (Rd.below hr (hb.mono hB)) hql
              cases he
              obtain ⟨u, hu⟩ : ∃ u, u = l.getD q 0 := ⟨_, rfl⟩
              rw [← hu] at hd
              have HU := Lib.hid hu
              have hul : u < 4096 := fits12 hlen (by rw [hu]; exact HF.out.getD q)
              have hzu : z ||| u < 4096 := (Nat.or_lt_two_pow (n := 12) hz hul)
              clear hu
              by_cases hbit : z.testBit q = true
              · have hn := Lib.hid (show z ||| u = Odr.rto l y (q + 1) by rw [Odr.rto, Odr.rstep, ← hzz.out, if_pos hbit, HU.out])
                go_wp2_with (first | (go_at_call 34; refine (bit12 _ _ _ hz (by omega)).mono ?_; rintro e w' ⟨rfl, rfl⟩) | (go_at_call 29; refine (either12 _ _ _ hz hul).mono ?_; rintro e w' ⟨rfl, rfl⟩))
                go_round
                case rel => exact ⟨q + 1, z ||| u, by omega, by go_num, rfl, hzu, hn⟩
                case measure => simp [intOf]; omega
              · have hbit' : z.testBit q = false := by simpa using hbit
                have hn := Lib.hid (show z = Odr.rto l y (q + 1) by rw [Odr.rto, Odr.rstep, ← hzz.out, if_neg hbit])
                clear hbit
                go_wp2_with (go_at_call 34; refine (bit12 _ _ _ hz (by omega)).mono ?_; rintro e w' ⟨rfl, rfl⟩)
                go_round
                case rel => exact ⟨q + 1, z, by omega, by go_num, rfl, hz, hn⟩
                case measure => simp [intOf]; omega
            · obtain rfl : q = l.length := by omega
              clear hql
              go_wp2_with fail
              go_round
              case rel => exact ⟨m + 1, z, by omega, by go_num, rfl, Lib.hid (by rw [hzz.out, hy.out]; rfl)⟩
              case measure => simp [intOf]; omega
        · obtain rfl : m = l.length := by omega
          clear hml
          have htk := Lib.hid (show (Odr.rclosed l).take (k + 1) = (Odr.rclosed l).take k ++ [y] by
            rw [List.take_succ_eq_append_getElem (by simpa [Odr.rclosed] using hkl)]
            congr 1
            simp only [Odr.rclosed, List.getElem_map, List.getElem_range, ← HX.out, hy.out])
          go_wp2_with (at_builtin; refine append_int rfl _ _ rfl w.heap.size _ (zs ((Odr.rclosed l).take k)) rfl (Own.alloc hown _) wo.heap.size rfl y (by simp) (by rw [length_zs, List.length_take]; omega) (by simp; omega) ?_; intro v' w1 hown1 hb1 _)
          go_roundw
          case rel => exact ⟨k + 1, by omega, by go_num, by rw [htk.out]; simpa [zs] using hown1, (hb.alloc hbs _).trans hb1⟩
          case measure => simp [intOf]; omega
    · obtain rfl : k = l.length := by omega
      clear hkl
      rw [show (Odr.rclosed l).take l.length = Odr.closed l by rw [List.take_of_length_le (by simp [Odr.rclosed]), HE.out]] at hown
      go_wp2_with fail
      go_ret
      exact ⟨_, rfl, hown, hb⟩
end Go.Proofs.YtpicjikjinkkpaaDoor
