/- Contracts of the small functions of package core and of the statements' own helpers on numbers and lists: what each returns, and that it writes nothing. Conditions: each contract's own premises. -/
import Derived.Test.YtpicjikjinkkpaaDoorBits
import Derived.Test.YtpicjikjinkkpaaDoorMem
import Derived.Handy
import Derived.BigQuiet
import Derived.Deep.QuietTactic
namespace Go.Proofs.YtpicjikjinkkpaaDoor
open Go.RowKit

theorem within_yes (n lo hi : Int) (w : World) (h1 : lo ≤ n) (h2 : n ≤ hi) : Calls Tryd.prog 62 #[.int .i64 n, .int .i64 lo, .int .i64 hi] w fun e w' => e = .returned (.bool true) ∧ w = w' := by
  go_enter Tryd.func62, Tryd.ntmps62
  go_wp2
  go_ret
  exact ⟨rfl, rfl⟩
theorem within_no (n lo hi : Int) (w : World) (h : ¬ (lo ≤ n ∧ n ≤ hi)) : Calls Tryd.prog 62 #[.int .i64 n, .int .i64 lo, .int .i64 hi] w fun e w' => e = .returned (.bool false) ∧ w = w' := by
  by_cases h1 : lo ≤ n
  · have h2 : decide (n ≤ hi) = false := by simp; omega
    clear h
    go_enter Tryd.func62, Tryd.ntmps62
    go_wp2
    go_ret
    exact ⟨rfl, rfl⟩
  · clear h
    go_enter Tryd.func62, Tryd.ntmps62
    go_wp2
    go_ret
    exact ⟨rfl, rfl⟩
theorem has_calls (s i : Nat) (w : World) (hs : s < 2 ^ 63) (hi : i < 64) : Calls Tryd.prog 63 #[nv s, nv i] w fun e w' => e = .returned (.bool (s.testBit i)) ∧ w = w' := by
  have H := Lib.hid (bit_test s i hs)
  go_enter Tryd.func63, Tryd.ntmps63
  go_wp2
  go_ret
  exact ⟨by simp [H.out], rfl⟩
theorem mask_calls (s : Int) (n : Nat) (w : World) (hn : n < 62) : Calls Tryd.prog 70 #[.int .i64 s, nv n] w fun e w' => e = .returned (.bool (decide (0 ≤ s ∧ s < 2 ^ n))) ∧ w = w' := by
  by_cases h0 : 0 ≤ s
  · go_enter Tryd.func70, Tryd.ntmps70
    go_wp2
    go_ret
    exact ⟨by rw [wrap_two_pow n hn]; simp [h0], rfl⟩
  · go_enter Tryd.func70, Tryd.ntmps70
    go_wp2
    go_ret
    exact ⟨by simp; omega, rfl⟩
/-- two lists of ints are compared -/
theorem ints_calls (v u : Value) (l m : List Int) (B : Nat) (w : World) (hB : B ≤ w.heap.size) (hv : Ints w B v l) (hu : Ints w B u m) :
    Calls Tryd.prog 22 #[v, u] w fun e w' => e = .returned (.bool (decide (l = m))) ∧ Below w.heap.size w w' := by
  obtain ⟨A, cap, rfl⟩ := Rd.val hv
  obtain ⟨A', cap', rfl⟩ := Rd.val hu
  have lv := Rd.le hv
  have lu := Rd.le hu
  unfold maxLen at lv lu
  by_cases hl : l.length = m.length
  · have hl' : ((l.length : Int) != (m.length : Int)) = false := by simp [hl]
    have HL := Lib.hid hl
    clear hl
    go_enter Tryd.func22, Tryd.ntmps22
    go_wp2
    go_loopw [5] (fun i wr => ∃ k : Nat, k ≤ l.length ∧ i = .int .i64 k ∧ Hid (∀ j, j < k → l[j]? = m[j]?) ∧ Below w.heap.size w wr) (fun i _ => l.length - (intOf i).toNat)
    case atStart => exact ⟨0, Nat.zero_le _, rfl, Lib.hid (fun j hj => absurd hj (by omega)), Below.refl _ _⟩
    case round =>
      obtain ⟨k, hk, rfl, heq, hb⟩ := hrel
      by_cases hlt : k < l.length
      · have hlt' : k < m.length := by have := HL.out; omega
        obtain ⟨b, off, c1, he, _, hc⟩ := Ints.at_ (Rd.below hv (hb.mono hB)) hlt
        cases he
        obtain ⟨b', off', c2, he, _, hc'⟩ := Ints.at_ (Rd.below hu (hb.mono hB)) hlt'
        cases he
        have e1 := List.getElem?_eq_getElem hlt
        have e2 := List.getElem?_eq_getElem hlt'
        generalize l[k] = x at *
        generalize m[k] = y at *
        have E1 := Lib.hid e1
        have E2 := Lib.hid e2
        clear e1 e2 hv hu
        by_cases hxy : x = y
        · subst hxy
          go_wp2
          go_quiet (fail)
          go_wp2
          go_roundw
          case rel => exact ⟨k + 1, by omega, by go_num, Lib.hid (fun j hj => by
            rcases Nat.lt_or_ge j k with h | h
            · exact heq.out j h
            · obtain rfl : j = k := by omega
              rw [E1.out, E2.out]), drn hb _⟩
          case measure => simp [intOf]; omega
        · have hne : (x != y) = true := by simp [hxy]
          have hn : ¬ l = m := by
            rintro rfl
            have := E1.out.symm.trans E2.out
            exact hxy (by injection this)
          have HN := Lib.hid hn
          clear hxy hn
          go_wp2
          go_quiet (fail)
          go_wp2
          go_ret
          exact ⟨by simp [HN.out], drn hb _⟩
      · have hge : l.length ≤ k := by omega
        clear hlt
        have heq' : l = m := by
          apply List.ext_getElem?
          intro j
          rcases Nat.lt_or_ge j k with h | h
          · exact heq.out j h
          · have := HL.out
            rw [List.getElem?_eq_none (by omega), List.getElem?_eq_none (by omega)]
        have HE := Lib.hid heq'
        clear heq'
        go_wp2
        go_ret
        exact ⟨by simp [HE.out], hb⟩
  · have hl' : ((l.length : Int) != (m.length : Int)) = true := by simp; omega
    have HL := Lib.hid hl
    clear hl
    go_enter Tryd.func22, Tryd.ntmps22
    go_wp2
    go_ret
    exact ⟨by simp; intro h; subst h; exact HL.out rfl, Below.refl _ _⟩
theorem bit_calls (s i : Nat) (w : World) (hs : s < 2 ^ 63) (hi : i < 2 ^ 62) : Calls Tryd.prog 34 #[nv s, nv i] w fun e w' => e = .returned (.bool (s.testBit i)) ∧ w = w' := by
  go_enter Tryd.func34, Tryd.ntmps34
  go_wp2
  go_loop [0, 5] (fun u j => ∃ (k x : Nat), k ≤ i ∧ j = .int .i64 k ∧ u = .int .i64 x ∧ Hid (x = s / 2 ^ k) ∧ x < 2 ^ 63) (fun _ j => i - (intOf j).toNat)
  case atStart => exact ⟨0, s, Nat.zero_le _, rfl, rfl, Lib.hid (by simp), hs⟩
  case round =>
    obtain ⟨k, x, hk, rfl, rfl, hx, hx63⟩ := hrel
    by_cases hlt : k < i
    · by_cases h0 : x = 0
      · have hf : s.testBit i = false := by
          have := hx.out
          rw [h0] at this
          apply Odr.testBit_lt (n := k) _ hk
          rcases Nat.lt_or_ge s (2 ^ k) with h | h
          · exact h
          · have := Nat.div_pos h (Nat.two_pow_pos k); omega
        have HF := Lib.hid hf
        clear hf hx
        subst h0
        go_wp2
        go_ret
        exact ⟨by simp [HF.out], rfl⟩
      · have hne : ((x : Int) != 0) = true := by simp; omega
        have h0' : 0 < x := by omega
        clear h0
        go_wp2
        go_round
        case rel => exact ⟨k + 1, x / 2, by omega, by go_num, by go_num, Lib.hid (by rw [hx.out, Nat.div_div_eq_div_mul, Nat.pow_succ]), by omega⟩
        case measure => simp [intOf]; omega
    · have hge : i ≤ k := by omega
      obtain rfl : k = i := by omega
      have hb : (((x : Int) % 2) == 1) = s.testBit k := by
        rw [Nat.testBit_eq_decide_div_mod_eq, ← hx.out, Bool.eq_iff_iff]
        simp
        omega
      have HB := Lib.hid hb
      clear hlt hb hx
      go_wp2
      go_ret
      exact ⟨by simp [HB.out], rfl⟩
theorem pow2_calls (n : Nat) (w : World) (hn : n < 62) : Calls Tryd.prog 35 #[nv n] w fun e w' => e = .returned (nv (2 ^ n)) ∧ w = w' := by
  go_enter Tryd.func35, Tryd.ntmps35
  go_wp2
  go_loop [3, 4] (fun p j => ∃ (k x : Nat), k ≤ n ∧ j = .int .i64 k ∧ p = .int .i64 x ∧ Hid (x = 2 ^ k)) (fun _ j => n - (intOf j).toNat)
  case atStart => exact ⟨0, 1, Nat.zero_le _, rfl, rfl, Lib.hid rfl⟩
  case round =>
    obtain ⟨k, x, hk, rfl, rfl, hx⟩ := hrel
    by_cases hlt : k < n
    · have hb : x * 2 ≤ 2 ^ 62 := by rw [hx.out, ← Nat.pow_succ]; exact Nat.pow_le_pow_right (by omega) (by omega)
      go_wp2
      go_round
      case rel => exact ⟨k + 1, x * 2, by omega, by go_num, by go_num, Lib.hid (by rw [hx.out, Nat.pow_succ])⟩
      case measure => simp [intOf]; omega
    · have hge : n ≤ k := by omega
      obtain rfl : k = n := by omega
      clear hlt
      have hx' := hx.out
      clear hx
      subst hx'
      go_wp2
      go_ret
      exact ⟨rfl, rfl⟩
end Go.Proofs.YtpicjikjinkkpaaDoor
