/- Contract of the reference's Within. Conditions: the contract's own premises. -/
import Derived.Test.YtjmjifcaobkobaaDoorRef1
namespace Go.Proofs.YtjmjifcaobkobaaDoor
open Go.RowKit

theorem and_self_half (u v : Nat) : u &&& v = u ↔ (u / 2 &&& v / 2 = u / 2) ∧ ¬ (u % 2 = 1 ∧ v % 2 = 0) := by
  have e1 : (u &&& v) / 2 = u / 2 &&& v / 2 := Nat.and_div_two
  have m1 : (u &&& v) % 2 = 1 ↔ u % 2 = 1 ∧ v % 2 = 1 := Nat.and_mod_two_eq_one
  omega
set_option maxRecDepth 20000 in
theorem rwithin_calls (a b : Nat) (w : World) (ha : a < 2 ^ 30) (hb : b < 2 ^ 30) : Calls Tryd.prog 22 #[nv a, nv b] w fun e w' => e = .returned (.bool (decide (a &&& b = a))) ∧ w = w' := by
  have hd0 := Lib.hid (show (a &&& b = a) ↔ decide (a &&& b = a) = true from decide_eq_true_iff.symm)
  generalize decide (a &&& b = a) = d at *
  go_enter Tryd.func22, Tryd.ntmps22
  go_wp2_with fail
  go_loop [0, 1] (fun x y => ∃ u v : Nat, x = nv u ∧ y = nv v ∧ u < 2 ^ 30 ∧ v < 2 ^ 30 ∧ Hid ((u &&& v = u) ↔ d = true)) (fun x _ => (intOf x).toNat)
  case atStart => exact ⟨a, b, rfl, rfl, ha, hb, hd0⟩
  case round =>
    obtain ⟨u, v, rfl, rfl, hu, hv, hh⟩ := hrel
    have H := Lib.hid (and_self_half u v)
    by_cases h1 : 0 < u
    · by_cases h2 : u % 2 = 1 ∧ v % 2 = 0
      · obtain ⟨h3, h4⟩ := h2
        have hf : d = false := by
          cases hd : d
          · rfl
          · exact absurd ⟨h3, h4⟩ (H.out.1 (hh.out.2 hd)).2
        subst hf
        have g1 : (((u : Int) % 2) == 1) = true := by simp; omega
        have g2 : (((v : Int) % 2) == 0) = true := by simp; omega
        clear hh H hd0
        go_wp2_with fail
        go_ret
        exact ⟨rfl, rfl⟩
      · have hn := Lib.hid (show (u / 2 &&& v / 2 = u / 2) ↔ d = true by
          rw [← hh.out, H.out]
          exact ⟨fun h => ⟨h, h2⟩, fun h => h.1⟩)
        have h5 : u % 2 = 0 ∨ (u % 2 = 1 ∧ v % 2 = 1) := by omega
        clear hh H h2
        rcases h5 with h5 | ⟨h5, h6⟩
        · have g1 : (((u : Int) % 2) == 1) = false := by simp; omega
          go_wp2_with fail
          go_round
          case rel => exact ⟨u / 2, v / 2, by go_num, by go_num, by omega, by omega, hn⟩
          case measure => simp [intOf]; omega
        · have g1 : (((u : Int) % 2) == 1) = true := by simp; omega
          have g2 : (((v : Int) % 2) == 0) = false := by simp; omega
          go_wp2_with fail
          go_round
          case rel => exact ⟨u / 2, v / 2, by go_num, by go_num, by omega, by omega, hn⟩
          case measure => simp [intOf]; omega
    · obtain rfl : u = 0 := by omega
      have ht : d = true := hh.out.1 (by simp)
      subst ht
      clear hh H hd0
      go_wp2_with fail
      go_ret
      exact ⟨rfl, rfl⟩
end Go.Proofs.YtjmjifcaobkobaaDoor
