/- The reference's Within: is a set in another one? Conditions: the contract's own premises. -/
import Derived.Test.YtpicjikjinkkpaaDoorDownM
import Derived.Test.YtpicjikjinkkpaaDoorCore
namespace Go.Proofs.YtpicjikjinkkpaaDoor
open Go.RowKit

theorem Odr.diff_half (u v : Nat) : Odr.diff u v = 0 ↔ ¬ (u % 2 = 1 ∧ v % 2 = 0) ∧ Odr.diff (u / 2) (v / 2) = 0 := by
  rw [Odr.diff_zero, Odr.diff_zero]
  constructor
  · intro h
    refine ⟨?_, fun k hk => ?_⟩
    · rintro ⟨h1, h2⟩
      have := h 0 (by rw [Nat.testBit_zero]; simp [h1])
      rw [Nat.testBit_zero] at this
      simp at this
      omega
    · have := h (k + 1) (by rw [Nat.testBit_succ]; exact hk)
      rwa [Nat.testBit_succ] at this
  · rintro ⟨h1, h2⟩ k hk
    cases k with
    | zero =>
      rw [Nat.testBit_zero] at hk ⊢
      simp at hk ⊢
      omega
    | succ k =>
      rw [Nat.testBit_succ] at hk ⊢
      exact h2 k hk

theorem sub_calls (a b : Nat) (w : World) (ha : a < 2 ^ 62) (hb : b < 2 ^ 62) : Calls Tryd.prog 27 #[nv a, nv b] w fun e w' => e = .returned (.bool (decide (Odr.diff a b = 0))) ∧ w = w' := by
  go_enter Tryd.func27, Tryd.ntmps27
  go_wp2_with fail
  go_loop [0, 1] (fun x y => ∃ (u v : Nat), x = nv u ∧ y = nv v ∧ u < 2 ^ 62 ∧ v < 2 ^ 62 ∧ Hid (Odr.diff a b = 0 ↔ Odr.diff u v = 0)) (fun x _ => (intOf x).toNat)
  case atStart => exact ⟨a, b, rfl, rfl, ha, hb, Lib.hid Iff.rfl⟩
  case round =>
    obtain ⟨u, v, rfl, rfl, hu, hv, hh⟩ := hrel
    by_cases h1 : 0 < u
    · have hhalf := Odr.diff_half u v
      by_cases hbad : u % 2 = 1 ∧ v % 2 = 0
      · have hz : ¬ (Odr.diff a b = 0) := fun h => (hhalf.1 (hh.out.1 h)).1 hbad
        have g1 : (((u : Int) % 2) == 1) = true := by simp; omega
        have g2 : (((v : Int) % 2) == 0) = true := by simp; omega
        have HZ := Lib.hid hz
        clear hhalf hh hbad hz
        go_wp2_with fail
        go_ret
        exact ⟨by rw [decide_eq_false HZ.out]; rfl, rfl⟩
      · have HH := Lib.hid (show Odr.diff a b = 0 ↔ Odr.diff (u / 2) (v / 2) = 0 from hh.out.trans (hhalf.trans ⟨fun h => h.2, fun h => ⟨hbad, h⟩⟩))
        have hcases : ((((u : Int) % 2) == 1) = true ∧ (((v : Int) % 2) == 0) = false) ∨ (((u : Int) % 2) == 1) = false := by
          by_cases hu2 : u % 2 = 1
          · exact .inl ⟨by simp; omega, by simp; omega⟩
          · exact .inr (by simp; omega)
        clear hhalf hh hbad
        rcases hcases with ⟨g1, g2⟩ | g1
        all_goals
          go_wp2_with fail
          go_round
          case rel => exact ⟨u / 2, v / 2, by go_num, by go_num, by omega, by omega, HH⟩
          case measure => simp [intOf]; omega
    · have h1' : decide (0 < u) = false := by simp; omega
      obtain rfl : u = 0 := by omega
      have hz : Odr.diff a b = 0 := hh.out.2 ((Odr.diff_zero 0 v).2 (by simp))
      have HZ := Lib.hid hz
      clear hz h1 hh
      go_wp2_with fail
      go_ret
      exact ⟨by rw [decide_eq_true HZ.out]; rfl, rfl⟩

end Go.Proofs.YtpicjikjinkkpaaDoor
