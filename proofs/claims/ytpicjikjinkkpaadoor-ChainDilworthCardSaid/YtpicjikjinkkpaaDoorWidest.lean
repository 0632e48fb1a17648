/- Contract of chain.Widest: most things side by side. Conditions: the contract's own premises. -/
import Derived.Test.YtpicjikjinkkpaaDoorSide
namespace Go.Proofs.YtpicjikjinkkpaaDoor
open Go.RowKit

namespace Odr
/-- of all sets below k the first one of most things side by side -/
def widTo (c : List Nat) : Nat → Nat
  | 0 => 0
  | k + 1 => if pop 12 (widTo c k) < pop 12 k ∧ sideB c k = true then k else widTo c k
def widest (c : List Nat) : Nat := widTo c (2 ^ c.length)
theorem bitsOf_zero : bitsOf 0 = [] := by decide
theorem sideB_zero (c : List Nat) : sideB c 0 = true := by unfold sideB; rw [bitsOf_zero]; rfl
theorem widTo_side (c : List Nat) (k : Nat) : sideB c (widTo c k) = true := by
  induction k with
  | zero => exact sideB_zero c
  | succ k ih =>
    unfold widTo
    split
    · rename_i h; exact h.2
    · exact ih
theorem widTo_most {c : List Nat} {k s : Nat} (hs : s < k) (h : sideB c s = true) : pop 12 s ≤ pop 12 (widTo c k) := by
  induction k with
  | zero => omega
  | succ k ih =>
    unfold widTo
    by_cases hsk : s = k
    · subst hsk
      split
      · exact Nat.le_refl _
      · rename_i g
        refine Nat.le_of_not_lt fun g2 => g ⟨g2, h⟩
    · have := ih (by omega)
      split
      · rename_i g; omega
      · exact this
theorem widTo_lt (c : List Nat) (k : Nat) : widTo c k < k ∨ widTo c k = 0 := by
  induction k with
  | zero => exact .inr rfl
  | succ k ih =>
    unfold widTo
    split
    · exact .inl (by omega)
    · rcases ih with h | h
      · exact .inl (by omega)
      · exact .inr h
theorem widest_lt (c : List Nat) : widest c < 2 ^ c.length := by
  rcases widTo_lt c (2 ^ c.length) with h | h
  · exact h
  · unfold widest; rw [h]; exact Nat.two_pow_pos _
theorem widest_side (c : List Nat) : sideB c (widest c) = true := widTo_side c _
theorem widest_most {c : List Nat} {s : Nat} (hs : s < 2 ^ c.length) (h : sideB c s = true) : pop 12 s ≤ pop 12 (widest c) := widTo_most hs h
theorem sideB_iff {c : List Nat} {s : Nat} (hs : s < 4096) : sideB c s = true ↔ ∀ i j, s.testBit i = true → s.testBit j = true → rel c i j = false := by
  unfold sideB
  rw [List.all_eq_true]
  constructor
  · intro h i j hi hj
    have := of_decide_eq_true (h i ((mem_bitsOf hs).2 hi))
    have h2 : (c.getD i 0 &&& s).testBit j = false := by rw [this]; simp
    rw [Nat.testBit_and, hj, Bool.and_true] at h2
    exact h2
  · intro h x hx
    refine decide_eq_true (Nat.eq_of_testBit_eq fun j => ?_)
    rw [Nat.testBit_and, Nat.zero_testBit]
    cases hj : s.testBit j with
    | false => simp
    | true =>
      have := h x j ((mem_bitsOf hs).1 hx) hj
      unfold rel at this
      rw [this]; rfl
end Odr

theorem widest_err (l : List Int) (v : Value) (w : World) (hr : Ints w w.heap.size v l) (hne : orderCode l ≠ 0) :
    Calls Tryd.prog 40 #[v] w fun e w' => e = .returned (.tuple #[.int .i64 0, .iface 56 (nv (orderCode l))]) ∧ Below w.heap.size w w' := by
  have hchk := Lib.hid (behind_err l v w hr hne)
  go_enter Tryd.func40, Tryd.ntmps40
  go_wp2_with fail
  refine hchk.out.mono ?_
  rintro e w1 ⟨rfl, hb1⟩
  clear hchk hr
  go_wp2_with fail
  go_ret2
  exact ⟨rfl, hb1⟩
set_option maxHeartbeats 1000000 in
theorem widest_ok (m : List Nat) (v : Value) (w : World) (hr : Ints w w.heap.size v (zs m)) (hv : Odr.Valid m) (hT : Tab w) :
    Calls Tryd.prog 40 #[v] w fun e w' => e = .returned (.tuple #[nv (Odr.widest (Odr.closed m)), .nilIface]) ∧ Below w.heap.size w w' := by
  have hchk := Lib.hid (behind_ok m v w hr hv)
  have hfew := hv.few
  obtain ⟨c, hc⟩ : ∃ c, c = Odr.closed m := ⟨_, rfl⟩
  have hcl : c.length = m.length := by rw [hc]; exact Odr.length_closed m
  have hcf : Odr.Fits c := by rw [hc]; exact hv.fits.closed
  rw [← hc] at hchk ⊢
  clear hr hv hc
  go_enter Tryd.func40, Tryd.ntmps40
  go_wp2_with fail
  refine hchk.out.mono ?_
  rintro e w1 ⟨u, rfl, hown, hb1⟩
  clear hchk
  obtain ⟨A, cap, rfl⟩ := Rd.val hown.ints
  rw [length_zs] at hown ⊢
  have hI := Lib.hid hown.ints
  have HT := Lib.hid (hT.below hb1)
  have HB1 := Lib.hid hb1
  obtain ⟨N, hN⟩ : ∃ N, N = 2 ^ c.length := ⟨_, rfl⟩
  have hN12 : N ≤ 4096 := by rw [hN]; exact (show 2 ^ c.length ≤ 2 ^ 12 from Nat.pow_le_pow_right (by omega) (by omega))
  have hwk : IntKind.i64.wrap (2 ^ c.length) = (N : Int) := by
    rw [show (2 : Int) ^ c.length = ((2 ^ c.length : Nat) : Int) by rw [Int.natCast_pow]; rfl, ← hN]
    exact IntWalk.i64_in _ (by constructor <;> omega)
  have hwk2 : wrap64 (2 ^ c.length) = (N : Int) := by
    rw [show (2 : Int) ^ c.length = ((2 ^ c.length : Nat) : Int) by rw [Int.natCast_pow]; rfl, ← hN]
    exact IntWalk.wrap64_in _ (by constructor <;> omega)
  have HN := Lib.hid hN
  have hlt : c.length ≤ 12 := by omega
  clear hN hown hb1 hT hcl hfew
  go_wp2_with fail
  go_loopw [6, 19] (fun b i wr => ∃ k : Nat, k ≤ N ∧ i = nv k ∧ b = nv (Odr.widTo c k) ∧ Below w1.heap.size w1 wr) (fun _ i _ => N - (intOf i).toNat)
  case atStart => exact ⟨0, Nat.zero_le _, rfl, rfl, Below.refl _ _⟩
  case round =>
    clear hwk hwk2
    obtain ⟨k, hk, rfl, rfl, hb⟩ := hrel
    have hbk := Odr.widTo_lt c k
    by_cases hkN : k < N
    · have h1 : Odr.widTo c k < 4096 := by omega
      have hM1 := Lib.hid fun w5 => many_calls k w5 (by omega)
      have hM2 := Lib.hid fun w5 => many_calls (Odr.widTo c k) w5 h1
      have hS := Lib.hid (side_calls c (.slice A c.length cap) k wr ((Rd.below hI.out hb).more hb.size) hlt hcf (by rw [← HN.out]; exact hkN) (HT.out.below hb))
      have hnx := Lib.hid (show Odr.widTo c (k + 1) = if Odr.pop 12 (Odr.widTo c k) < Odr.pop 12 k ∧ Odr.sideB c k = true then k else Odr.widTo c k from rfl)
      obtain ⟨b', hbe'⟩ : ∃ b', b' = Odr.widTo c (k + 1) := ⟨_, rfl⟩
      obtain ⟨b, hbe⟩ : ∃ b, b = Odr.widTo c k := ⟨_, rfl⟩
      rw [← hbe'] at hnx
      rw [← hbe] at hnx hM2 hbk h1 ⊢
      have HBE' := Lib.hid hbe'
      clear hbe' hbe
      generalize Odr.sideB c k = sb at *
      have hp1 := Odr.cnt_le 12 k.testBit
      have hp2 := Odr.cnt_le 12 b.testBit
      change Odr.pop 12 k ≤ 12 at hp1
      change Odr.pop 12 b ≤ 12 at hp2
      generalize Odr.pop 12 k = p at *
      generalize Odr.pop 12 b = q at *
      by_cases hqp : q < p
      · cases sb with
        | true =>
          have hb' := hnx.out
          rw [if_pos ⟨hqp, rfl⟩] at hb'
          subst hb'
          clear hnx
          go_wp2_with fail
          refine (hM1.out _).mono ?_
          rintro e w5 ⟨rfl, rfl⟩
          clear hM1
          go_wp2_with fail
          refine (hM2.out _).mono ?_
          rintro e w5 ⟨rfl, rfl⟩
          clear hM2
          go_wp2_with fail
          refine hS.out.mono ?_
          rintro e w6 ⟨rfl, hb6⟩
          have hb7 := hb.trans (hb6.mono hb.size)
          clear hS hb6 hb
          go_wp2_with fail
          go_roundw
          case rel => exact ⟨b' + 1, by omega, by go_num, by rw [← HBE'.out], hb7⟩
          case measure => simp [intOf]; omega
        | false =>
          have hb' := hnx.out
          rw [if_neg (by simp)] at hb'
          have HB' := Lib.hid hb'
          clear hnx hb'
          go_wp2_with fail
          refine (hM1.out _).mono ?_
          rintro e w5 ⟨rfl, rfl⟩
          clear hM1
          go_wp2_with fail
          refine (hM2.out _).mono ?_
          rintro e w5 ⟨rfl, rfl⟩
          clear hM2
          go_wp2_with fail
          refine hS.out.mono ?_
          rintro e w6 ⟨rfl, hb6⟩
          have hb7 := hb.trans (hb6.mono hb.size)
          clear hS hb6 hb
          go_wp2_with fail
          go_roundw
          case rel => exact ⟨k + 1, by omega, by go_num, by rw [← HBE'.out, HB'.out], hb7⟩
          case measure => simp [intOf]; omega
      · have hb' := hnx.out
        rw [if_neg (by omega)] at hb'
        have HB' := Lib.hid hb'
        clear hnx hb' hS
        go_wp2_with fail
        refine (hM1.out _).mono ?_
        rintro e w5 ⟨rfl, rfl⟩
        clear hM1
        go_wp2_with fail
        refine (hM2.out _).mono ?_
        rintro e w5 ⟨rfl, rfl⟩
        clear hM2
        go_wp2_with fail
        go_roundw
        case rel => exact ⟨k + 1, by omega, by go_num, by rw [← HBE'.out, HB'.out], hb⟩
        case measure => simp [intOf]; omega
    · obtain rfl : k = N := by omega
      have HZ := Lib.hid (show Odr.widest c = Odr.widTo c k by rw [HN.out]; rfl)
      have hfin := HB1.out.trans (hb.mono HB1.out.size)
      clear hb hkN
      obtain ⟨z, hz⟩ : ∃ z, z = Odr.widTo c k := ⟨_, rfl⟩
      rw [← hz] at HZ ⊢
      clear hz
      go_wp2_with fail
      go_ret2
      exact ⟨by rw [HZ.out]; rfl, hfin⟩
end Go.Proofs.YtpicjikjinkkpaaDoor
