/- How many things a small set has: math/bits counts ones, core.Many, the reference's Many. Conditions: each contract's own premises. -/
import Derived.Test.YtpicjikjinkkpaaDoorRow12
import Derived.Test.YtpicjikjinkkpaaDoorExtM
namespace Go.Proofs.YtpicjikjinkkpaaDoor
open Go.RowKit

def one1 (x : Int) : Int := IntKind.u64.wrap (bits .and .u64 (x / 2) 6148914691236517205 + bits .and .u64 x 6148914691236517205)
def one2 (x : Int) : Int := IntKind.u64.wrap (bits .and .u64 (x / 4) 3689348814741910323 + bits .and .u64 x 3689348814741910323)
def one3 (x : Int) : Int := bits .and .u64 (IntKind.u64.wrap (x / 16 + x)) 1085102592571150095
def one4 (x : Int) : Int := IntKind.u64.wrap (x + x / 256)
def one5 (x : Int) : Int := IntKind.u64.wrap (x + x / 65536)
def one6 (x : Int) : Int := IntKind.u64.wrap (x + x / 4294967296)
def ones (x : Int) : Int := bits .and .i64 (wrap64 (one6 (one5 (one4 (one3 (one2 (one1 x))))))) 127
theorem ones_table : ((List.range 4096).all fun x => decide (ones (x : Int) = (Odr.pop 12 x : Int))) = true := by decide +kernel
theorem ones_eq {x : Nat} (hx : x < 4096) : ones (x : Int) = (Odr.pop 12 x : Int) := of_decide_eq_true (List.all_eq_true.1 ones_table x (List.mem_range.2 hx))

theorem ones64_calls (x : Nat) (w : World) (hx : x < 4096) : Calls Tryd.prog 82 #[.int .u64 x] w fun e w' => e = .returned (nv (Odr.pop 12 x)) ∧ w = w' := by
  have H := Lib.hid (ones_eq hx)
  go_enter Tryd.func82, Tryd.ntmps82
  go_wp2
  go_ret
  refine ⟨?_, rfl⟩
  show Ending.returned (.int .i64 (ones x)) = _
  rw [H.out]
theorem ones_calls (x : Nat) (w : World) (hx : x < 4096) : Calls Tryd.prog 77 #[.int .u64 x] w fun e w' => e = .returned (nv (Odr.pop 12 x)) ∧ w = w' := by
  have H := Lib.hid (ones64_calls x w hx)
  have hu := IntWalk.u64_in (x : Int) (by constructor <;> omega)
  go_enter Tryd.func77, Tryd.ntmps77
  go_wp2_with fail
  refine H.out.mono ?_
  rintro e w' ⟨rfl, rfl⟩
  clear H
  go_wp2_with fail
  go_ret
  exact ⟨rfl, rfl⟩
theorem many_calls (x : Nat) (w : World) (hx : x < 4096) : Calls Tryd.prog 66 #[nv x] w fun e w' => e = .returned (nv (Odr.pop 12 x)) ∧ w = w' := by
  have H := Lib.hid (ones_calls x w hx)
  have hu := IntWalk.u64_in (x : Int) (by constructor <;> omega)
  go_enter Tryd.func66, Tryd.ntmps66
  go_wp2_with fail
  refine H.out.mono ?_
  rintro e w' ⟨rfl, rfl⟩
  clear H
  go_wp2_with fail
  go_ret
  exact ⟨rfl, rfl⟩

/-- how many things of a set are left when the first k are cut off -/
theorem Odr.pop_split (x : Nat) : Odr.pop 12 x = x % 2 + Odr.pop 12 (x / 2) ∨ 4096 ≤ x := by
  rcases Nat.lt_or_ge x 4096 with h | h
  · left
    have hall : ((List.range 4096).all fun x => decide (Odr.pop 12 x = x % 2 + Odr.pop 12 (x / 2))) = true := by decide +kernel
    exact of_decide_eq_true (List.all_eq_true.1 hall x (List.mem_range.2 h))
  · exact .inr h
theorem rmany_calls (s : Nat) (w : World) (hs : s < 4096) : Calls Tryd.prog 41 #[nv s] w fun e w' => e = .returned (nv (Odr.pop 12 s)) ∧ w = w' := by
  go_enter Tryd.func41, Tryd.ntmps41
  go_wp2
  go_loop [0, 3] (fun u c => ∃ (x k : Nat), u = .int .i64 x ∧ c = .int .i64 k ∧ x < 4096 ∧ Hid (k + Odr.pop 12 x = Odr.pop 12 s) ∧ k ≤ 12) (fun u _ => (intOf u).toNat)
  case atStart => exact ⟨s, 0, rfl, rfl, hs, Lib.hid (Nat.zero_add _), by omega⟩
  case round =>
    obtain ⟨x, k, rfl, rfl, hx, hk, hk12⟩ := hrel
    by_cases h0 : 0 < x
    · have hsp : Odr.pop 12 x = x % 2 + Odr.pop 12 (x / 2) := by
        rcases Odr.pop_split x with h | h
        · exact h
        · omega
      have hk2 := Lib.hid (show k + x % 2 + Odr.pop 12 (x / 2) = Odr.pop 12 s by rw [← hk.out, hsp]; omega)
      have hle : k + x % 2 ≤ 12 := by
        have h1 := hk2.out
        have h2 : Odr.pop 12 s ≤ 12 := Odr.cnt_le 12 _
        omega
      clear hsp hk
      go_wp2
      go_round
      case rel => exact ⟨x / 2, k + x % 2, by go_num, by go_num, by omega, hk2, hle⟩
      case measure => simp [intOf]; omega
    · obtain rfl : x = 0 := by omega
      have he := hk.out
      rw [Odr.pop_zero, Nat.add_zero] at he
      have HE := Lib.hid he
      clear he hk h0
      go_wp2
      go_ret
      exact ⟨by rw [← HE.out]; rfl, rfl⟩
end Go.Proofs.YtpicjikjinkkpaaDoor
