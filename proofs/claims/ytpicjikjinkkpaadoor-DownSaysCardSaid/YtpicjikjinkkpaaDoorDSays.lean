/- DownSays at every input: of any order any set closed, whether it is, its last things, and how many closed ones there are. Conditions: the row's own. (Printed by wip/gen/dsays.py.) -/
import Derived.Test.YtpicjikjinkkpaaDoorRefD
import Derived.Test.YtpicjikjinkkpaaDoorCount
import Derived.Test.YtpicjikjinkkpaaDoorCloses
namespace Go.Proofs.YtpicjikjinkkpaaDoor
open Go.RowKit

set_option maxRecDepth 20000 in
set_option maxHeartbeats 4000000 in
theorem dsays_err (l : List Int) (v : Value) (s : Int) (w : World) (hr : Ints w w.heap.size v l) (hne : orderCode l ≠ 0) (hE : ErrTy w) :
    Calls Tryd.prog 16 #[v, .int .i64 s] w fun e w' => e = .returned (.bool true) ∧ Below w.heap.size w w' := by
  have hk := Lib.hid (Kept.of hr)
  have c0 := Lib.hid fun (w1 : World) (hb : Below w.heap.size w w1) => rorder_calls l v w1 (hk.out _ hb)
  have c1 := Lib.hid fun (w1 : World) (hb : Below w.heap.size w w1) => count_err l v w1 (hk.out _ hb) hne
  have c2 := Lib.hid fun (w1 : World) (hb : Below w.heap.size w w1) => errorn (orderCode l) w1 (hE.below hb) hne
  have c3 := Lib.hid fun (w1 : World) (hb : Below w.heap.size w w1) => close_err l v s w1 (hk.out _ hb) hne
  have c4 := Lib.hid fun (w1 : World) (hb : Below w.heap.size w w1) => is_err l v s w1 (hk.out _ hb) hne
  have c5 := Lib.hid fun (w1 : World) (hb : Below w.heap.size w w1) => last_err l v s w1 (hk.out _ hb) hne
  have hz : (((orderCode l : Nat) : Int) == 0) = false := by simp; omega
  generalize orderCode l = E at *
  clear hr hne hE hk
  go_enter Tryd.func16, Tryd.ntmps16
  go_wp2_with fail
  (with_reducible refine (c0.out w (Below.refl _ _)).mono ?_)
  rintro e w1 ⟨rfl, hx⟩
  have hb1 := hx
  clear hx
  go_wp2_with fail
  (with_reducible refine (c1.out w1 hb1).mono ?_)
  rintro e w2 ⟨rfl, hx⟩
  have hb2 := hb1.trans (hx.mono hb1.size)
  clear hb1
  clear hx
  go_wp2_with fail
  (with_reducible refine (c2.out w2 hb2).mono ?_)
  rintro e w3 ⟨rfl, hx⟩
  have hb3 := hb2.trans (hx.mono hb2.size)
  clear hb2
  clear hx
  go_wp2_with fail
  (with_reducible refine (c3.out w3 hb3).mono ?_)
  rintro e w4 ⟨rfl, hx⟩
  have hb4 := hb3.trans (hx.mono hb3.size)
  clear hb3
  clear hx
  go_wp2_with fail
  (with_reducible refine (c2.out w4 hb4).mono ?_)
  rintro e w5 ⟨rfl, hx⟩
  have hb5 := hb4.trans (hx.mono hb4.size)
  clear hb4
  clear hx
  go_wp2_with fail
  (with_reducible refine (c4.out w5 hb5).mono ?_)
  rintro e w6 ⟨rfl, hx⟩
  have hb6 := hb5.trans (hx.mono hb5.size)
  clear hb5
  clear hx
  go_wp2_with fail
  (with_reducible refine (c2.out w6 hb6).mono ?_)
  rintro e w7 ⟨rfl, hx⟩
  have hb7 := hb6.trans (hx.mono hb6.size)
  clear hb6
  clear hx
  go_wp2_with fail
  (with_reducible refine (c5.out w7 hb7).mono ?_)
  rintro e w8 ⟨rfl, hx⟩
  have hb8 := hb7.trans (hx.mono hb7.size)
  clear hb7
  clear hx
  go_wp2_with fail
  (with_reducible refine (c2.out w8 hb8).mono ?_)
  rintro e w9 ⟨rfl, hx⟩
  have hb9 := hb8.trans (hx.mono hb8.size)
  clear hb8
  clear hx
  go_wp2_with fail
  go_ret
  exact ⟨rfl, hb9⟩
set_option maxRecDepth 20000 in
set_option maxHeartbeats 4000000 in
theorem dsays_mask (m : List Nat) (v : Value) (s : Int) (w : World) (hr : Ints w w.heap.size v (zs m)) (hv : Odr.Valid m) (hE : ErrTy w) (hT : Tab w) (hs : ¬ (0 ≤ s ∧ s < 2 ^ m.length)) :
    Calls Tryd.prog 16 #[v, .int .i64 s] w fun e w' => e = .returned (.bool true) ∧ Below w.heap.size w w' := by
  have hfew := hv.few
  obtain ⟨A, cap, rfl⟩ := Rd.val hr
  have hlz : (zs m).length = m.length := by simp
  rw [hlz] at hr ⊢
  have hk := Lib.hid (Kept.of hr)
  have c0 := Lib.hid fun (w1 : World) (hb : Below w.heap.size w w1) => rorder0 m (.slice A m.length cap) w1 (hk.out _ hb) hv
  have c1 := Lib.hid fun (w1 : World) (hb : Below w.heap.size w w1) => count_ok m (.slice A m.length cap) w1 (hk.out _ hb) hv (hT.below hb)
  have c2 := Lib.hid fun (w1 : World) => error0 w1
  have c6 := Lib.hid fun (w1 : World) (hb : Below w.heap.size w w1) => rdowns_calls m (.slice A m.length cap) w1 (hk.out _ hb) hv
  have c3 := Lib.hid fun (w1 : World) (hb : Below w.heap.size w w1) => close_mask m (.slice A m.length cap) s w1 (hk.out _ hb) hv (hT.below hb) hs
  have c4 := Lib.hid fun (w1 : World) (hb : Below w.heap.size w w1) => is_mask m (.slice A m.length cap) s w1 (hk.out _ hb) hv (hT.below hb) hs
  have c5 := Lib.hid fun (w1 : World) (hb : Below w.heap.size w w1) => last_mask m (.slice A m.length cap) s w1 (hk.out _ hb) hv (hT.below hb) hs
  have c7 := Lib.hid fun (w1 : World) => rmask_calls s m.length w1 hfew
  rw [decide_eq_false hs] at c7
  have c8 := Lib.hid fun (w1 : World) (hb : Below w.heap.size w w1) => error1 w1 (hE.below hb)
  clear hr hv hE hT hlz hk hs
  generalize Odr.downs m = D at *
  generalize m.length = n at *
  go_enter Tryd.func16, Tryd.ntmps16
  go_wp2_with fail
  (with_reducible refine (c0.out w (Below.refl _ _)).mono ?_)
  rintro e w1 ⟨rfl, hx⟩
  have hb1 := hx
  clear hx
  go_wp2_with fail
  (with_reducible refine (c6.out w1 hb1).mono ?_)
  rintro e w2 ⟨rfl, hx⟩
  have hb2 := hb1.trans (hx.mono hb1.size)
  clear hb1
  clear hx
  go_wp2_with fail
  (with_reducible refine (c1.out w2 hb2).mono ?_)
  rintro e w3 ⟨rfl, hx⟩
  have hb3 := hb2.trans (hx.mono hb2.size)
  clear hb2
  clear hx
  go_wp2_with fail
  (with_reducible refine (c2.out w3).mono ?_)
  rintro e w4 ⟨rfl, hx⟩
  have hb4 := hb3.trans (hx.mono hb3.size)
  clear hb3
  clear hx
  go_wp2_with fail
  (with_reducible refine (c7.out w4).mono ?_)
  rintro e wq ⟨rfl, rfl⟩
  go_wp2_with fail
  (with_reducible refine (c3.out w4 hb4).mono ?_)
  rintro e w5 ⟨rfl, hx⟩
  have hb5 := hb4.trans (hx.mono hb4.size)
  clear hb4
  clear hx
  go_wp2_with fail
  (with_reducible refine (c8.out w5 hb5).mono ?_)
  rintro e w6 ⟨rfl, hx⟩
  have hb6 := hb5.trans (hx.mono hb5.size)
  clear hb5
  clear hx
  go_wp2_with fail
  (with_reducible refine (c4.out w6 hb6).mono ?_)
  rintro e w7 ⟨rfl, hx⟩
  have hb7 := hb6.trans (hx.mono hb6.size)
  clear hb6
  clear hx
  go_wp2_with fail
  (with_reducible refine (c8.out w7 hb7).mono ?_)
  rintro e w8 ⟨rfl, hx⟩
  have hb8 := hb7.trans (hx.mono hb7.size)
  clear hb7
  clear hx
  go_wp2_with fail
  (with_reducible refine (c5.out w8 hb8).mono ?_)
  rintro e w9 ⟨rfl, hx⟩
  have hb9 := hb8.trans (hx.mono hb8.size)
  clear hb8
  clear hx
  go_wp2_with fail
  (with_reducible refine (c8.out w9 hb9).mono ?_)
  rintro e w10 ⟨rfl, hx⟩
  have hb10 := hb9.trans (hx.mono hb9.size)
  clear hb9
  clear hx
  go_wp2_with fail
  go_ret
  exact ⟨rfl, hb10⟩
set_option maxRecDepth 20000 in
set_option maxHeartbeats 8000000 in
theorem dsays_ok (m : List Nat) (v : Value) (s : Nat) (w : World) (hr : Ints w w.heap.size v (zs m)) (hv : Odr.Valid m) (hT : Tab w) (hs : s < 2 ^ m.length) :
    Calls Tryd.prog 16 #[v, nv s] w fun e w' => e = .returned (.bool true) ∧ Below w.heap.size w w' := by
  have hfew := hv.few
  obtain ⟨A, cap, rfl⟩ := Rd.val hr
  have hlz : (zs m).length = m.length := by simp
  rw [hlz] at hr ⊢
  have hk := Lib.hid (Kept.of hr)
  have c0 := Lib.hid fun (w1 : World) (hb : Below w.heap.size w w1) => rorder0 m (.slice A m.length cap) w1 (hk.out _ hb) hv
  have c1 := Lib.hid fun (w1 : World) (hb : Below w.heap.size w w1) => count_ok m (.slice A m.length cap) w1 (hk.out _ hb) hv (hT.below hb)
  have c2 := Lib.hid fun (w1 : World) => error0 w1
  have c6 := Lib.hid fun (w1 : World) (hb : Below w.heap.size w w1) => rdowns_calls m (.slice A m.length cap) w1 (hk.out _ hb) hv
  have c3 := Lib.hid fun (w1 : World) (hb : Below w.heap.size w w1) => close_ok m (.slice A m.length cap) s w1 (hk.out _ hb) hv (hT.below hb) hs
  have c4 := Lib.hid fun (w1 : World) (hb : Below w.heap.size w w1) => is_ok m (.slice A m.length cap) s w1 (hk.out _ hb) hv (hT.below hb) hs
  have c5 := Lib.hid fun (w1 : World) (hb : Below w.heap.size w w1) => last_ok m (.slice A m.length cap) s w1 (hk.out _ hb) hv (hT.below hb) hs
  have c7 := Lib.hid fun (w1 : World) => rmask_calls (s : Int) m.length w1 hfew
  have hsm : 0 ≤ (s : Int) ∧ (s : Int) < 2 ^ m.length := ⟨by omega, by
    rw [show (2 : Int) ^ m.length = ((2 ^ m.length : Nat) : Int) by rw [Int.natCast_pow]; rfl]
    exact_mod_cast hs⟩
  rw [decide_eq_true hsm] at c7
  have c8 := Lib.hid fun (w1 : World) (hb : Below w.heap.size w w1) => rdown_calls m (.slice A m.length cap) s w1 (hk.out _ hb) hv hs
  have c9 := Lib.hid fun (w1 : World) (hb : Below w.heap.size w w1) => rlast_calls m (.slice A m.length cap) s w1 (hk.out _ hb) hv hs
  clear hr hv hT hlz hk hs hsm
  generalize Odr.downs m = D at *
  generalize Odr.dclose m s = X at *
  generalize Odr.dlast m s = Y at *
  generalize m.length = n at *
  have hcase : (decide (X = s) = true ∧ ((X : Int) == (s : Int)) = true) ∨ (decide (X = s) = false ∧ ((X : Int) == (s : Int)) = false) := by
    by_cases h : X = s
    · exact .inl ⟨decide_eq_true h, by simp [h]⟩
    · exact .inr ⟨decide_eq_false h, by simp; omega⟩
  rcases hcase with ⟨hd, hx0⟩ | ⟨hd, hx0⟩
  all_goals
    rw [hd] at c4
    clear hd
    go_enter Tryd.func16, Tryd.ntmps16
    go_wp2_with fail
    (with_reducible refine (c0.out w (Below.refl _ _)).mono ?_)
    rintro e w1 ⟨rfl, hx⟩
    have hb1 := hx
    clear hx
    go_wp2_with fail
    (with_reducible refine (c6.out w1 hb1).mono ?_)
    rintro e w2 ⟨rfl, hx⟩
    have hb2 := hb1.trans (hx.mono hb1.size)
    clear hb1
    clear hx
    go_wp2_with fail
    (with_reducible refine (c1.out w2 hb2).mono ?_)
    rintro e w3 ⟨rfl, hx⟩
    have hb3 := hb2.trans (hx.mono hb2.size)
    clear hb2
    clear hx
    go_wp2_with fail
    (with_reducible refine (c2.out w3).mono ?_)
    rintro e w4 ⟨rfl, hx⟩
    have hb4 := hb3.trans (hx.mono hb3.size)
    clear hb3
    clear hx
    go_wp2_with fail
    (with_reducible refine (c7.out w4).mono ?_)
    rintro e wq ⟨rfl, rfl⟩
    go_wp2_with fail
    (with_reducible refine (c8.out w4 hb4).mono ?_)
    rintro e w5 ⟨rfl, hx⟩
    have hb5 := hb4.trans (hx.mono hb4.size)
    clear hb4
    clear hx
    go_wp2_with fail
    (with_reducible refine (c9.out w5 hb5).mono ?_)
    rintro e w6 ⟨rfl, hx⟩
    have hb6 := hb5.trans (hx.mono hb5.size)
    clear hb5
    clear hx
    go_wp2_with fail
    (with_reducible refine (c3.out w6 hb6).mono ?_)
    rintro e w7 ⟨rfl, hx⟩
    have hb7 := hb6.trans (hx.mono hb6.size)
    clear hb6
    clear hx
    go_wp2_with fail
    (with_reducible refine (c2.out w7).mono ?_)
    rintro e w8 ⟨rfl, hx⟩
    have hb8 := hb7.trans (hx.mono hb7.size)
    clear hb7
    clear hx
    go_wp2_with fail
    (with_reducible refine (c4.out w8 hb8).mono ?_)
    rintro e w9 ⟨rfl, hx⟩
    have hb9 := hb8.trans (hx.mono hb8.size)
    clear hb8
    clear hx
    go_wp2_with fail
    (with_reducible refine (c2.out w9).mono ?_)
    rintro e w10 ⟨rfl, hx⟩
    have hb10 := hb9.trans (hx.mono hb9.size)
    clear hb9
    clear hx
    go_wp2_with fail
    (with_reducible refine (c5.out w10 hb10).mono ?_)
    rintro e w11 ⟨rfl, hx⟩
    have hb11 := hb10.trans (hx.mono hb10.size)
    clear hb10
    clear hx
    go_wp2_with fail
    (with_reducible refine (c2.out w11).mono ?_)
    rintro e w12 ⟨rfl, hx⟩
    have hb12 := hb11.trans (hx.mono hb11.size)
    clear hb11
    clear hx
    go_wp2_with fail
    go_ret
    exact ⟨rfl, hb12⟩
/-- the law at every input -/
theorem dsays_calls (l : List Int) (v : Value) (s : Int) (w : World) (hr : Ints w w.heap.size v l) (hE : ErrTy w) (hT : Tab w) :
    Calls Tryd.prog 16 #[v, .int .i64 s] w fun e w' => e = .returned (.bool true) ∧ Below w.heap.size w w' := by
  by_cases h : orderCode l = 0
  · obtain ⟨m, rfl, hv⟩ := orderCode_zero h
    by_cases hg : 0 ≤ s ∧ s < 2 ^ m.length
    · obtain ⟨s, rfl, h2⟩ := natOf hg
      exact dsays_ok m v s w hr hv hT h2
    · exact dsays_mask m v s w hr hv hE hT hg
  · exact dsays_err l v s w hr h hE
end Go.Proofs.YtpicjikjinkkpaaDoor
