/- ChainSays at every input: of any order the ranks, the widest set and the rows. Conditions: the row's own. (Printed by wip/gen/csays.py.) -/
import Derived.Test.YtpicjikjinkkpaaDoorRRows
import Derived.Test.YtpicjikjinkkpaaDoorCRows
namespace Go.Proofs.YtpicjikjinkkpaaDoor
open Go.RowKit

theorem ranks_k (m : List Nat) (v : Value) (w : World) (hr : Ints w w.heap.size v (zs m)) (hv : Odr.Valid m) (hT : Tab w) :
    Calls Tryd.prog 39 #[v] w fun e w' => (∃ v', e = .returned (.tuple #[v', .nilIface]) ∧ Kept w' v' (zs (Odr.lof m.length (Odr.rk (Odr.closed m))))) ∧ Below w.heap.size w w' :=
  (ranks_ok m v w hr hv hT).mono fun _ _ ⟨v', h1, h2, h3⟩ => ⟨⟨v', h1, Kept.of h2.ints⟩, h3⟩
theorem crows_k (m r : List Nat) (v : Value) (w : World) (hr : Ints w w.heap.size v (zs m)) (hv : Odr.Valid m) (hT : Tab w) (hf : Odr.fillOf (Odr.closed m) = some r) :
    Calls Tryd.prog 42 #[v] w fun e w' => (∃ v', e = .returned (.tuple #[v', .nilIface]) ∧ Kept w' v' (zs r)) ∧ Below w.heap.size w w' :=
  (crows_ok m v w hr hv hT).mono fun _ _ ⟨v', r', h0, h1, h2, h3⟩ => by
    rw [hf] at h0
    obtain rfl := Option.some.inj h0
    exact ⟨⟨v', h1, Kept.of h2⟩, h3⟩
set_option maxRecDepth 20000 in
set_option maxHeartbeats 4000000 in
theorem csays_err (l : List Int) (v : Value) (w : World) (hr : Ints w w.heap.size v l) (hne : orderCode l ≠ 0) (hE : ErrTy w) :
    Calls Tryd.prog 18 #[v] w fun e w' => e = .returned (.bool true) ∧ Below w.heap.size w w' := by
  have hk := Lib.hid (Kept.of hr)
  have c0 := Lib.hid fun (w1 : World) (hb : Below w.heap.size w w1) => rorder_calls l v w1 (hk.out _ hb)
  have c1 := Lib.hid fun (w1 : World) (hb : Below w.heap.size w w1) => ranks_err l v w1 (hk.out _ hb) hne
  have c2 := Lib.hid fun (w1 : World) (hb : Below w.heap.size w w1) => errorn (orderCode l) w1 (hE.below hb) hne
  have c3 := Lib.hid fun (w1 : World) (hb : Below w.heap.size w w1) => widest_err l v w1 (hk.out _ hb) hne
  have c4 := Lib.hid fun (w1 : World) (hb : Below w.heap.size w w1) => crows_err l v w1 (hk.out _ hb) hne
  have hz : (((orderCode l : Nat) : Int) == 0) = false := by simp; omega
  generalize orderCode l = E at *
  clear hr hne hE hk
  go_enter Tryd.func18, Tryd.ntmps18
  go_wp2_with fail
  (with_reducible refine (c0.out w (Below.refl _ _)).mono ?_)
  rintro e w1 ⟨rfl, hx⟩
  have hb1 := hx
  clear hx
  go_wp2_with fail
  (with_reducible refine (c1.out w1 hb1).mono ?_)
  rintro e w2 ⟨rfl, hx⟩
  have hb2 := hb1.trans (hx.mono hb1.size)
  clear hb1
  clear hx
  go_wp2_with fail
  (with_reducible refine (c2.out w2 hb2).mono ?_)
  rintro e w3 ⟨rfl, hx⟩
  have hb3 := hb2.trans (hx.mono hb2.size)
  clear hb2
  clear hx
  go_wp2_with fail
  (with_reducible refine (ints_same (Kept.nil w3) (Kept.nil w3)).mono ?_)
  rintro e w4 ⟨rfl, hx⟩
  have hb4 := hb3.trans (hx.mono hb3.size)
  clear hb3
  clear hx
  go_wp2_with fail
  (with_reducible refine (c3.out w4 hb4).mono ?_)
  rintro e w5 ⟨rfl, hx⟩
  have hb5 := hb4.trans (hx.mono hb4.size)
  clear hb4
  clear hx
  go_wp2_with fail
  (with_reducible refine (c2.out w5 hb5).mono ?_)
  rintro e w6 ⟨rfl, hx⟩
  have hb6 := hb5.trans (hx.mono hb5.size)
  clear hb5
  clear hx
  go_wp2_with fail
  (with_reducible refine (c4.out w6 hb6).mono ?_)
  rintro e w7 ⟨rfl, hx⟩
  have hb7 := hb6.trans (hx.mono hb6.size)
  clear hb6
  clear hx
  go_wp2_with fail
  (with_reducible refine (c2.out w7 hb7).mono ?_)
  rintro e w8 ⟨rfl, hx⟩
  have hb8 := hb7.trans (hx.mono hb7.size)
  clear hb7
  clear hx
  go_wp2_with fail
  (with_reducible refine (ints_same (Kept.nil w8) (Kept.nil w8)).mono ?_)
  rintro e w9 ⟨rfl, hx⟩
  have hb9 := hb8.trans (hx.mono hb8.size)
  clear hb8
  clear hx
  go_wp2_with fail
  go_ret
  exact ⟨rfl, hb9⟩
set_option maxRecDepth 20000 in
set_option maxHeartbeats 8000000 in
theorem csays_ok (m : List Nat) (v : Value) (w : World) (hr : Ints w w.heap.size v (zs m)) (hv : Odr.Valid m) (hT : Tab w) :
    Calls Tryd.prog 18 #[v] w fun e w' => e = .returned (.bool true) ∧ Below w.heap.size w w' := by
  obtain ⟨r, hf⟩ := Odr.rows_some hv
  have hk := Lib.hid (Kept.of hr)
  have c0 := Lib.hid fun (w1 : World) (hb : Below w.heap.size w w1) => rorder0 m v w1 (hk.out _ hb) hv
  have c1 := Lib.hid fun (w1 : World) (hb : Below w.heap.size w w1) => rranks_calls m v w1 (hk.out _ hb) hv
  have c2 := Lib.hid fun (w1 : World) => error0 w1
  have c3 := Lib.hid fun (w1 : World) (hb : Below w.heap.size w w1) => rwidest_calls m v w1 (hk.out _ hb) hv
  have c4 := Lib.hid fun (w1 : World) (hb : Below w.heap.size w w1) => rrows_k m r v w1 (hk.out _ hb) hv hf
  have c5 := Lib.hid fun (w1 : World) (hb : Below w.heap.size w w1) => ranks_k m v w1 (hk.out _ hb) hv (hT.below hb)
  have c6 := Lib.hid fun (w1 : World) (hb : Below w.heap.size w w1) => widest_ok m v w1 (hk.out _ hb) hv (hT.below hb)
  have c7 := Lib.hid fun (w1 : World) (hb : Below w.heap.size w w1) => crows_k m r v w1 (hk.out _ hb) hv (hT.below hb) hf
  clear hr hv hT hk hf
  generalize Odr.lof m.length (Odr.rk (Odr.closed m)) = rl at *
  generalize Odr.widest (Odr.closed m) = wid at *
  go_enter Tryd.func18, Tryd.ntmps18
  go_wp2_with fail
  (with_reducible refine (c0.out w (Below.refl _ _)).mono ?_)
  rintro e w1 ⟨rfl, hx⟩
  have hb1 := hx
  clear hx
  go_wp2_with fail
  (with_reducible refine (c1.out w1 hb1).mono ?_)
  rintro e w2 ⟨⟨vx, rfl, kx⟩, hx⟩
  have hb2 := hb1.trans (hx.mono hb1.size)
  clear hb1
  clear hx
  replace kx := Lib.hid kx
  go_wp2_with fail
  (with_reducible refine (c3.out w2 hb2).mono ?_)
  rintro e w3 ⟨rfl, hx⟩
  have hb3 := hb2.trans (hx.mono hb2.size)
  replace kx := Lib.hid (kx.out.next hx)
  clear hb2
  clear hx
  go_wp2_with fail
  (with_reducible refine (c4.out w3 hb3).mono ?_)
  rintro e w4 ⟨⟨vy, rfl, ky⟩, hx⟩
  have hb4 := hb3.trans (hx.mono hb3.size)
  replace kx := Lib.hid (kx.out.next hx)
  clear hb3
  clear hx
  replace ky := Lib.hid ky
  go_wp2_with fail
  (with_reducible refine (c5.out w4 hb4).mono ?_)
  rintro e w5 ⟨⟨vl, rfl, kl⟩, hx⟩
  have hb5 := hb4.trans (hx.mono hb4.size)
  replace kx := Lib.hid (kx.out.next hx)
  replace ky := Lib.hid (ky.out.next hx)
  clear hb4
  clear hx
  replace kl := Lib.hid kl
  go_wp2_with fail
  (with_reducible refine (c2.out w5).mono ?_)
  rintro e w6 ⟨rfl, hx⟩
  have hb6 := hb5.trans (hx.mono hb5.size)
  replace kx := Lib.hid (kx.out.next hx)
  replace ky := Lib.hid (ky.out.next hx)
  replace kl := Lib.hid (kl.out.next hx)
  clear hb5
  clear hx
  go_wp2_with fail
  (with_reducible refine (ints_same kl.out kx.out).mono ?_)
  rintro e w7 ⟨rfl, hx⟩
  have hb7 := hb6.trans (hx.mono hb6.size)
  replace kx := Lib.hid (kx.out.next hx)
  replace ky := Lib.hid (ky.out.next hx)
  replace kl := Lib.hid (kl.out.next hx)
  clear hb6
  clear hx
  go_wp2_with fail
  (with_reducible refine (c6.out w7 hb7).mono ?_)
  rintro e w8 ⟨rfl, hx⟩
  have hb8 := hb7.trans (hx.mono hb7.size)
  replace kx := Lib.hid (kx.out.next hx)
  replace ky := Lib.hid (ky.out.next hx)
  replace kl := Lib.hid (kl.out.next hx)
  clear hb7
  clear hx
  go_wp2_with fail
  (with_reducible refine (c2.out w8).mono ?_)
  rintro e w9 ⟨rfl, hx⟩
  have hb9 := hb8.trans (hx.mono hb8.size)
  replace kx := Lib.hid (kx.out.next hx)
  replace ky := Lib.hid (ky.out.next hx)
  replace kl := Lib.hid (kl.out.next hx)
  clear hb8
  clear hx
  go_wp2_with fail
  (with_reducible refine (c7.out w9 hb9).mono ?_)
  rintro e w10 ⟨⟨vr, rfl, kr⟩, hx⟩
  have hb10 := hb9.trans (hx.mono hb9.size)
  replace kx := Lib.hid (kx.out.next hx)
  replace ky := Lib.hid (ky.out.next hx)
  replace kl := Lib.hid (kl.out.next hx)
  clear hb9
  clear hx
  replace kr := Lib.hid kr
  go_wp2_with fail
  (with_reducible refine (c2.out w10).mono ?_)
  rintro e w11 ⟨rfl, hx⟩
  have hb11 := hb10.trans (hx.mono hb10.size)
  replace kx := Lib.hid (kx.out.next hx)
  replace ky := Lib.hid (ky.out.next hx)
  replace kl := Lib.hid (kl.out.next hx)
  replace kr := Lib.hid (kr.out.next hx)
  clear hb10
  clear hx
  go_wp2_with fail
  (with_reducible refine (ints_same kr.out ky.out).mono ?_)
  rintro e w12 ⟨rfl, hx⟩
  have hb12 := hb11.trans (hx.mono hb11.size)
  replace kx := Lib.hid (kx.out.next hx)
  replace ky := Lib.hid (ky.out.next hx)
  replace kl := Lib.hid (kl.out.next hx)
  replace kr := Lib.hid (kr.out.next hx)
  clear hb11
  clear hx
  go_wp2_with fail
  go_ret
  exact ⟨rfl, hb12⟩
/-- the law at every input -/
theorem csays_calls (l : List Int) (v : Value) (w : World) (hr : Ints w w.heap.size v l) (hE : ErrTy w) (hT : Tab w) :
    Calls Tryd.prog 18 #[v] w fun e w' => e = .returned (.bool true) ∧ Below w.heap.size w w' := by
  by_cases h : orderCode l = 0
  · obtain ⟨m, rfl, hv⟩ := orderCode_zero h
    exact csays_ok m v w hr hv hT
  · exact csays_err l v w hr h hE
end Go.Proofs.YtpicjikjinkkpaaDoor
