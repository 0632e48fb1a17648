/- OrderSays at every input: what is wrong with any order, what is behind and ahead, and any step more. Conditions: the row's own. (Printed by wip/gen/osays.py.) -/
import Derived.Test.YtpicjikjinkkpaaDoorRefT
import Derived.Test.YtpicjikjinkkpaaDoorTurned
import Derived.Test.YtpicjikjinkkpaaDoorKeep
import Derived.Test.YtpicjikjinkkpaaDoorOMore
namespace Go.Proofs.YtpicjikjinkkpaaDoor
open Go.RowKit

set_option maxRecDepth 20000 in
set_option maxHeartbeats 4000000 in
theorem osays_err (l : List Int) (v : Value) (a b : Int) (w : World) (hr : Ints w w.heap.size v l) (hne : orderCode l ≠ 0) (hE : ErrTy w) :
    Calls Tryd.prog 15 #[v, .int .i64 a, .int .i64 b] w fun e w' => e = .returned (.bool true) ∧ Below w.heap.size w w' := by
  have hk := Lib.hid (Kept.of hr)
  have c0 := Lib.hid fun (w1 : World) (hb : Below w.heap.size w w1) => rorder_calls l v w1 (hk.out _ hb)
  have c1 := Lib.hid fun (w1 : World) (hb : Below w.heap.size w w1) => check_err l v w1 (hk.out _ hb) hne
  have c2 := Lib.hid fun (w1 : World) (hb : Below w.heap.size w w1) => errorn (orderCode l) w1 (hE.below hb) hne
  have c3 := Lib.hid fun (w1 : World) (hb : Below w.heap.size w w1) => behind_err l v w1 (hk.out _ hb) hne
  have c4 := Lib.hid fun (w1 : World) (hb : Below w.heap.size w w1) => turned_err l v w1 (hk.out _ hb) hne
  have c5 := Lib.hid fun (w1 : World) (hb : Below w.heap.size w w1) => less_err l v a b w1 (hk.out _ hb) hne
  have c6 := Lib.hid fun (w1 : World) (hb : Below w.heap.size w w1) => with_err l v a b w1 (hk.out _ hb) hne
  have hz : (((orderCode l : Nat) : Int) == 0) = false := by simp; omega
  generalize orderCode l = E at *
  clear hr hne hE hk
  go_enter Tryd.func15, Tryd.ntmps15
  go_wp2_with fail
  (with_reducible refine (c0.out w (Below.refl _ _)).mono ?_)
  rintro e w1 ⟨rfl, hx⟩
  have hb1 := hx
  clear hx
  go_wp2_with fail
  (with_reducible refine (c1.out w1 hb1).mono ?_)
  rintro e w2 ⟨rfl, hx⟩
  have hb2 := hb1.trans (hx.mono hb1.size)
  clear hb1
  clear hx
  go_wp2_with fail
  (with_reducible refine (c2.out w2 hb2).mono ?_)
  rintro e w3 ⟨rfl, hx⟩
  have hb3 := hb2.trans (hx.mono hb2.size)
  clear hb2
  clear hx
  go_wp2_with fail
  (with_reducible refine (c3.out w3 hb3).mono ?_)
  rintro e w4 ⟨rfl, hx⟩
  have hb4 := hb3.trans (hx.mono hb3.size)
  clear hb3
  clear hx
  go_wp2_with fail
  (with_reducible refine (c2.out w4 hb4).mono ?_)
  rintro e w5 ⟨rfl, hx⟩
  have hb5 := hb4.trans (hx.mono hb4.size)
  clear hb4
  clear hx
  go_wp2_with fail
  (with_reducible refine (ints_same (Kept.nil w5) (Kept.nil w5)).mono ?_)
  rintro e w6 ⟨rfl, hx⟩
  have hb6 := hb5.trans (hx.mono hb5.size)
  clear hb5
  clear hx
  go_wp2_with fail
  (with_reducible refine (c4.out w6 hb6).mono ?_)
  rintro e w7 ⟨rfl, hx⟩
  have hb7 := hb6.trans (hx.mono hb6.size)
  clear hb6
  clear hx
  go_wp2_with fail
  (with_reducible refine (c2.out w7 hb7).mono ?_)
  rintro e w8 ⟨rfl, hx⟩
  have hb8 := hb7.trans (hx.mono hb7.size)
  clear hb7
  clear hx
  go_wp2_with fail
  (with_reducible refine (ints_same (Kept.nil w8) (Kept.nil w8)).mono ?_)
  rintro e w9 ⟨rfl, hx⟩
  have hb9 := hb8.trans (hx.mono hb8.size)
  clear hb8
  clear hx
  go_wp2_with fail
  (with_reducible refine (c5.out w9 hb9).mono ?_)
  rintro e w10 ⟨rfl, hx⟩
  have hb10 := hb9.trans (hx.mono hb9.size)
  clear hb9
  clear hx
  go_wp2_with fail
  (with_reducible refine (c2.out w10 hb10).mono ?_)
  rintro e w11 ⟨rfl, hx⟩
  have hb11 := hb10.trans (hx.mono hb10.size)
  clear hb10
  clear hx
  go_wp2_with fail
  (with_reducible refine (c6.out w11 hb11).mono ?_)
  rintro e w12 ⟨rfl, hx⟩
  have hb12 := hb11.trans (hx.mono hb11.size)
  clear hb11
  clear hx
  go_wp2_with fail
  (with_reducible refine (c2.out w12 hb12).mono ?_)
  rintro e w13 ⟨rfl, hx⟩
  have hb13 := hb12.trans (hx.mono hb12.size)
  clear hb12
  clear hx
  go_wp2_with fail
  (with_reducible refine (ints_same (Kept.nil w13) (Kept.nil w13)).mono ?_)
  rintro e w14 ⟨rfl, hx⟩
  have hb14 := hb13.trans (hx.mono hb13.size)
  clear hb13
  clear hx
  go_wp2_with fail
  go_ret
  exact ⟨rfl, hb14⟩
set_option maxRecDepth 20000 in
set_option maxHeartbeats 8000000 in
theorem osays_out (m : List Nat) (v : Value) (a b : Int) (w : World) (hr : Ints w w.heap.size v (zs m)) (hv : Odr.Valid m) (hE : ErrTy w) (hT : Tab w)
    (hout : a < 0 ∨ (0 ≤ a ∧ (m.length : Int) ≤ a) ∨ (0 ≤ a ∧ a < m.length ∧ b < 0) ∨ (0 ≤ a ∧ a < m.length ∧ 0 ≤ b ∧ (m.length : Int) ≤ b)) :
    Calls Tryd.prog 15 #[v, .int .i64 a, .int .i64 b] w fun e w' => e = .returned (.bool true) ∧ Below w.heap.size w w' := by
  have hfew := hv.few
  obtain ⟨A, cap, rfl⟩ := Rd.val hr
  have hlz : (zs m).length = m.length := by simp
  rw [hlz] at hr ⊢
  have hk := Lib.hid (Kept.of hr)
  have c0 := Lib.hid fun (w1 : World) (hb : Below w.heap.size w w1) => rorder0 m (.slice A m.length cap) w1 (hk.out _ hb) hv
  have c1 := Lib.hid fun (w1 : World) (hb : Below w.heap.size w w1) => check_valid m (.slice A m.length cap) w1 (hk.out _ hb) hv
  have c2 := Lib.hid fun (w1 : World) => error0 w1
  have c3 := Lib.hid fun (w1 : World) (hb : Below w.heap.size w w1) => behind_k m (.slice A m.length cap) w1 (hk.out _ hb) hv
  have c4 := Lib.hid fun (w1 : World) (hb : Below w.heap.size w w1) => turned_k m (.slice A m.length cap) w1 (hk.out _ hb) hv (hT.below hb)
  have c7 := Lib.hid fun (w1 : World) (hb : Below w.heap.size w w1) => rclosed_k m (.slice A m.length cap) w1 (hk.out _ hb) hv
  have c8 := Lib.hid fun (w1 : World) (hb : Below w.heap.size w w1) => rturned_k m (.slice A m.length cap) w1 (hk.out _ hb) hv
  have hab : ¬ ((0 ≤ a ∧ a < m.length) ∧ (0 ≤ b ∧ b < m.length)) := by omega
  have c5 := Lib.hid fun (w1 : World) (hb : Below w.heap.size w w1) => less_range m (.slice A m.length cap) a b w1 (hk.out _ hb) hv hab
  have c6 := Lib.hid fun (w1 : World) (hb : Below w.heap.size w w1) => with_range m (.slice A m.length cap) a b w1 (hk.out _ hb) hv hab
  have c9 := Lib.hid fun (w1 : World) (hb : Below w.heap.size w w1) => error1 w1 (hE.below hb)
  clear hr hv hE hT hlz hk hab
  generalize m.length = n at *
  rcases hout with h | ⟨h1, h⟩ | ⟨h1, h2, h⟩ | ⟨h1, h2, h3, h⟩
  all_goals
    go_enter Tryd.func15, Tryd.ntmps15
    go_wp2_with fail
    (with_reducible refine (c0.out w (Below.refl _ _)).mono ?_)
    rintro e w1 ⟨rfl, hx⟩
    have hb1 := hx
    clear hx
    go_wp2_with fail
    (with_reducible refine (c1.out w1 hb1).mono ?_)
    rintro e w2 ⟨rfl, hx⟩
    have hb2 := hb1.trans (hx.mono hb1.size)
    clear hb1
    clear hx
    go_wp2_with fail
    (with_reducible refine (c2.out w2).mono ?_)
    rintro e w3 ⟨rfl, hx⟩
    have hb3 := hb2.trans (hx.mono hb2.size)
    clear hb2
    clear hx
    go_wp2_with fail
    (with_reducible refine (c7.out w3 hb3).mono ?_)
    rintro e w4 ⟨⟨vx, rfl, kx⟩, hx⟩
    have hb4 := hb3.trans (hx.mono hb3.size)
    clear hb3
    clear hx
    replace kx := Lib.hid kx
    go_wp2_with fail
    (with_reducible refine (c8.out w4 hb4).mono ?_)
    rintro e w5 ⟨⟨vy, rfl, ky⟩, hx⟩
    have hb5 := hb4.trans (hx.mono hb4.size)
    replace kx := Lib.hid (kx.out.next hx)
    clear hb4
    clear hx
    replace ky := Lib.hid ky
    go_wp2_with fail
    (with_reducible refine (c3.out w5 hb5).mono ?_)
    rintro e w6 ⟨⟨vb, rfl, kb⟩, hx⟩
    have hb6 := hb5.trans (hx.mono hb5.size)
    replace kx := Lib.hid (kx.out.next hx)
    replace ky := Lib.hid (ky.out.next hx)
    clear hb5
    clear hx
    replace kb := Lib.hid kb
    go_wp2_with fail
    (with_reducible refine (c2.out w6).mono ?_)
    rintro e w7 ⟨rfl, hx⟩
    have hb7 := hb6.trans (hx.mono hb6.size)
    replace kx := Lib.hid (kx.out.next hx)
    replace ky := Lib.hid (ky.out.next hx)
    replace kb := Lib.hid (kb.out.next hx)
    clear hb6
    clear hx
    go_wp2_with fail
    (with_reducible refine (ints_same kb.out kx.out).mono ?_)
    rintro e w8 ⟨rfl, hx⟩
    have hb8 := hb7.trans (hx.mono hb7.size)
    replace kx := Lib.hid (kx.out.next hx)
    replace ky := Lib.hid (ky.out.next hx)
    replace kb := Lib.hid (kb.out.next hx)
    clear hb7
    clear hx
    go_wp2_with fail
    (with_reducible refine (c4.out w8 hb8).mono ?_)
    rintro e w9 ⟨⟨vt, rfl, kt⟩, hx⟩
    have hb9 := hb8.trans (hx.mono hb8.size)
    replace kx := Lib.hid (kx.out.next hx)
    replace ky := Lib.hid (ky.out.next hx)
    replace kb := Lib.hid (kb.out.next hx)
    clear hb8
    clear hx
    replace kt := Lib.hid kt
    go_wp2_with fail
    (with_reducible refine (c2.out w9).mono ?_)
    rintro e w10 ⟨rfl, hx⟩
    have hb10 := hb9.trans (hx.mono hb9.size)
    replace kx := Lib.hid (kx.out.next hx)
    replace ky := Lib.hid (ky.out.next hx)
    replace kb := Lib.hid (kb.out.next hx)
    replace kt := Lib.hid (kt.out.next hx)
    clear hb9
    clear hx
    go_wp2_with fail
    (with_reducible refine (ints_same kt.out ky.out).mono ?_)
    rintro e w11 ⟨rfl, hx⟩
    have hb11 := hb10.trans (hx.mono hb10.size)
    replace kx := Lib.hid (kx.out.next hx)
    replace ky := Lib.hid (ky.out.next hx)
    replace kb := Lib.hid (kb.out.next hx)
    replace kt := Lib.hid (kt.out.next hx)
    clear hb10
    clear hx
    go_wp2_with fail
    (with_reducible refine (c5.out w11 hb11).mono ?_)
    rintro e w12 ⟨rfl, hx⟩
    have hb12 := hb11.trans (hx.mono hb11.size)
    replace kx := Lib.hid (kx.out.next hx)
    replace ky := Lib.hid (ky.out.next hx)
    replace kb := Lib.hid (kb.out.next hx)
    replace kt := Lib.hid (kt.out.next hx)
    clear hb11
    clear hx
    go_wp2_with fail
    (with_reducible refine (c9.out w12 hb12).mono ?_)
    rintro e w13 ⟨rfl, hx⟩
    have hb13 := hb12.trans (hx.mono hb12.size)
    replace kx := Lib.hid (kx.out.next hx)
    replace ky := Lib.hid (ky.out.next hx)
    replace kb := Lib.hid (kb.out.next hx)
    replace kt := Lib.hid (kt.out.next hx)
    clear hb12
    clear hx
    go_wp2_with fail
    (with_reducible refine (c6.out w13 hb13).mono ?_)
    rintro e w14 ⟨rfl, hx⟩
    have hb14 := hb13.trans (hx.mono hb13.size)
    replace kx := Lib.hid (kx.out.next hx)
    replace ky := Lib.hid (ky.out.next hx)
    replace kb := Lib.hid (kb.out.next hx)
    replace kt := Lib.hid (kt.out.next hx)
    clear hb13
    clear hx
    go_wp2_with fail
    (with_reducible refine (c9.out w14 hb14).mono ?_)
    rintro e w15 ⟨rfl, hx⟩
    have hb15 := hb14.trans (hx.mono hb14.size)
    replace kx := Lib.hid (kx.out.next hx)
    replace ky := Lib.hid (ky.out.next hx)
    replace kb := Lib.hid (kb.out.next hx)
    replace kt := Lib.hid (kt.out.next hx)
    clear hb14
    clear hx
    go_wp2_with fail
    (with_reducible refine (ints_same (Kept.nil w15) (Kept.nil w15)).mono ?_)
    rintro e w16 ⟨rfl, hx⟩
    have hb16 := hb15.trans (hx.mono hb15.size)
    replace kx := Lib.hid (kx.out.next hx)
    replace ky := Lib.hid (ky.out.next hx)
    replace kb := Lib.hid (kb.out.next hx)
    replace kt := Lib.hid (kt.out.next hx)
    clear hb15
    clear hx
    go_wp2_with fail
    go_ret
    exact ⟨rfl, hb16⟩
set_option maxRecDepth 20000 in
set_option maxHeartbeats 8000000 in
theorem osays_yes (m : List Nat) (v : Value) (a b : Nat) (w : World) (hr : Ints w w.heap.size v (zs m)) (hv : Odr.Valid m) (hT : Tab w) (ha : a < m.length) (hb : b < m.length) (hi : irrOk (Odr.more m a b)) :
    Calls Tryd.prog 15 #[v, nv a, nv b] w fun e w' => e = .returned (.bool true) ∧ Below w.heap.size w w' := by
  have hfew := hv.few
  obtain ⟨A, cap, rfl⟩ := Rd.val hr
  have hlz : (zs m).length = m.length := by simp
  rw [hlz] at hr ⊢
  have hk := Lib.hid (Kept.of hr)
  have c0 := Lib.hid fun (w1 : World) (hb : Below w.heap.size w w1) => rorder0 m (.slice A m.length cap) w1 (hk.out _ hb) hv
  have c1 := Lib.hid fun (w1 : World) (hb : Below w.heap.size w w1) => check_valid m (.slice A m.length cap) w1 (hk.out _ hb) hv
  have c2 := Lib.hid fun (w1 : World) => error0 w1
  have c3 := Lib.hid fun (w1 : World) (hb : Below w.heap.size w w1) => behind_k m (.slice A m.length cap) w1 (hk.out _ hb) hv
  have c4 := Lib.hid fun (w1 : World) (hb : Below w.heap.size w w1) => turned_k m (.slice A m.length cap) w1 (hk.out _ hb) hv (hT.below hb)
  have c7 := Lib.hid fun (w1 : World) (hb : Below w.heap.size w w1) => rclosed_k m (.slice A m.length cap) w1 (hk.out _ hb) hv
  have c8 := Lib.hid fun (w1 : World) (hb : Below w.heap.size w w1) => rturned_k m (.slice A m.length cap) w1 (hk.out _ hb) hv
  have c5 := Lib.hid fun (w1 : World) (hbl : Below w.heap.size w w1) => less_ok m (.slice A m.length cap) a b w1 (hk.out _ hbl) hv ha hb
  have hx12 : (Odr.closed m).getD a 0 < 4096 := fits12 (l := Odr.closed m) (by rw [Odr.length_closed]; omega) (hv.fits.closed.getD a)
  have c9 := Lib.hid fun (w1 : World) => bit12 ((Odr.closed m).getD a 0) b w1 hx12 (by omega)
  rw [show ((Odr.closed m).getD a 0).testBit b = Odr.rel (Odr.closed m) a b from rfl] at c9
  have c10 := Lib.hid fun (w1 : World) (hbl : Below w.heap.size w w1) => rmore_k m (.slice A m.length cap) a b w1 (hk.out _ hbl) hv (by omega)
  have hfm := hv.fits.more (a := a) hb
  have hml : (Odr.more m a b).length ≤ 12 := by rw [Odr.length_more]; exact hfew
  have hcl := Odr.length_closed m
  have c6 := Lib.hid fun (w1 : World) (hbl : Below w.heap.size w w1) => with_yes_k m (.slice A m.length cap) a b w1 (hk.out _ hbl) hv ha hb hi
  have c11 := Lib.hid fun (u : Value) (w1 : World) (hu : Kept w1 u (zs (Odr.more m a b))) => rorder0 (Odr.more m a b) u w1 hu.ints ((valid_iff hml hfm).1 hi)
  have c12 := Lib.hid fun (u : Value) (w1 : World) (hu : Kept w1 u (zs (Odr.more m a b))) => rclosed_k (Odr.more m a b) u w1 hu.ints ((valid_iff hml hfm).1 hi)
  clear hr hv hT hlz hk hi hfm hml
  generalize Odr.rel (Odr.closed m) a b = rb at *
  generalize m.length = n at *
  go_enter Tryd.func15, Tryd.ntmps15
  go_wp2_with fail
  (with_reducible refine (c0.out w (Below.refl _ _)).mono ?_)
  rintro e w1 ⟨rfl, hx⟩
  have hb1 := hx
  clear hx
  go_wp2_with fail
  (with_reducible refine (c1.out w1 hb1).mono ?_)
  rintro e w2 ⟨rfl, hx⟩
  have hb2 := hb1.trans (hx.mono hb1.size)
  clear hb1
  clear hx
  go_wp2_with fail
  (with_reducible refine (c2.out w2).mono ?_)
  rintro e w3 ⟨rfl, hx⟩
  have hb3 := hb2.trans (hx.mono hb2.size)
  clear hb2
  clear hx
  go_wp2_with fail
  (with_reducible refine (c7.out w3 hb3).mono ?_)
  rintro e w4 ⟨⟨vx, rfl, kx⟩, hx⟩
  have hb4 := hb3.trans (hx.mono hb3.size)
  clear hb3
  clear hx
  replace kx := Lib.hid kx
  obtain ⟨Ax, cx, rfl⟩ := Rd.val kx.out.ints
  rw [length_zs, hcl] at kx ⊢
  go_wp2_with fail
  (with_reducible refine (c8.out w4 hb4).mono ?_)
  rintro e w5 ⟨⟨vy, rfl, ky⟩, hx⟩
  have hb5 := hb4.trans (hx.mono hb4.size)
  replace kx := Lib.hid (kx.out.next hx)
  clear hb4
  clear hx
  replace ky := Lib.hid ky
  obtain ⟨bx, ox, cx', he, _, gx⟩ := Ints.atN kx.out.ints (k := a) (by omega)
  rw [hcl] at he
  injection he with he1 he2 he3
  subst he1 he3
  clear he2
  generalize (Odr.closed m).getD a 0 = xa at *
  go_wp2_with fail
  (with_reducible refine (c9.out w5).mono ?_)
  rintro e wq ⟨rfl, rfl⟩
  clear gx
  go_wp2_with fail
  (with_reducible refine (c10.out w5 hb5).mono ?_)
  rintro e w6 ⟨⟨vm, rfl, km⟩, hx⟩
  have hb6 := hb5.trans (hx.mono hb5.size)
  replace kx := Lib.hid (kx.out.next hx)
  replace ky := Lib.hid (ky.out.next hx)
  clear hb5
  clear hx
  replace km := Lib.hid km
  go_wp2_with fail
  (with_reducible refine (c11.out vm w6 km.out).mono ?_)
  rintro e w7 ⟨rfl, hx⟩
  have hb7 := hb6.trans (hx.mono hb6.size)
  replace kx := Lib.hid (kx.out.next hx)
  replace ky := Lib.hid (ky.out.next hx)
  replace km := Lib.hid (km.out.next hx)
  clear hb6
  clear hx
  go_wp2_with fail
  (with_reducible refine (c12.out vm w7 km.out).mono ?_)
  rintro e w8 ⟨⟨vz, rfl, kz⟩, hx⟩
  have hb8 := hb7.trans (hx.mono hb7.size)
  replace kx := Lib.hid (kx.out.next hx)
  replace ky := Lib.hid (ky.out.next hx)
  replace km := Lib.hid (km.out.next hx)
  clear hb7
  clear hx
  replace kz := Lib.hid kz
  go_wp2_with fail
  (with_reducible refine (c3.out w8 hb8).mono ?_)
  rintro e w9 ⟨⟨vb, rfl, kb⟩, hx⟩
  have hb9 := hb8.trans (hx.mono hb8.size)
  replace kx := Lib.hid (kx.out.next hx)
  replace ky := Lib.hid (ky.out.next hx)
  replace km := Lib.hid (km.out.next hx)
  replace kz := Lib.hid (kz.out.next hx)
  clear hb8
  clear hx
  replace kb := Lib.hid kb
  go_wp2_with fail
  (with_reducible refine (c2.out w9).mono ?_)
  rintro e w10 ⟨rfl, hx⟩
  have hb10 := hb9.trans (hx.mono hb9.size)
  replace kx := Lib.hid (kx.out.next hx)
  replace ky := Lib.hid (ky.out.next hx)
  replace km := Lib.hid (km.out.next hx)
  replace kz := Lib.hid (kz.out.next hx)
  replace kb := Lib.hid (kb.out.next hx)
  clear hb9
  clear hx
  go_wp2_with fail
  (with_reducible refine (ints_same kb.out kx.out).mono ?_)
  rintro e w11 ⟨rfl, hx⟩
  have hb11 := hb10.trans (hx.mono hb10.size)
  replace kx := Lib.hid (kx.out.next hx)
  replace ky := Lib.hid (ky.out.next hx)
  replace km := Lib.hid (km.out.next hx)
  replace kz := Lib.hid (kz.out.next hx)
  replace kb := Lib.hid (kb.out.next hx)
  clear hb10
  clear hx
  go_wp2_with fail
  (with_reducible refine (c4.out w11 hb11).mono ?_)
  rintro e w12 ⟨⟨vt, rfl, kt⟩, hx⟩
  have hb12 := hb11.trans (hx.mono hb11.size)
  replace kx := Lib.hid (kx.out.next hx)
  replace ky := Lib.hid (ky.out.next hx)
  replace km := Lib.hid (km.out.next hx)
  replace kz := Lib.hid (kz.out.next hx)
  replace kb := Lib.hid (kb.out.next hx)
  clear hb11
  clear hx
  replace kt := Lib.hid kt
  go_wp2_with fail
  (with_reducible refine (c2.out w12).mono ?_)
  rintro e w13 ⟨rfl, hx⟩
  have hb13 := hb12.trans (hx.mono hb12.size)
  replace kx := Lib.hid (kx.out.next hx)
  replace ky := Lib.hid (ky.out.next hx)
  replace km := Lib.hid (km.out.next hx)
  replace kz := Lib.hid (kz.out.next hx)
  replace kb := Lib.hid (kb.out.next hx)
  replace kt := Lib.hid (kt.out.next hx)
  clear hb12
  clear hx
  go_wp2_with fail
  (with_reducible refine (ints_same kt.out ky.out).mono ?_)
  rintro e w14 ⟨rfl, hx⟩
  have hb14 := hb13.trans (hx.mono hb13.size)
  replace kx := Lib.hid (kx.out.next hx)
  replace ky := Lib.hid (ky.out.next hx)
  replace km := Lib.hid (km.out.next hx)
  replace kz := Lib.hid (kz.out.next hx)
  replace kb := Lib.hid (kb.out.next hx)
  replace kt := Lib.hid (kt.out.next hx)
  clear hb13
  clear hx
  go_wp2_with fail
  (with_reducible refine (c5.out w14 hb14).mono ?_)
  rintro e w15 ⟨rfl, hx⟩
  have hb15 := hb14.trans (hx.mono hb14.size)
  replace kx := Lib.hid (kx.out.next hx)
  replace ky := Lib.hid (ky.out.next hx)
  replace km := Lib.hid (km.out.next hx)
  replace kz := Lib.hid (kz.out.next hx)
  replace kb := Lib.hid (kb.out.next hx)
  replace kt := Lib.hid (kt.out.next hx)
  clear hb14
  clear hx
  go_wp2_with fail
  (with_reducible refine (c2.out w15).mono ?_)
  rintro e w16 ⟨rfl, hx⟩
  have hb16 := hb15.trans (hx.mono hb15.size)
  replace kx := Lib.hid (kx.out.next hx)
  replace ky := Lib.hid (ky.out.next hx)
  replace km := Lib.hid (km.out.next hx)
  replace kz := Lib.hid (kz.out.next hx)
  replace kb := Lib.hid (kb.out.next hx)
  replace kt := Lib.hid (kt.out.next hx)
  clear hb15
  clear hx
  go_wp2_with fail
  (with_reducible refine (c6.out w16 hb16).mono ?_)
  rintro e w17 ⟨⟨vw, rfl, kw⟩, hx⟩
  have hb17 := hb16.trans (hx.mono hb16.size)
  replace kx := Lib.hid (kx.out.next hx)
  replace ky := Lib.hid (ky.out.next hx)
  replace km := Lib.hid (km.out.next hx)
  replace kz := Lib.hid (kz.out.next hx)
  replace kb := Lib.hid (kb.out.next hx)
  replace kt := Lib.hid (kt.out.next hx)
  clear hb16
  clear hx
  replace kw := Lib.hid kw
  go_wp2_with fail
  (with_reducible refine (c2.out w17).mono ?_)
  rintro e w18 ⟨rfl, hx⟩
  have hb18 := hb17.trans (hx.mono hb17.size)
  replace kx := Lib.hid (kx.out.next hx)
  replace ky := Lib.hid (ky.out.next hx)
  replace km := Lib.hid (km.out.next hx)
  replace kz := Lib.hid (kz.out.next hx)
  replace kb := Lib.hid (kb.out.next hx)
  replace kt := Lib.hid (kt.out.next hx)
  replace kw := Lib.hid (kw.out.next hx)
  clear hb17
  clear hx
  go_wp2_with fail
  (with_reducible refine (ints_same kw.out kz.out).mono ?_)
  rintro e w19 ⟨rfl, hx⟩
  have hb19 := hb18.trans (hx.mono hb18.size)
  replace kx := Lib.hid (kx.out.next hx)
  replace ky := Lib.hid (ky.out.next hx)
  replace km := Lib.hid (km.out.next hx)
  replace kz := Lib.hid (kz.out.next hx)
  replace kb := Lib.hid (kb.out.next hx)
  replace kt := Lib.hid (kt.out.next hx)
  replace kw := Lib.hid (kw.out.next hx)
  clear hb18
  clear hx
  go_wp2_with fail
  go_ret
  exact ⟨rfl, hb19⟩
set_option maxRecDepth 20000 in
set_option maxHeartbeats 8000000 in
theorem osays_no (m : List Nat) (v : Value) (a b : Nat) (w : World) (hr : Ints w w.heap.size v (zs m)) (hv : Odr.Valid m) (hE : ErrTy w) (hT : Tab w) (ha : a < m.length) (hb : b < m.length) (hi : ¬ irrOk (Odr.more m a b)) :
    Calls Tryd.prog 15 #[v, nv a, nv b] w fun e w' => e = .returned (.bool true) ∧ Below w.heap.size w w' := by
  have hfew := hv.few
  obtain ⟨A, cap, rfl⟩ := Rd.val hr
  have hlz : (zs m).length = m.length := by simp
  rw [hlz] at hr ⊢
  have hk := Lib.hid (Kept.of hr)
  have c0 := Lib.hid fun (w1 : World) (hb : Below w.heap.size w w1) => rorder0 m (.slice A m.length cap) w1 (hk.out _ hb) hv
  have c1 := Lib.hid fun (w1 : World) (hb : Below w.heap.size w w1) => check_valid m (.slice A m.length cap) w1 (hk.out _ hb) hv
  have c2 := Lib.hid fun (w1 : World) => error0 w1
  have c3 := Lib.hid fun (w1 : World) (hb : Below w.heap.size w w1) => behind_k m (.slice A m.length cap) w1 (hk.out _ hb) hv
  have c4 := Lib.hid fun (w1 : World) (hb : Below w.heap.size w w1) => turned_k m (.slice A m.length cap) w1 (hk.out _ hb) hv (hT.below hb)
  have c7 := Lib.hid fun (w1 : World) (hb : Below w.heap.size w w1) => rclosed_k m (.slice A m.length cap) w1 (hk.out _ hb) hv
  have c8 := Lib.hid fun (w1 : World) (hb : Below w.heap.size w w1) => rturned_k m (.slice A m.length cap) w1 (hk.out _ hb) hv
  have c5 := Lib.hid fun (w1 : World) (hbl : Below w.heap.size w w1) => less_ok m (.slice A m.length cap) a b w1 (hk.out _ hbl) hv ha hb
  have hx12 : (Odr.closed m).getD a 0 < 4096 := fits12 (l := Odr.closed m) (by rw [Odr.length_closed]; omega) (hv.fits.closed.getD a)
  have c9 := Lib.hid fun (w1 : World) => bit12 ((Odr.closed m).getD a 0) b w1 hx12 (by omega)
  rw [show ((Odr.closed m).getD a 0).testBit b = Odr.rel (Odr.closed m) a b from rfl] at c9
  have c10 := Lib.hid fun (w1 : World) (hbl : Below w.heap.size w w1) => rmore_k m (.slice A m.length cap) a b w1 (hk.out _ hbl) hv (by omega)
  have hfm := hv.fits.more (a := a) hb
  have hml : (Odr.more m a b).length ≤ 12 := by rw [Odr.length_more]; exact hfew
  have hcl := Odr.length_closed m
  have c6 := Lib.hid fun (w1 : World) (hbl : Below w.heap.size w w1) => with_no_k m (.slice A m.length cap) a b w1 (hk.out _ hbl) hv ha hb hi
  have c11 := Lib.hid fun (u : Value) (w1 : World) (hu : Kept w1 u (zs (Odr.more m a b))) => rorder6 (Odr.more m a b) u w1 hu.ints hml hfm hi
  have c13 := Lib.hid fun (w1 : World) (hbl : Below w.heap.size w w1) => error6 w1 (hE.below hbl)
  clear hr hv hE hT hlz hk hi hfm hml
  generalize Odr.rel (Odr.closed m) a b = rb at *
  generalize m.length = n at *
  go_enter Tryd.func15, Tryd.ntmps15
  go_wp2_with fail
  (with_reducible refine (c0.out w (Below.refl _ _)).mono ?_)
  rintro e w1 ⟨rfl, hx⟩
  have hb1 := hx
  clear hx
  go_wp2_with fail
  (with_reducible refine (c1.out w1 hb1).mono ?_)
  rintro e w2 ⟨rfl, hx⟩
  have hb2 := hb1.trans (hx.mono hb1.size)
  clear hb1
  clear hx
  go_wp2_with fail
  (with_reducible refine (c2.out w2).mono ?_)
  rintro e w3 ⟨rfl, hx⟩
  have hb3 := hb2.trans (hx.mono hb2.size)
  clear hb2
  clear hx
  go_wp2_with fail
  (with_reducible refine (c7.out w3 hb3).mono ?_)
  rintro e w4 ⟨⟨vx, rfl, kx⟩, hx⟩
  have hb4 := hb3.trans (hx.mono hb3.size)
  clear hb3
  clear hx
  replace kx := Lib.hid kx
  obtain ⟨Ax, cx, rfl⟩ := Rd.val kx.out.ints
  rw [length_zs, hcl] at kx ⊢
  go_wp2_with fail
  (with_reducible refine (c8.out w4 hb4).mono ?_)
  rintro e w5 ⟨⟨vy, rfl, ky⟩, hx⟩
  have hb5 := hb4.trans (hx.mono hb4.size)
  replace kx := Lib.hid (kx.out.next hx)
  clear hb4
  clear hx
  replace ky := Lib.hid ky
  obtain ⟨bx, ox, cx', he, _, gx⟩ := Ints.atN kx.out.ints (k := a) (by omega)
  rw [hcl] at he
  injection he with he1 he2 he3
  subst he1 he3
  clear he2
  generalize (Odr.closed m).getD a 0 = xa at *
  go_wp2_with fail
  (with_reducible refine (c9.out w5).mono ?_)
  rintro e wq ⟨rfl, rfl⟩
  clear gx
  go_wp2_with fail
  (with_reducible refine (c10.out w5 hb5).mono ?_)
  rintro e w6 ⟨⟨vm, rfl, km⟩, hx⟩
  have hb6 := hb5.trans (hx.mono hb5.size)
  replace kx := Lib.hid (kx.out.next hx)
  replace ky := Lib.hid (ky.out.next hx)
  clear hb5
  clear hx
  replace km := Lib.hid km
  go_wp2_with fail
  (with_reducible refine (c11.out vm w6 km.out).mono ?_)
  rintro e w7 ⟨rfl, hx⟩
  have hb7 := hb6.trans (hx.mono hb6.size)
  replace kx := Lib.hid (kx.out.next hx)
  replace ky := Lib.hid (ky.out.next hx)
  replace km := Lib.hid (km.out.next hx)
  clear hb6
  clear hx
  go_wp2_with fail
  (with_reducible refine (c3.out w7 hb7).mono ?_)
  rintro e w8 ⟨⟨vb, rfl, kb⟩, hx⟩
  have hb8 := hb7.trans (hx.mono hb7.size)
  replace kx := Lib.hid (kx.out.next hx)
  replace ky := Lib.hid (ky.out.next hx)
  replace km := Lib.hid (km.out.next hx)
  clear hb7
  clear hx
  replace kb := Lib.hid kb
  go_wp2_with fail
  (with_reducible refine (c2.out w8).mono ?_)
  rintro e w9 ⟨rfl, hx⟩
  have hb9 := hb8.trans (hx.mono hb8.size)
  replace kx := Lib.hid (kx.out.next hx)
  replace ky := Lib.hid (ky.out.next hx)
  replace km := Lib.hid (km.out.next hx)
  replace kb := Lib.hid (kb.out.next hx)
  clear hb8
  clear hx
  go_wp2_with fail
  (with_reducible refine (ints_same kb.out kx.out).mono ?_)
  rintro e w10 ⟨rfl, hx⟩
  have hb10 := hb9.trans (hx.mono hb9.size)
  replace kx := Lib.hid (kx.out.next hx)
  replace ky := Lib.hid (ky.out.next hx)
  replace km := Lib.hid (km.out.next hx)
  replace kb := Lib.hid (kb.out.next hx)
  clear hb9
  clear hx
  go_wp2_with fail
  (with_reducible refine (c4.out w10 hb10).mono ?_)
  rintro e w11 ⟨⟨vt, rfl, kt⟩, hx⟩
  have hb11 := hb10.trans (hx.mono hb10.size)
  replace kx := Lib.hid (kx.out.next hx)
  replace ky := Lib.hid (ky.out.next hx)
  replace km := Lib.hid (km.out.next hx)
  replace kb := Lib.hid (kb.out.next hx)
  clear hb10
  clear hx
  replace kt := Lib.hid kt
  go_wp2_with fail
  (with_reducible refine (c2.out w11).mono ?_)
  rintro e w12 ⟨rfl, hx⟩
  have hb12 := hb11.trans (hx.mono hb11.size)
  replace kx := Lib.hid (kx.out.next hx)
  replace ky := Lib.hid (ky.out.next hx)
  replace km := Lib.hid (km.out.next hx)
  replace kb := Lib.hid (kb.out.next hx)
  replace kt := Lib.hid (kt.out.next hx)
  clear hb11
  clear hx
  go_wp2_with fail
  (with_reducible refine (ints_same kt.out ky.out).mono ?_)
  rintro e w13 ⟨rfl, hx⟩
  have hb13 := hb12.trans (hx.mono hb12.size)
  replace kx := Lib.hid (kx.out.next hx)
  replace ky := Lib.hid (ky.out.next hx)
  replace km := Lib.hid (km.out.next hx)
  replace kb := Lib.hid (kb.out.next hx)
  replace kt := Lib.hid (kt.out.next hx)
  clear hb12
  clear hx
  go_wp2_with fail
  (with_reducible refine (c5.out w13 hb13).mono ?_)
  rintro e w14 ⟨rfl, hx⟩
  have hb14 := hb13.trans (hx.mono hb13.size)
  replace kx := Lib.hid (kx.out.next hx)
  replace ky := Lib.hid (ky.out.next hx)
  replace km := Lib.hid (km.out.next hx)
  replace kb := Lib.hid (kb.out.next hx)
  replace kt := Lib.hid (kt.out.next hx)
  clear hb13
  clear hx
  go_wp2_with fail
  (with_reducible refine (c2.out w14).mono ?_)
  rintro e w15 ⟨rfl, hx⟩
  have hb15 := hb14.trans (hx.mono hb14.size)
  replace kx := Lib.hid (kx.out.next hx)
  replace ky := Lib.hid (ky.out.next hx)
  replace km := Lib.hid (km.out.next hx)
  replace kb := Lib.hid (kb.out.next hx)
  replace kt := Lib.hid (kt.out.next hx)
  clear hb14
  clear hx
  go_wp2_with fail
  (with_reducible refine (c6.out w15 hb15).mono ?_)
  rintro e w16 ⟨rfl, hx⟩
  have hb16 := hb15.trans (hx.mono hb15.size)
  replace kx := Lib.hid (kx.out.next hx)
  replace ky := Lib.hid (ky.out.next hx)
  replace km := Lib.hid (km.out.next hx)
  replace kb := Lib.hid (kb.out.next hx)
  replace kt := Lib.hid (kt.out.next hx)
  clear hb15
  clear hx
  go_wp2_with fail
  (with_reducible refine (c13.out w16 hb16).mono ?_)
  rintro e w17 ⟨rfl, hx⟩
  have hb17 := hb16.trans (hx.mono hb16.size)
  replace kx := Lib.hid (kx.out.next hx)
  replace ky := Lib.hid (ky.out.next hx)
  replace km := Lib.hid (km.out.next hx)
  replace kb := Lib.hid (kb.out.next hx)
  replace kt := Lib.hid (kt.out.next hx)
  clear hb16
  clear hx
  go_wp2_with fail
  (with_reducible refine (ints_same (Kept.nil w17) (Kept.nil w17)).mono ?_)
  rintro e w18 ⟨rfl, hx⟩
  have hb18 := hb17.trans (hx.mono hb17.size)
  replace kx := Lib.hid (kx.out.next hx)
  replace ky := Lib.hid (ky.out.next hx)
  replace km := Lib.hid (km.out.next hx)
  replace kb := Lib.hid (kb.out.next hx)
  replace kt := Lib.hid (kt.out.next hx)
  clear hb17
  clear hx
  go_wp2_with fail
  go_ret
  exact ⟨rfl, hb18⟩
/-- the law at every input -/
theorem osays_calls (l : List Int) (v : Value) (a b : Int) (w : World) (hr : Ints w w.heap.size v l) (hE : ErrTy w) (hT : Tab w) :
    Calls Tryd.prog 15 #[v, .int .i64 a, .int .i64 b] w fun e w' => e = .returned (.bool true) ∧ Below w.heap.size w w' := by
  by_cases h : orderCode l = 0
  · obtain ⟨m, rfl, hv⟩ := orderCode_zero h
    by_cases hg : (0 ≤ a ∧ a < m.length) ∧ (0 ≤ b ∧ b < m.length)
    · obtain ⟨⟨h1, h2⟩, h3, h4⟩ := hg
      obtain ⟨a, rfl⟩ := Int.eq_ofNat_of_zero_le h1
      obtain ⟨b, rfl⟩ := Int.eq_ofNat_of_zero_le h3
      by_cases hi : irrOk (Odr.more m a b)
      · exact osays_yes m v a b w hr hv hT (by omega) (by omega) hi
      · exact osays_no m v a b w hr hv hE hT (by omega) (by omega) hi
    · exact osays_out m v a b w hr hv hE hT (by omega)
  · exact osays_err l v a b w hr h hE
end Go.Proofs.YtpicjikjinkkpaaDoor
