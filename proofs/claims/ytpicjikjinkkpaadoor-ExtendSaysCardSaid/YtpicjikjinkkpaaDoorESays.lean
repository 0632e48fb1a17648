/- ExtendSays at every input: of any order the first row, how many there are, and whether any list is one. Conditions: the row's own. (Printed by wip/gen/esays.py.) -/
import Derived.Test.YtpicjikjinkkpaaDoorRefC
import Derived.Test.YtpicjikjinkkpaaDoorRefI
import Derived.Test.YtpicjikjinkkpaaDoorParts
namespace Go.Proofs.YtpicjikjinkkpaaDoor
open Go.RowKit

theorem first_k (m : List Nat) (v : Value) (w : World) (hr : Ints w w.heap.size v (zs m)) (hv : Odr.Valid m) (hT : Tab w) :
    Calls Tryd.prog 36 #[v] w fun e w' => (∃ v', e = .returned (.tuple #[v', .nilIface]) ∧ Kept w' v' (zs (Odr.firstRow m))) ∧ Below w.heap.size w w' :=
  (first_ok m v w hr hv hT).mono fun _ _ ⟨v', h1, h2, h3⟩ => ⟨⟨v', h1, Kept.of h2.ints⟩, h3⟩
theorem errorv (c : Nat) (w : World) (hg : ErrTy w) : Calls Tryd.prog 44 #[errv c, nv c] w fun e w' => e = .returned (.bool true) ∧ Below w.heap.size w w' := by
  have h := error_calls c (c : Int) w hg
  rw [decide_eq_true rfl] at h
  exact h
set_option maxRecDepth 20000 in
set_option maxHeartbeats 4000000 in
theorem esays_err (l p : List Int) (v u : Value) (w : World) (hr : Ints w w.heap.size v l) (hu : Ints w w.heap.size u p) (hne : orderCode l ≠ 0) (hE : ErrTy w) :
    Calls Tryd.prog 17 #[v, u] w fun e w' => e = .returned (.bool true) ∧ Below w.heap.size w w' := by
  obtain ⟨Au, cu, rfl⟩ := Rd.val hu
  clear hu
  have hk := Lib.hid (Kept.of hr)
  have c0 := Lib.hid fun (w1 : World) (hb : Below w.heap.size w w1) => rorder_calls l v w1 (hk.out _ hb)
  have c1 := Lib.hid fun (w1 : World) (hb : Below w.heap.size w w1) => first_err l v w1 (hk.out _ hb) hne
  have c2 := Lib.hid fun (w1 : World) (hb : Below w.heap.size w w1) => errorn (orderCode l) w1 (hE.below hb) hne
  have c3 := Lib.hid fun (w1 : World) (hb : Below w.heap.size w w1) => ecount_err l v w1 (hk.out _ hb) hne
  have c4 := Lib.hid fun (w1 : World) (hb : Below w.heap.size w w1) => eis_err l v (.slice Au p.length cu) w1 (hk.out _ hb) hne
  have hz : (((orderCode l : Nat) : Int) == 0) = false := by simp; omega
  generalize orderCode l = E at *
  clear hr hne hE hk
  go_enter Tryd.func17, Tryd.ntmps17
  go_wp2_with fail
  (with_reducible refine (c0.out w (Below.refl _ _)).mono ?_)
  rintro e w1 ⟨rfl, hx⟩
  have hb1 := hx
  clear hx
  go_wp2_with fail
  (with_reducible refine (c1.out w1 hb1).mono ?_)
  rintro e w2 ⟨rfl, hx⟩
  have hb2 := hb1.trans (hx.mono hb1.size)
  clear hb1
  clear hx
  go_wp2_with fail
  (with_reducible refine (c2.out w2 hb2).mono ?_)
  rintro e w3 ⟨rfl, hx⟩
  have hb3 := hb2.trans (hx.mono hb2.size)
  clear hb2
  clear hx
  go_wp2_with fail
  (with_reducible refine (ints_same (Kept.nil w3) (Kept.nil w3)).mono ?_)
  rintro e w4 ⟨rfl, hx⟩
  have hb4 := hb3.trans (hx.mono hb3.size)
  clear hb3
  clear hx
  go_wp2_with fail
  (with_reducible refine (c3.out w4 hb4).mono ?_)
  rintro e w5 ⟨rfl, hx⟩
  have hb5 := hb4.trans (hx.mono hb4.size)
  clear hb4
  clear hx
  go_wp2_with fail
  (with_reducible refine (c2.out w5 hb5).mono ?_)
  rintro e w6 ⟨rfl, hx⟩
  have hb6 := hb5.trans (hx.mono hb5.size)
  clear hb5
  clear hx
  go_wp2_with fail
  (with_reducible refine (c4.out w6 hb6).mono ?_)
  rintro e w7 ⟨rfl, hx⟩
  have hb7 := hb6.trans (hx.mono hb6.size)
  clear hb6
  clear hx
  go_wp2_with fail
  (with_reducible refine (c2.out w7 hb7).mono ?_)
  rintro e w8 ⟨rfl, hx⟩
  have hb8 := hb7.trans (hx.mono hb7.size)
  clear hb7
  clear hx
  go_wp2_with fail
  go_ret
  exact ⟨rfl, hb8⟩
set_option maxRecDepth 20000 in
set_option maxHeartbeats 8000000 in
theorem esays_ok (m : List Nat) (p : List Int) (v u : Value) (w : World) (hr : Ints w w.heap.size v (zs m)) (hu : Ints w w.heap.size u p) (hv : Odr.Valid m) (hE : ErrTy w) (hT : Tab w) :
    Calls Tryd.prog 17 #[v, u] w fun e w' => e = .returned (.bool true) ∧ Below w.heap.size w w' := by
  obtain ⟨A, cap, rfl⟩ := Rd.val hr
  have hlz : (zs m).length = m.length := by simp
  rw [hlz] at hr ⊢
  obtain ⟨Au, cu, rfl⟩ := Rd.val hu
  have hk := Lib.hid (Kept.of hr)
  have hku := Lib.hid (Kept.of hu)
  have c0 := Lib.hid fun (w1 : World) (hb : Below w.heap.size w w1) => rorder0 m (.slice A m.length cap) w1 (hk.out _ hb) hv
  have c1 := Lib.hid fun (w1 : World) (hb : Below w.heap.size w w1) => rfirst_calls m (.slice A m.length cap) w1 (hk.out _ hb) hv
  have c2 := Lib.hid fun (w1 : World) => error0 w1
  have c3 := Lib.hid fun (w1 : World) (hb : Below w.heap.size w w1) => rcount_calls m (.slice A m.length cap) w1 (hk.out _ hb) hv
  have c4 := Lib.hid fun (w1 : World) (hb : Below w.heap.size w w1) => ris_calls m p (.slice A m.length cap) (.slice Au p.length cu) w1 (hk.out _ hb) (hku.out _ hb) hv
  have c5 := Lib.hid fun (w1 : World) (hb : Below w.heap.size w w1) => first_k m (.slice A m.length cap) w1 (hk.out _ hb) hv (hT.below hb)
  have c6 := Lib.hid fun (w1 : World) (hb : Below w.heap.size w w1) => ecount_rows m (.slice A m.length cap) w1 (hk.out _ hb) hv (hT.below hb)
  have c7 := Lib.hid fun (w1 : World) (hb : Below w.heap.size w w1) => eis_ok m p (.slice A m.length cap) (.slice Au p.length cu) w1 (hk.out _ hb) (hku.out _ hb) hv (hT.below hb)
  have c8 := Lib.hid fun (w1 : World) (hb : Below w.heap.size w w1) => errorv (Odr.isRes m p).2 w1 (hE.below hb)
  clear hr hu hv hE hT hlz hk hku
  generalize (Odr.isRes m p).1 = ib at *
  generalize (Odr.isRes m p).2 = ic at *
  generalize (Odr.rows m).length = R at *
  generalize Odr.firstRow m = fr at *
  generalize m.length = n at *
  generalize p.length = pn at *
  obtain ⟨ev, hev⟩ : ∃ ev, ev = errv ic := ⟨_, rfl⟩
  rw [← hev] at c7 c8
  clear hev
  go_enter Tryd.func17, Tryd.ntmps17
  go_wp2_with fail
  (with_reducible refine (c0.out w (Below.refl _ _)).mono ?_)
  rintro e w1 ⟨rfl, hx⟩
  have hb1 := hx
  clear hx
  go_wp2_with fail
  (with_reducible refine (c1.out w1 hb1).mono ?_)
  rintro e w2 ⟨⟨vf, rfl, kf⟩, hx⟩
  have hb2 := hb1.trans (hx.mono hb1.size)
  clear hb1
  clear hx
  replace kf := Lib.hid kf
  go_wp2_with fail
  (with_reducible refine (c3.out w2 hb2).mono ?_)
  rintro e w3 ⟨rfl, hx⟩
  have hb3 := hb2.trans (hx.mono hb2.size)
  replace kf := Lib.hid (kf.out.next hx)
  clear hb2
  clear hx
  go_wp2_with fail
  (with_reducible refine (c4.out w3 hb3).mono ?_)
  rintro e w4 ⟨rfl, hx⟩
  have hb4 := hb3.trans (hx.mono hb3.size)
  replace kf := Lib.hid (kf.out.next hx)
  clear hb3
  clear hx
  go_wp2_with fail
  (with_reducible refine (c5.out w4 hb4).mono ?_)
  rintro e w5 ⟨⟨vx, rfl, kx⟩, hx⟩
  have hb5 := hb4.trans (hx.mono hb4.size)
  replace kf := Lib.hid (kf.out.next hx)
  clear hb4
  clear hx
  replace kx := Lib.hid kx
  go_wp2_with fail
  (with_reducible refine (c2.out w5).mono ?_)
  rintro e w6 ⟨rfl, hx⟩
  have hb6 := hb5.trans (hx.mono hb5.size)
  replace kf := Lib.hid (kf.out.next hx)
  replace kx := Lib.hid (kx.out.next hx)
  clear hb5
  clear hx
  go_wp2_with fail
  (with_reducible refine (ints_same kx.out kf.out).mono ?_)
  rintro e w7 ⟨rfl, hx⟩
  have hb7 := hb6.trans (hx.mono hb6.size)
  replace kf := Lib.hid (kf.out.next hx)
  replace kx := Lib.hid (kx.out.next hx)
  clear hb6
  clear hx
  go_wp2_with fail
  (with_reducible refine (c6.out w7 hb7).mono ?_)
  rintro e w8 ⟨rfl, hx⟩
  have hb8 := hb7.trans (hx.mono hb7.size)
  replace kf := Lib.hid (kf.out.next hx)
  replace kx := Lib.hid (kx.out.next hx)
  clear hb7
  clear hx
  go_wp2_with fail
  (with_reducible refine (c2.out w8).mono ?_)
  rintro e w9 ⟨rfl, hx⟩
  have hb9 := hb8.trans (hx.mono hb8.size)
  replace kf := Lib.hid (kf.out.next hx)
  replace kx := Lib.hid (kx.out.next hx)
  clear hb8
  clear hx
  go_wp2_with fail
  (with_reducible refine (c7.out w9 hb9).mono ?_)
  rintro e w10 ⟨rfl, hx⟩
  have hb10 := hb9.trans (hx.mono hb9.size)
  replace kf := Lib.hid (kf.out.next hx)
  replace kx := Lib.hid (kx.out.next hx)
  clear hb9
  clear hx
  go_wp2_with fail
  (with_reducible refine (c8.out w10 hb10).mono ?_)
  rintro e w11 ⟨rfl, hx⟩
  have hb11 := hb10.trans (hx.mono hb10.size)
  replace kf := Lib.hid (kf.out.next hx)
  replace kx := Lib.hid (kx.out.next hx)
  clear hb10
  clear hx
  go_wp2_with fail
  go_ret
  refine ⟨?_, hb11⟩
  cases ib <;> rfl
/-- the law at every input -/
theorem esays_calls (l p : List Int) (v u : Value) (w : World) (hr : Ints w w.heap.size v l) (hu : Ints w w.heap.size u p) (hE : ErrTy w) (hT : Tab w) :
    Calls Tryd.prog 17 #[v, u] w fun e w' => e = .returned (.bool true) ∧ Below w.heap.size w w' := by
  by_cases h : orderCode l = 0
  · obtain ⟨m, rfl, hv⟩ := orderCode_zero h
    exact esays_ok m p v u w hr hu hv hE hT
  · exact esays_err l p v u w hr hu h hE
end Go.Proofs.YtpicjikjinkkpaaDoor
