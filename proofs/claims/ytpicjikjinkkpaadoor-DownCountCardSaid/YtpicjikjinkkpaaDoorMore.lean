/- ChainMore at every input: a step more makes it no wider, and no less deep. Conditions: the row's own. -/
import Derived.Test.YtpicjikjinkkpaaDoorMirsky
namespace Go.Proofs.YtpicjikjinkkpaaDoor
open Go.RowKit

/-- with a step more what was ahead is ahead -/
theorem Odr.more_has {m : List Nat} {a b : Nat} (ha : a < m.length) (i j : Nat) (h : Odr.rel (Odr.closed m) i j = true) : Odr.rel (Odr.closed (Odr.more m a b)) i j = true :=
  (Odr.closed_more ha i j).2 (.inl h)
theorem Odr.widest_more {c d : List Nat} (hc : c.length ≤ 12) (hlen : d.length = c.length) (h : ∀ i j, Odr.rel c i j = true → Odr.rel d i j = true) : Odr.pop 12 (Odr.widest d) ≤ Odr.pop 12 (Odr.widest c) := by
  have hd := Odr.widest_lt d
  rw [hlen] at hd
  have h12 : Odr.widest d < 4096 := Nat.lt_of_lt_of_le hd (show 2 ^ c.length ≤ 2 ^ 12 from Nat.pow_le_pow_right (by omega) hc)
  refine Odr.widest_most hd ((Odr.sideB_iff h12).2 fun i j hi hj => ?_)
  cases hr : Odr.rel c i j with
  | false => rfl
  | true =>
    have := (Odr.sideB_iff h12).1 (Odr.widest_side d) i j hi hj
    rw [h i j hr] at this; cases this

theorem more_err (v : Value) (a b : Int) (w : World) (hT : Tab w)
    (hW : ∀ w1, Below w.heap.size w w1 → Calls Tryd.prog 32 #[v, .int .i64 a, .int .i64 b] w1 fun e w' => ∃ c, e = .returned (.tuple #[.slice none 0 0, .iface 56 c]) ∧ Below w1.heap.size w1 w') :
    Calls Tryd.prog 10 #[v, .int .i64 a, .int .i64 b] w fun e w' => e = .returned (.bool true) ∧ Below w.heap.size w w' := by
  go_enter Tryd.func10, Tryd.ntmps10
  go_wp2_with fail
  refine (chainFact_calls w hT).mono ?_
  rintro e w1 ⟨rfl, hb1⟩
  go_wp2_with fail
  refine (hW w1 hb1).mono ?_
  rintro e w2 ⟨c, rfl, hb2⟩
  clear hW
  go_wp2_with fail
  go_ret
  exact ⟨rfl, hb1.trans (hb2.mono hb1.size)⟩

set_option maxRecDepth 20000 in
set_option maxHeartbeats 4000000 in
theorem more_ok (m : List Nat) (v : Value) (a b : Nat) (w : World) (hr : Ints w w.heap.size v (zs m)) (hv : Odr.Valid m) (hT : Tab w) (ha : a < m.length) (hb : b < m.length) (hi : irrOk (Odr.more m a b)) :
    Calls Tryd.prog 10 #[v, nv a, nv b] w fun e w' => e = .returned (.bool true) ∧ Below w.heap.size w w' := by
  have hfew := hv.few
  have hvm : Odr.Valid (Odr.closed (Odr.more m a b)) := ((valid_iff (by rw [Odr.length_more]; exact hfew) (hv.fits.more hb)).1 hi).closed
  obtain ⟨m', hm'⟩ : ∃ m', m' = Odr.closed (Odr.more m a b) := ⟨_, rfl⟩
  have hml : m'.length = m.length := by rw [hm', Odr.length_closed, Odr.length_more]
  have hcc : Odr.closed m' = m' := by rw [hm']; exact Odr.closed_closed (hv.fits.more hb)
  have hsub : ∀ i j, Odr.rel (Odr.closed m) i j = true → Odr.rel m' i j = true := by rw [hm']; exact Odr.more_has ha
  have c1 := Lib.hid fun (w1 : World) (hbl : Below w.heap.size w w1) => with_yes m v a b w1 ((Rd.below hr hbl).more hbl.size) hv ha hb hi
  rw [← hm'] at hvm c1
  have hwid : Odr.pop 12 (Odr.widest m') ≤ Odr.pop 12 (Odr.widest (Odr.closed m)) := Odr.widest_more (by rw [Odr.length_closed]; exact hfew) (by rw [hml, Odr.length_closed]) hsub
  have hrk := Lib.hid fun j => Odr.rk_more (c := Odr.closed m) (d := m') (by rw [hml, Odr.length_closed]) hsub j
  have c2 := Lib.hid fun (w1 : World) (hbl : Below w.heap.size w w1) => widest_ok m v w1 ((Rd.below hr hbl).more hbl.size) hv (hT.below hbl)
  have c4 := Lib.hid fun (w1 : World) (hbl : Below w.heap.size w w1) => ranks_ok m v w1 ((Rd.below hr hbl).more hbl.size) hv (hT.below hbl)
  have c3 := Lib.hid fun (u : Value) (w1 : World) (hbl : Below w.heap.size w w1) (hu : Ints w1 w1.heap.size u (zs m')) => widest_ok m' u w1 hu hvm (hT.below hbl)
  have c5 := Lib.hid fun (u : Value) (w1 : World) (hbl : Below w.heap.size w w1) (hu : Ints w1 w1.heap.size u (zs m')) => ranks_ok m' u w1 hu hvm (hT.below hbl)
  rw [hcc, hml] at c5
  rw [hcc] at c3
  have hx12 : Odr.widest (Odr.closed m) < 4096 := by
    have h1 := Odr.widest_lt (Odr.closed m)
    rw [Odr.length_closed] at h1
    exact Nat.lt_of_lt_of_le h1 (show 2 ^ m.length ≤ 2 ^ 12 from Nat.pow_le_pow_right (by omega) hfew)
  have hy12 : Odr.widest m' < 4096 := by
    have h1 := Odr.widest_lt m'
    rw [hml] at h1
    exact Nat.lt_of_lt_of_le h1 (show 2 ^ m.length ≤ 2 ^ 12 from Nat.pow_le_pow_right (by omega) hfew)
  have HML := Lib.hid hml
  clear hsub hcc hm' hvm hml hv hi
  generalize Odr.widest (Odr.closed m) = x at *
  generalize Odr.widest m' = y at *
  generalize Odr.rk (Odr.closed m) = f at *
  generalize Odr.rk m' = g at *
  obtain ⟨A, cap, rfl⟩ := Rd.val hr
  have hlz : (zs m).length = m.length := by simp
  rw [hlz] at hr c1 c2 c4 ⊢
  clear hr hlz ha hb
  generalize m.length = n at *
  go_enter Tryd.func10, Tryd.ntmps10
  go_wp2_with fail
  refine (chainFact_calls w hT).mono ?_
  rintro e w1 ⟨rfl, hb1⟩
  clear hT
  go_wp2_with fail
  refine (c1.out w1 hb1).mono ?_
  rintro e w2 ⟨u, rfl, ho2, hb2⟩
  have hb12 := hb1.trans (hb2.mono hb1.size)
  have hU := Lib.hid ho2.ints
  clear c1 hb1 hb2 ho2
  go_wp2_with fail
  refine (c2.out w2 hb12).mono ?_
  rintro e w3 ⟨rfl, hb3⟩
  have hb13 := hb12.trans (hb3.mono hb12.size)
  have hU3 := Lib.hid ((Rd.below hU.out hb3).more hb3.size)
  clear c2 hb12 hb3 hU
  go_wp2_with fail
  refine (c3.out u w3 hb13 hU3.out).mono ?_
  rintro e w4 ⟨rfl, hb4⟩
  have hb14 := hb13.trans (hb4.mono hb13.size)
  have hU4 := Lib.hid ((Rd.below hU3.out hb4).more hb4.size)
  clear c3 hb13 hb4 hU3
  go_wp2_with fail
  refine (c4.out w4 hb14).mono ?_
  rintro e w5 ⟨p, rfl, ho5, hb5⟩
  have hb15 := hb14.trans (hb5.mono hb14.size)
  have hU5 := Lib.hid ((Rd.below hU4.out hb5).more hb5.size)
  obtain ⟨Ap, cp, rfl⟩ := Rd.val ho5.ints
  rw [length_zs, Odr.length_lof] at ho5 ⊢
  have hP5 := Lib.hid ho5.ints
  clear c4 hb14 hb5 hU4 ho5
  go_wp2_with fail
  refine (c5.out u w5 hb15 hU5.out).mono ?_
  rintro e w6 ⟨q, rfl, ho6, hb6⟩
  have hb16 := hb15.trans (hb6.mono hb15.size)
  obtain ⟨Aq, cq, rfl⟩ := Rd.val ho6.ints
  rw [length_zs, Odr.length_lof] at ho6 ⊢
  have hQ6 := Lib.hid ho6.ints
  have hP6 := Lib.hid (Rd.below hP5.out hb6)
  have HB16 := Lib.hid hb16
  have H56 := Lib.hid hb6.size
  clear c5 hb15 hb6 hU5 ho6 hP5 hb16
  go_wp2_with fail
  go_loopw [18] (fun i wr => ∃ k, k ≤ n ∧ i = nv k ∧ Below w6.heap.size w6 wr) (fun i _ => n - (intOf i).toNat)
  case atStart => exact ⟨0, Nat.zero_le _, rfl, Below.refl _ _⟩
  case round =>
    obtain ⟨k, hk, rfl, hb⟩ := hrel
    by_cases hkn : k < n
    · obtain ⟨bp, op, cp', he, _, gp⟩ := Ints.atN (Rd.below hP6.out (hb.mono H56.out)) (k := k) (by simpa using hkn)
      rw [Odr.length_lof] at he
      injection he with he1 he2 he3
      subst he1 he3
      clear he2
      obtain ⟨bq, oq, cq', he, _, gq⟩ := Ints.atN (Rd.below hQ6.out hb) (k := k) (by simpa using hkn)
      rw [Odr.length_lof] at he
      injection he with he1 he2 he3
      subst he1 he3
      clear he2
      rw [Odr.getD_lof _ hkn] at gp gq
      have hfg := hrk.out k
      generalize f k = x1 at *
      generalize g k = x2 at *
      have hdec : decide (x2 < x1) = false := by simp; omega
      have i1 : (0 : Int) ≤ (k : Int) := by omega
      have i2 : (k : Int) < (n : Int) := by omega
      go_wp2_with fail
      go_quiet (fail)
      go_wp2_with fail
      go_roundw
      case rel => exact ⟨k + 1, by omega, by go_num, drn hb _⟩
      case measure => simp [intOf]; omega
    · obtain rfl : k = n := by omega
      have h1 := Lib.hid fun w5 => rmany_calls y w5 hy12
      have h2 := Lib.hid fun w5 => rmany_calls x w5 hx12
      have hbf := HB16.out.trans (hb.mono HB16.out.size)
      generalize Odr.pop 12 x = px at *
      generalize Odr.pop 12 y = py at *
      clear hb hkn
      go_wp2_with fail
      refine (h1.out _).mono ?_
      rintro e w7 ⟨rfl, rfl⟩
      clear h1
      go_wp2_with fail
      refine (h2.out _).mono ?_
      rintro e w7 ⟨rfl, rfl⟩
      clear h2
      go_wp2_with fail
      go_ret
      exact ⟨by simp, hbf⟩

/-- the law at every input -/
theorem more_calls (l : List Int) (v : Value) (a b : Int) (w : World) (hr : Ints w w.heap.size v l) (hT : Tab w) :
    Calls Tryd.prog 10 #[v, .int .i64 a, .int .i64 b] w fun e w' => e = .returned (.bool true) ∧ Below w.heap.size w w' := by
  by_cases h : orderCode l = 0
  · obtain ⟨m, rfl, hv⟩ := orderCode_zero h
    by_cases hg : (0 ≤ a ∧ a < m.length) ∧ (0 ≤ b ∧ b < m.length)
    · obtain ⟨⟨h1, h2⟩, h3, h4⟩ := hg
      obtain ⟨a, rfl⟩ := Int.eq_ofNat_of_zero_le h1
      obtain ⟨b, rfl⟩ := Int.eq_ofNat_of_zero_le h3
      by_cases hi : irrOk (Odr.more m a b)
      · exact more_ok m v a b w hr hv hT (by omega) (by omega) hi
      · exact more_err v a b w hT fun w1 hb => (with_no m v a b w1 ((Rd.below hr hb).more hb.size) hv (by omega) (by omega) hi).mono fun _ _ ⟨h1, h2⟩ => ⟨_, h1, h2⟩
    · exact more_err v a b w hT fun w1 hb => (with_range m v a b w1 ((Rd.below hr hb).more hb.size) hv hg).mono fun _ _ ⟨h1, h2⟩ => ⟨_, h1, h2⟩
  · exact more_err v a b w hT fun w1 hb => (with_err l v a b w1 ((Rd.below hr hb).more hb.size) h).mono fun _ _ ⟨h1, h2⟩ => ⟨_, h1, h2⟩
end Go.Proofs.YtpicjikjinkkpaaDoor
