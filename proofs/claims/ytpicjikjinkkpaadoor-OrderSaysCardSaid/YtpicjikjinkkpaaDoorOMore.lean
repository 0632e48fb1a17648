/- OrderMore at every input: what stands side by side may stand either way. Conditions: the row's own. -/
import Derived.Test.YtpicjikjinkkpaaDoorRules
import Derived.Test.YtpicjikjinkkpaaDoorSub
import Derived.Test.YtpicjikjinkkpaaDoorRef1
import Derived.Test.YtpicjikjinkkpaaDoorAs
import Derived.BigQuiet
import Derived.Deep.QuietTactic
namespace Go.Proofs.YtpicjikjinkkpaaDoor
open Go.RowKit

theorem Odr.ring_back {m : List Nat} (hv : Odr.Valid m) {a b : Nat} (ha : a < m.length) : irrOk (Odr.more m a b) ↔ ¬ (Odr.rel (Odr.closed m) b a = true ∨ a = b) := by
  constructor
  · intro h hn
    have := h a (by rw [Odr.length_more]; exact ha)
    have h2 : Odr.rel (Odr.closed (Odr.more m a b)) a a = true := (Odr.closed_more ha a a).2 (.inr ⟨.inl rfl, by
      rcases hn with h | h
      · exact .inr h
      · exact .inl h.symm⟩)
    rw [this] at h2; cases h2
  · intro hn i _
    cases hr : Odr.rel (Odr.closed (Odr.more m a b)) i i with
    | false => rfl
    | true =>
      rcases (Odr.closed_more ha i i).1 hr with h1 | ⟨h1, h2⟩
      · rw [hv.irr] at h1; cases h1
      · rcases h2.trans h1 with h3 | h3
        · exact absurd (.inr h3.symm) hn
        · exact absurd (.inl h3) hn
theorem subq (a b n : Nat) (w : World) (ha : a < 4096) (hb : b < 4096) : Calls Tryd.prog 27 #[nv a, nv b] (w.drewN n) fun e w'' => e = .returned (.bool (decide (Odr.diff a b = 0))) ∧ ∃ m, w'' = w.drewN m :=
  Calls.quiet_of_same ((sub_calls a b (w.drewN n) (by omega) (by omega)).mono fun _ _ ⟨a, b⟩ => ⟨a, b.symm⟩)

theorem error6 (w : World) (hg : ErrTy w) : Calls Tryd.prog 44 #[.iface 56 (.int .i64 6), .int .i64 6] w fun e w' => e = .returned (.bool true) ∧ Below w.heap.size w w' := by
  have h := error_calls 6 6 w hg
  have e1 : errw 6 = .iface 56 (.int .i64 6) := by unfold errw; rw [if_neg (by decide)]; rfl
  have e2 : decide (((6 : Nat) : Int) = 6) = true := by decide
  rw [e1, e2] at h
  exact h
theorem omore_err (l : List Int) (v : Value) (a b : Int) (w : World) (hr : Ints w w.heap.size v l) (hne : orderCode l ≠ 0) :
    Calls Tryd.prog 14 #[v, .int .i64 a, .int .i64 b] w fun e w' => e = .returned (.bool true) ∧ Below w.heap.size w w' := by
  go_enter Tryd.func14, Tryd.ntmps14
  go_wp2_with fail
  refine (orderFact_calls w).mono ?_
  rintro e w1 ⟨rfl, hb1⟩
  have hbe := Lib.hid (behind_err l v w1 ((Rd.below hr hb1).more hb1.size) hne)
  clear hr
  go_wp2_with fail
  refine hbe.out.mono ?_
  rintro e w2 ⟨rfl, hb2⟩
  clear hbe
  go_wp2_with fail
  go_ret
  exact ⟨rfl, hb1.trans (hb2.mono hb1.size)⟩
set_option maxHeartbeats 2000000 in
theorem omore_out (m : List Nat) (v : Value) (a b : Int) (w : World) (hr : Ints w w.heap.size v (zs m)) (hv : Odr.Valid m)
    (hout : a < 0 ∨ (0 ≤ a ∧ (m.length : Int) ≤ a) ∨ (0 ≤ a ∧ a < m.length ∧ b < 0) ∨ (0 ≤ a ∧ a < m.length ∧ 0 ≤ b ∧ (m.length : Int) ≤ b)) :
    Calls Tryd.prog 14 #[v, .int .i64 a, .int .i64 b] w fun e w' => e = .returned (.bool true) ∧ Below w.heap.size w w' := by
  have hfew := hv.few
  obtain ⟨A, cap, rfl⟩ := Rd.val hr
  have hlz : (zs m).length = m.length := by simp
  rw [hlz] at hr ⊢
  have hbe := Lib.hid fun (w1 : World) (hb : Below w.heap.size w w1) => behind_ok m (.slice A m.length cap) w1 ((Rd.below hr hb).more hb.size) hv
  clear hr hv hlz
  generalize m.length = n at *
  rcases hout with h | ⟨h1, h⟩ | ⟨h1, h2, h⟩ | ⟨h1, h2, h3, h⟩
  all_goals
    go_enter Tryd.func14, Tryd.ntmps14
    go_wp2_with fail
    refine (orderFact_calls w).mono ?_
    rintro e w1 ⟨rfl, hb1⟩
    go_wp2_with fail
    refine (hbe.out w1 hb1).mono ?_
    rintro e w2 ⟨u, rfl, -, hb2⟩
    clear hbe
    go_wp2_with fail
    go_ret
    exact ⟨rfl, hb1.trans (hb2.mono hb1.size)⟩

set_option maxRecDepth 20000 in
set_option maxHeartbeats 2000000 in
theorem omore_no (m : List Nat) (v : Value) (a b : Nat) (w : World) (hr : Ints w w.heap.size v (zs m)) (hv : Odr.Valid m) (hE : ErrTy w) (ha : a < m.length) (hb : b < m.length) (hi : ¬ irrOk (Odr.more m a b)) :
    Calls Tryd.prog 14 #[v, nv a, nv b] w fun e w' => e = .returned (.bool true) ∧ Below w.heap.size w w' := by
  have hfew := hv.few
  have hrb : Odr.rel (Odr.closed m) b a = true ∨ a = b := Classical.byContradiction fun h => hi ((Odr.ring_back hv ha).2 h)
  obtain ⟨A, cap, rfl⟩ := Rd.val hr
  have hlz : (zs m).length = m.length := by simp
  rw [hlz] at hr ⊢
  have c1 := Lib.hid fun (w1 : World) (hbl : Below w.heap.size w w1) => behind_ok m (.slice A m.length cap) w1 ((Rd.below hr hbl).more hbl.size) hv
  have c2 := Lib.hid fun (w1 : World) (hbl : Below w.heap.size w w1) => less_ok m (.slice A m.length cap) b a w1 ((Rd.below hr hbl).more hbl.size) hv hb ha
  have c3 := Lib.hid fun (w1 : World) (hbl : Below w.heap.size w w1) => (with_ok m (.slice A m.length cap) a b w1 ((Rd.below hr hbl).more hbl.size) hv ha hb).mono (R' := fun e w' => e = .returned (.tuple #[.slice none 0 0, .iface 56 (.int .i64 6)]) ∧ Below w1.heap.size w1 w') fun _ _ ⟨h1, h2⟩ => by
    rcases h2 with ⟨h3, _⟩ | ⟨_, h3⟩
    · exact absurd h3 hi
    · exact ⟨h3, h1⟩
  have c4 := Lib.hid fun (w1 : World) (hbl : Below w.heap.size w w1) => error6 w1 (hE.below hbl)
  clear hr hv hlz hi
  have hcase : (Odr.rel (Odr.closed m) b a = true) ∨ (Odr.rel (Odr.closed m) b a = false ∧ a = b) := by
    cases h : Odr.rel (Odr.closed m) b a with
    | true => exact .inl rfl
    | false =>
      rcases hrb with h1 | h1
      · rw [h] at h1; cases h1
      · exact .inr ⟨rfl, h1⟩
  clear hrb
  generalize m.length = n at *
  rcases hcase with hback | ⟨hback, rfl⟩
  all_goals
    rw [hback] at c2
    clear hback
    go_enter Tryd.func14, Tryd.ntmps14
    go_wp2_with fail
    refine (orderFact_calls w).mono ?_
    rintro e w1 ⟨rfl, hb1⟩
    go_wp2_with fail
    (with_reducible refine (c1.out w1 hb1).mono ?_)
    rintro e w2 ⟨u, rfl, -, hb2⟩
    have hb12 := hb1.trans (hb2.mono hb1.size)
    clear c1 hb1 hb2
    go_wp2_with fail
    (with_reducible refine (c2.out w2 hb12).mono ?_)
    rintro e w3 ⟨rfl, hb3⟩
    have hb13 := hb12.trans (hb3.mono hb12.size)
    clear c2 hb12 hb3
    go_wp2_with fail
    (with_reducible refine (c3.out w3 hb13).mono ?_)
    rintro e w4 ⟨rfl, hb4⟩
    have hb14 := hb13.trans (hb4.mono hb13.size)
    clear c3 hb13 hb4
    go_wp2_with fail
    (with_reducible refine (c4.out w4 hb14).mono ?_)
    rintro e w5 ⟨rfl, hb5⟩
    clear c4
    go_wp2_with fail
    go_ret
    exact ⟨rfl, hb14.trans (hb5.mono hb14.size)⟩

set_option maxRecDepth 20000 in
set_option maxHeartbeats 2000000 in
theorem omore_yes (m : List Nat) (v : Value) (a b : Nat) (w : World) (hr : Ints w w.heap.size v (zs m)) (hv : Odr.Valid m) (ha : a < m.length) (hb : b < m.length) (hi : irrOk (Odr.more m a b)) :
    Calls Tryd.prog 14 #[v, nv a, nv b] w fun e w' => e = .returned (.bool true) ∧ Below w.heap.size w w' := by
  have hfew := hv.few
  have hnb := (Odr.ring_back hv ha).1 hi
  have hback : Odr.rel (Odr.closed m) b a = false := by
    cases h : Odr.rel (Odr.closed m) b a with
    | false => rfl
    | true => exact absurd (.inl h) hnb
  have hab : ((a : Int) == (b : Int)) = false := by
    have : a ≠ b := fun h => hnb (.inr h)
    simp; omega
  obtain ⟨A, cap, rfl⟩ := Rd.val hr
  have hlz : (zs m).length = m.length := by simp
  rw [hlz] at hr ⊢
  have hvm : Odr.Valid (Odr.closed (Odr.more m a b)) := ((valid_iff (by rw [Odr.length_more]; exact hfew) (hv.fits.more hb)).1 hi).closed
  have hmab : Odr.rel (Odr.closed (Odr.more m a b)) a b = true := (Odr.closed_more ha a b).2 (.inr ⟨.inl rfl, .inl rfl⟩)
  have hsub : ∀ k, Odr.diff ((Odr.closed m).getD k 0) ((Odr.closed (Odr.more m a b)).getD k 0) = 0 := fun k => (Odr.diff_zero _ _).2 fun j hj => (Odr.closed_more ha k j).2 (.inl hj)
  have c1 := Lib.hid fun (w1 : World) (hbl : Below w.heap.size w w1) => behind_ok m (.slice A m.length cap) w1 ((Rd.below hr hbl).more hbl.size) hv
  have c2 := Lib.hid fun (w1 : World) (hbl : Below w.heap.size w w1) => less_ok m (.slice A m.length cap) b a w1 ((Rd.below hr hbl).more hbl.size) hv hb ha
  rw [hback] at c2
  have c3 := Lib.hid fun (w1 : World) (hbl : Below w.heap.size w w1) => (with_ok m (.slice A m.length cap) a b w1 ((Rd.below hr hbl).more hbl.size) hv ha hb).mono (R' := fun e w' => ∃ v', e = .returned (.tuple #[v', .nilIface]) ∧ Own w' w1.heap.size v' (zs (Odr.closed (Odr.more m a b))) ∧ Below w1.heap.size w1 w') fun _ _ ⟨h1, h2⟩ => by
    rcases h2 with ⟨_, v', h3, h4⟩ | ⟨h3, _⟩
    · exact ⟨v', h3, h4, h1⟩
    · exact absurd hi h3
  obtain ⟨d, hd⟩ : ∃ d, d = Odr.closed (Odr.more m a b) := ⟨_, rfl⟩
  obtain ⟨c, hc⟩ : ∃ c, c = Odr.closed m := ⟨_, rfl⟩
  have hdl : d.length = m.length := by rw [hd, Odr.length_closed, Odr.length_more]
  have hcl : c.length = m.length := by rw [hc, Odr.length_closed]
  have hdf := Lib.hid (show Odr.Fits d by rw [hd]; exact hvm.fits)
  have hcf := Lib.hid (show Odr.Fits c by rw [hc]; exact hv.fits.closed)
  rw [← hd] at c3 hvm hmab
  rw [← hd, ← hc] at hsub
  rw [← hc] at c1
  have HVM := Lib.hid hvm
  have HSUB := Lib.hid hsub
  have HAB := Lib.hid hmab
  clear hr hv hlz hi hnb hback hvm hmab hsub hd hc
  generalize m.length = n at *
  go_enter Tryd.func14, Tryd.ntmps14
  go_wp2_with fail
  refine (orderFact_calls w).mono ?_
  rintro e w1 ⟨rfl, hb1⟩
  go_wp2_with fail
  (with_reducible refine (c1.out w1 hb1).mono ?_)
  rintro e w2 ⟨u, rfl, ho2, hb2⟩
  have hb12 := hb1.trans (hb2.mono hb1.size)
  obtain ⟨Au, cu, rfl⟩ := Rd.val ho2.ints
  rw [length_zs, hcl] at ho2 ⊢
  have hC2 := Lib.hid ho2.ints
  clear c1 hb1 hb2 ho2
  go_wp2_with fail
  (with_reducible refine (c2.out w2 hb12).mono ?_)
  rintro e w3 ⟨rfl, hb3⟩
  have hb13 := hb12.trans (hb3.mono hb12.size)
  have hC3 := Lib.hid ((Rd.below hC2.out hb3).more hb3.size)
  clear c2 hb12 hb3 hC2
  go_wp2_with fail
  (with_reducible refine (c3.out w3 hb13).mono ?_)
  rintro e w4 ⟨x, rfl, ho4, hb4⟩
  have hb14 := hb13.trans (hb4.mono hb13.size)
  have hC4 := Lib.hid ((Rd.below hC3.out hb4).more hb4.size)
  obtain ⟨Ax, cx, rfl⟩ := Rd.val ho4.ints
  rw [length_zs, hdl] at ho4 ⊢
  have hD4 := Lib.hid ho4.ints
  have hK := Lib.hid (check_valid d (.slice Ax n cx) w4 ho4.ints HVM.out)
  clear c3 hb13 hb4 hC3 ho4
  go_wp2_with fail
  (with_reducible refine hK.out.mono ?_)
  rintro e w5 ⟨rfl, hb5⟩
  have HB15 := Lib.hid (hb14.trans (hb5.mono hb14.size))
  have hC5 := Lib.hid ((Rd.below hC4.out hb5).more hb5.size)
  have hD5 := Lib.hid ((Rd.below hD4.out hb5).more hb5.size)
  clear hK hb14 hb5 hC4 hD4
  go_wp2_with fail
  go_loopw [14] (fun i wr => ∃ k, k ≤ n ∧ i = nv k ∧ Below w5.heap.size w5 wr) (fun i _ => n - (intOf i).toNat)
  case atStart => exact ⟨0, Nat.zero_le _, rfl, Below.refl _ _⟩
  case round =>
    obtain ⟨k, hk, rfl, hbl⟩ := hrel
    by_cases hkn : k < n
    · obtain ⟨bx, ox, cx', he, _, gx⟩ := Ints.atN (Rd.below hD5.out hbl) (k := k) (by omega)
      rw [hdl] at he
      injection he with he1 he2 he3
      subst he1 he3
      clear he2
      obtain ⟨bu, ou, cu', he, _, gu⟩ := Ints.atN (Rd.below hC5.out hbl) (k := k) (by omega)
      rw [hcl] at he
      injection he with he1 he2 he3
      subst he1 he3
      clear he2
      have h1 : d.getD k 0 < 4096 := fits12 (l := d) (by omega) (hdf.out.getD k)
      have h2 : c.getD k 0 < 4096 := fits12 (l := c) (by omega) (hcf.out.getD k)
      have hs := HSUB.out k
      have hQ := Lib.hid fun n' w5 => subq (c.getD k 0) (d.getD k 0) n' w5 h2 h1
      rw [decide_eq_true hs] at hQ
      clear hs
      generalize d.getD k 0 = z at *
      generalize c.getD k 0 = y at *
      have i1 : (0 : Int) ≤ (k : Int) := by omega
      have i2 : (k : Int) < (n : Int) := by omega
      have d1 : decide ((z : Int) < 0) = false := by simp
      have d2 : decide ((y : Int) < 0) = false := by simp
      go_wp2_with fail
      go_quiet ((first | (go_at_call 27; exact hQ.out _ _)))
      go_wp2_with fail
      go_roundw
      case rel => exact ⟨k + 1, by omega, by go_num, drn hbl _⟩
      case measure => simp [intOf]; omega
    · obtain rfl : k = n := by omega
      obtain ⟨bx, ox, cx', he, _, gx⟩ := Ints.atN (Rd.below hD5.out hbl) (k := a) (by omega)
      rw [hdl] at he
      injection he with he1 he2 he3
      subst he1 he3
      clear he2
      have h1 : d.getD a 0 < 4096 := fits12 (l := d) (by omega) (hdf.out.getD a)
      have hQ := Lib.hid fun w5 => bit12 (d.getD a 0) b w5 h1 (by omega)
      rw [show (d.getD a 0).testBit b = true from HAB.out] at hQ
      have HF := Lib.hid (HB15.out.trans (hbl.mono HB15.out.size))
      generalize d.getD a 0 = z at *
      clear hbl hkn
      go_wp2_with fail
      refine (hQ.out _).mono ?_
      rintro e w7 ⟨rfl, rfl⟩
      clear hQ
      go_wp2_with fail
      go_ret
      exact ⟨rfl, HF.out⟩

/-- the law at every input -/
theorem omore_calls (l : List Int) (v : Value) (a b : Int) (w : World) (hr : Ints w w.heap.size v l) (hE : ErrTy w) :
    Calls Tryd.prog 14 #[v, .int .i64 a, .int .i64 b] w fun e w' => e = .returned (.bool true) ∧ Below w.heap.size w w' := by
  by_cases h : orderCode l = 0
  · obtain ⟨m, rfl, hv⟩ := orderCode_zero h
    by_cases hg : (0 ≤ a ∧ a < m.length) ∧ (0 ≤ b ∧ b < m.length)
    · obtain ⟨⟨h1, h2⟩, h3, h4⟩ := hg
      obtain ⟨a, rfl⟩ := Int.eq_ofNat_of_zero_le h1
      obtain ⟨b, rfl⟩ := Int.eq_ofNat_of_zero_le h3
      by_cases hi : irrOk (Odr.more m a b)
      · exact omore_yes m v a b w hr hv (by omega) (by omega) hi
      · exact omore_no m v a b w hr hv hE (by omega) (by omega) hi
    · exact omore_out m v a b w hr hv (by omega)
  · exact omore_err l v a b w hr h
end Go.Proofs.YtpicjikjinkkpaaDoor
