/- OrderRules at every input: ahead is one way, and goes on. Conditions: the row's own. -/
import Derived.Test.YtpicjikjinkkpaaDoorTurned
namespace Go.Proofs.YtpicjikjinkkpaaDoor
open Go.RowKit

theorem orderFact_calls (w : World) : Calls Tryd.prog 19 #[] w fun e w' => e = .returned (.bool true) ∧ Below w.heap.size w w' := by
  have hv : Odr.Valid [2, 4, 0] := (valid_iff (by decide) (by unfold Odr.Fits; decide)).1 (by decide)
  have hc : Odr.closed [2, 4, 0] = [6, 4, 0] := by decide
  go_enter Tryd.func19, Tryd.ntmps19
  have hl := Ints.lit w (zs [2, 4, 0]) 3 (by decide)
  obtain ⟨w1, hw1⟩ : ∃ w1, w.alloc (.cells #[.int .i64 2, .int .i64 4, .int .i64 0] 3) = w1 := ⟨_, rfl⟩
  have hb1 : Below w.heap.size w w1 := by rw [← hw1]; exact (Below.refl _ _).alloc (Nat.le_refl _) _
  have hs1 : w1.heap.size = w.heap.size + 1 := by rw [← hw1]; simp
  have hl' : Ints w1 w1.heap.size (.slice (some ⟨w.heap.size, 0, none⟩) 3 3) (zs [2, 4, 0]) := by rw [← hw1]; simp only [World.size_alloc]; exact hl
  have hbe := Lib.hid (behind_ok [2, 4, 0] _ w1 hl' hv)
  have HC := Lib.hid hc
  have HW1 := Lib.hid hw1
  clear hl hl' hv hc hw1
  go_wp2_with fail
  rw [HW1.out]
  refine hbe.out.mono ?_
  rintro e w2 ⟨v', rfl, hown, hb2⟩
  rw [HC.out] at hown
  have hl3 := Ints.lit w2 (zs [6, 4, 0]) 3 (by decide)
  obtain ⟨w3, hw3⟩ : ∃ w3, w2.alloc (.cells #[.int .i64 6, .int .i64 4, .int .i64 0] 3) = w3 := ⟨_, rfl⟩
  have hb3 : Below w2.heap.size w2 w3 := by rw [← hw3]; exact (Below.refl _ _).alloc (Nat.le_refl _) _
  have hl3' : Ints w3 w3.heap.size (.slice (some ⟨w2.heap.size, 0, none⟩) 3 3) (zs [6, 4, 0]) := by rw [← hw3]; simp only [World.size_alloc]; exact hl3
  have hi := Lib.hid (ints_calls v' _ _ _ w3.heap.size w3 (Nat.le_refl _) ((Rd.below hown.ints hb3).more hb3.size) hl3')
  have HW3 := Lib.hid hw3
  clear hbe hl3 hl3' hw3 hown
  go_wp2_with fail
  rw [HW3.out]
  refine hi.out.mono ?_
  rintro e w4 ⟨rfl, hb4⟩
  clear hi
  simp only [decide_true]
  go_wp2_with fail
  go_ret
  exact ⟨rfl, ((hb1.trans (hb2.mono hb1.size)).trans (hb3.mono (hb1.trans (hb2.mono hb1.size)).size)).trans (hb4.mono ((hb1.trans (hb2.mono hb1.size)).trans (hb3.mono (hb1.trans (hb2.mono hb1.size)).size)).size)⟩

set_option maxRecDepth 20000 in
theorem rules_err (l : List Int) (v : Value) (a b c : Int) (w : World) (hr : Ints w w.heap.size v l) (hne : orderCode l ≠ 0) :
    Calls Tryd.prog 3 #[v, .int .i64 a, .int .i64 b, .int .i64 c] w fun e w' => e = .returned (.bool true) ∧ Below w.heap.size w w' := by
  go_enter Tryd.func3, Tryd.ntmps3
  go_wp2_with fail
  refine (orderFact_calls w).mono ?_
  rintro e w1 ⟨rfl, hb1⟩
  have hbe := Lib.hid (behind_err l v w1 ((Rd.below hr hb1).more hb1.size) hne)
  clear hr
  go_wp2_with fail
  refine hbe.out.mono ?_
  rintro e w2 ⟨rfl, hb2⟩
  clear hbe
  go_wp2_with fail
  go_ret
  exact ⟨rfl, hb1.trans (hb2.mono hb1.size)⟩

set_option maxRecDepth 20000 in
set_option maxHeartbeats 4000000 in
theorem rules_ok (m : List Nat) (v : Value) (a b c : Int) (w : World) (hr : Ints w w.heap.size v (zs m)) (hv : Odr.Valid m) (hT : Tab w) :
    Calls Tryd.prog 3 #[v, .int .i64 a, .int .i64 b, .int .i64 c] w fun e w' => e = .returned (.bool true) ∧ Below w.heap.size w w' := by
  have hvt := hv.turned
  have htt := Lib.hid (Odr.turned_turned hv)
  have hcl := Odr.length_closed m
  have htl := Odr.length_turned m
  obtain ⟨A, cap, rfl⟩ := Rd.val hr
  have hlz : (zs m).length = m.length := by simp
  rw [hlz] at hr ⊢
  have HT := Lib.hid hT
  have HV := Lib.hid hv
  clear hT
  go_enter Tryd.func3, Tryd.ntmps3
  go_wp2_with fail
  refine (orderFact_calls w).mono ?_
  rintro e w1 ⟨rfl, hb1⟩
  have hr1 : Ints w1 w1.heap.size (.slice A m.length cap) (zs m) := (Rd.below hr hb1).more hb1.size
  have hbe := Lib.hid (behind_ok m _ w1 hr1 hv)
  have HR1 := Lib.hid hr1
  clear hr hr1 hv
  go_wp2_with fail
  refine hbe.out.mono ?_
  rintro e w2 ⟨vl, rfl, hown2, hb2⟩
  have htu := Lib.hid (turned_ok m (.slice A m.length cap) w2 ((Rd.below HR1.out hb2).more hb2.size) HV.out (HT.out.below (hb1.trans (hb2.mono hb1.size))))
  have hb12 := hb1.trans (hb2.mono hb1.size)
  obtain ⟨A2, c2, rfl⟩ := Rd.val hown2.ints
  rw [length_zs, hcl] at hown2 ⊢
  have H2 := Lib.hid hown2
  clear hbe hown2
  go_wp2_with fail
  refine htu.out.mono ?_
  rintro e w3 ⟨vt, rfl, hown3, hb3⟩
  have hb13 := hb12.trans (hb3.mono hb12.size)
  have hi3 := hown3.ints
  have hvs : ∃ A3 c3, vt = .slice A3 m.length c3 := by
    obtain ⟨A3, c3, h⟩ := Rd.val hi3
    exact ⟨A3, c3, by rw [h, length_zs, htl]⟩
  have htu2 := Lib.hid (turned_ok (Odr.turned m) vt w3 hi3 hvt (HT.out.below hb13))
  have H3 := Lib.hid hi3
  clear htu hi3 hown3
  go_wp2_with fail
  refine htu2.out.mono ?_
  rintro e w4 ⟨vu, rfl, hown4, hb4⟩
  have hb14 := hb13.trans (hb4.mono hb13.size)
  rw [htt.out] at hown4
  have hi := Lib.hid (ints_calls vu (.slice A2 m.length c2) _ _ w4.heap.size w4 (Nat.le_refl _) hown4.ints (Rd.below (Rd.below H2.out.ints hb3) (hb4.mono hb3.size) |>.more (Nat.le_trans hb3.size hb4.size)))
  clear htu2 hown4
  go_wp2_with fail
  refine hi.out.mono ?_
  rintro e w5 ⟨rfl, hb5⟩
  have hb15 := hb14.trans (hb5.mono hb14.size)
  clear hi
  simp only [decide_true]
  cases h1 : decide (a < 0) with
  | true => go_wp2_with fail; go_ret; exact ⟨rfl, hb15⟩
  | false =>
  cases h2 : decide (a ≥ (m.length : Int)) with
  | true => go_wp2_with fail; go_ret; exact ⟨rfl, hb15⟩
  | false =>
  cases h3 : decide (b < 0) with
  | true => go_wp2_with fail; go_ret; exact ⟨rfl, hb15⟩
  | false =>
  cases h4 : decide (b ≥ (m.length : Int)) with
  | true => go_wp2_with fail; go_ret; exact ⟨rfl, hb15⟩
  | false =>
  cases h5 : decide (c < 0) with
  | true => go_wp2_with fail; go_ret; exact ⟨rfl, hb15⟩
  | false =>
  cases h6 : decide (c ≥ (m.length : Int)) with
  | true => go_wp2_with fail; go_ret; exact ⟨rfl, hb15⟩
  | false =>
  simp only [decide_eq_false_iff_not, ge_iff_le, Int.not_le, Int.not_lt] at h1 h2 h3 h4 h5 h6
  obtain ⟨i, rfl⟩ := Int.eq_ofNat_of_zero_le h1
  obtain ⟨j, rfl⟩ := Int.eq_ofNat_of_zero_le h3
  obtain ⟨k, rfl⟩ := Int.eq_ofNat_of_zero_le h5
  have hi : i < m.length := by omega
  have hj : j < m.length := by omega
  have hk : k < m.length := by omega
  clear h1 h2 h3 h4 h5 h6
  have q1 : decide ((i : Int) < 0) = false := by simp
  have q2 : decide ((i : Int) ≥ (m.length : Int)) = false := by simp; omega
  have q3 : decide ((j : Int) < 0) = false := by simp
  have q4 : decide ((j : Int) ≥ (m.length : Int)) = false := by simp; omega
  have q5 : decide ((k : Int) < 0) = false := by simp
  have q6 : decide ((k : Int) ≥ (m.length : Int)) = false := by simp; omega
  have hr5 : Ints w5 w5.heap.size (.slice A m.length cap) (zs m) := (Rd.below HR1.out (((hb2.trans (hb3.mono hb2.size)).trans (hb4.mono (Nat.le_trans hb2.size hb3.size))).trans (hb5.mono (Nat.le_trans (Nat.le_trans hb2.size hb3.size) hb4.size)))).more (Nat.le_trans (Nat.le_trans (Nat.le_trans hb2.size hb3.size) hb4.size) hb5.size)
  have hl1 := Lib.hid (less_ok m _ i j w5 hr5 HV.out hi hj)
  have ht5 : Ints w5 w5.heap.size vt (zs (Odr.turned m)) := (Rd.below (Rd.below H3.out hb4) (hb5.mono hb4.size)).more (Nat.le_trans hb4.size hb5.size)
  have HR5 := Lib.hid hr5
  have HT5 := Lib.hid ht5
  have fx := hvt
  have hrel : ∀ p q, Odr.rel (Odr.closed (Odr.turned m)) p q = Odr.rel (Odr.closed m) q p := fun p q => by rw [Odr.closed_turned HV.out.fits, Odr.rel_turned HV.out.fits]
  have HREL := Lib.hid (hrel j i)
  have hxz : Odr.rel (Odr.closed m) i j = true → Odr.rel (Odr.closed m) j k = true → Odr.rel (Odr.closed m) i k = true := fun a b => Odr.closed_trans a b
  have hxw : Odr.rel (Odr.closed m) i j = true → Odr.rel (Odr.closed m) j i = false := fun a => by
    cases h : Odr.rel (Odr.closed m) j i with
    | false => rfl
    | true => have := Odr.closed_trans a h; rw [HV.out.irr] at this; cases this
  have hxe : Odr.rel (Odr.closed m) i j = true → i ≠ j := fun a e => by subst e; rw [HV.out.irr] at a; cases a
  clear hr5 ht5 fx hrel H2 HR1 hb1 hb2 hb3 hb4 hb5 hb12 hb13 hb14
  go_wp2_with fail
  refine hl1.out.mono ?_
  rintro e w6 ⟨rfl, hb6⟩
  have hl2 := Lib.hid (less_ok m _ j k w6 ((Rd.below HR5.out hb6).more hb6.size) HV.out hj hk)
  clear hl1
  go_wp2_with fail
  refine hl2.out.mono ?_
  rintro e w7 ⟨rfl, hb7⟩
  have hb57 := hb6.trans (hb7.mono hb6.size)
  have hl3 := Lib.hid (less_ok m _ i k w7 ((Rd.below HR5.out hb57).more hb57.size) HV.out hi hk)
  clear hl2 hb6 hb7
  go_wp2_with fail
  refine hl3.out.mono ?_
  rintro e w8 ⟨rfl, hb8⟩
  have hb58 := hb57.trans (hb8.mono hb57.size)
  have hl4 := Lib.hid (less_ok m _ j i w8 ((Rd.below HR5.out hb58).more hb58.size) HV.out hj hi)
  clear hl3 hb57 hb8
  go_wp2_with fail
  refine hl4.out.mono ?_
  rintro e w9 ⟨rfl, hb9⟩
  have hb59 := hb58.trans (hb9.mono hb58.size)
  have hl5 := Lib.hid (less_ok (Odr.turned m) vt j i w9 ((Rd.below HT5.out hb59).more hb59.size) hvt (by rw [htl]; exact hj) (by rw [htl]; exact hi))
  rw [HREL.out] at hl5
  clear hl4 hb58 hb9 hvt
  go_wp2_with fail
  refine hl5.out.mono ?_
  rintro e w10 ⟨rfl, hb10⟩
  have hB := Lib.hid (hb15.trans ((hb59.trans (hb10.mono hb59.size)).mono hb15.size))
  clear hl5 hb59 hb10 hb15 HR5 HT5 q1 q2 q3 q4 q5 q6 HREL H3
  generalize Odr.rel (Odr.closed m) i j = x at *
  generalize Odr.rel (Odr.closed m) j k = y at *
  generalize Odr.rel (Odr.closed m) i k = z at *
  generalize Odr.rel (Odr.closed m) j i = u at *
  have hij : (((i : Int) != (j : Int)) = true ∧ i ≠ j) ∨ (((i : Int) != (j : Int)) = false ∧ i = j) := by
    by_cases h : i = j
    · exact .inr ⟨by simp [h], h⟩
    · exact .inl ⟨by simp; omega, h⟩
  cases x with
  | false =>
    clear hxz hxw hxe
    rcases hij with ⟨h, -⟩ | ⟨h, -⟩
    · go_wp2_with fail
      go_ret
      exact ⟨by simp, hB.out⟩
    · go_wp2_with fail
      go_ret
      exact ⟨by simp, hB.out⟩
  | true =>
    obtain rfl := hxw rfl
    rcases hij with ⟨h, -⟩ | ⟨-, h⟩
    · cases y with
      | false =>
        clear hxz hxw hxe
        go_wp2_with fail
        go_ret
        exact ⟨by simp, hB.out⟩
      | true =>
        obtain rfl := hxz rfl rfl
        clear hxz hxw hxe
        go_wp2_with fail
        go_ret
        exact ⟨by simp, hB.out⟩
    · exact absurd h (hxe rfl)

/-- the law at every input -/
theorem rules_calls (l : List Int) (v : Value) (a b c : Int) (w : World) (hr : Ints w w.heap.size v l) (hT : Tab w) :
    Calls Tryd.prog 3 #[v, .int .i64 a, .int .i64 b, .int .i64 c] w fun e w' => e = .returned (.bool true) ∧ Below w.heap.size w w' := by
  by_cases h : orderCode l = 0
  · obtain ⟨m, rfl, hv⟩ := orderCode_zero h
    exact rules_ok m v a b c w hr hv hT
  · exact rules_err l v a b c w hr h

end Go.Proofs.YtpicjikjinkkpaaDoor
