/- DownLattice at every input: closed sets are a lattice. Conditions: the row's own. -/
import Derived.Test.YtpicjikjinkkpaaDoorCloses
import Derived.Test.YtpicjikjinkkpaaDoorRef1
namespace Go.Proofs.YtpicjikjinkkpaaDoor
open Go.RowKit

namespace Odr
theorem dis_and {m : List Nat} (hv : Valid m) {a b : Nat} (ha : a < 2 ^ m.length) (hb : b < 2 ^ m.length) (h1 : dis m a) (h2 : dis m b) : dis m (a &&& b) := by
  rw [dis_iff hv (Nat.and_lt_two_pow _ hb)]
  intro k i hk hr
  rw [Nat.testBit_and, Bool.and_eq_true] at hk ⊢
  exact ⟨(dis_iff hv ha).1 h1 k i hk.1 hr, (dis_iff hv hb).1 h2 k i hk.2 hr⟩
theorem dis_or {m : List Nat} (hv : Valid m) {a b : Nat} (ha : a < 2 ^ m.length) (hb : b < 2 ^ m.length) (h1 : dis m a) (h2 : dis m b) : dis m (a ||| b) := by
  rw [dis_iff hv (Nat.or_lt_two_pow ha hb)]
  intro k i hk hr
  rw [Nat.testBit_or, Bool.or_eq_true] at hk ⊢
  exact hk.imp (fun h => (dis_iff hv ha).1 h1 k i h hr) (fun h => (dis_iff hv hb).1 h2 k i h hr)
theorem dclose_or {m : List Nat} (hv : Valid m) {s t : Nat} (hs : s < 2 ^ m.length) (ht : t < 2 ^ m.length) : dclose m (s ||| t) = dclose m s ||| dclose m t := by
  apply Nat.eq_of_testBit_eq
  intro k
  rw [Bool.eq_iff_iff, Nat.testBit_or, Bool.or_eq_true, dclose_bit hv hs, dclose_bit hv ht, dclose_bit hv (Nat.or_lt_two_pow hs ht)]
  constructor
  · rintro (h | ⟨i, h, hr⟩)
    · rw [Nat.testBit_or, Bool.or_eq_true] at h
      exact h.imp .inl .inl
    · rw [Nat.testBit_or, Bool.or_eq_true] at h
      exact h.imp (fun h => .inr ⟨i, h, hr⟩) (fun h => .inr ⟨i, h, hr⟩)
  · rintro ((h | ⟨i, h, hr⟩) | (h | ⟨i, h, hr⟩))
    · exact .inl (by rw [Nat.testBit_or, h]; rfl)
    · exact .inr ⟨i, by rw [Nat.testBit_or, h]; rfl, hr⟩
    · exact .inl (by rw [Nat.testBit_or, h]; simp)
    · exact .inr ⟨i, by rw [Nat.testBit_or, h]; simp, hr⟩
end Odr

theorem lattice_err1 (v : Value) (s t : Int) (c : Value) (w : World) (hT : Tab w)
    (hcs : ∀ w1, Below w.heap.size w w1 → Calls Tryd.prog 25 #[v, .int .i64 s] w1 fun e w' => e = .returned (.tuple #[.int .i64 0, .iface 56 c]) ∧ Below w1.heap.size w1 w')
    (hct : ∀ w1, Below w.heap.size w w1 → Calls Tryd.prog 25 #[v, .int .i64 t] w1 fun e w' => ∃ x y, e = .returned (.tuple #[.int .i64 x, y]) ∧ Below w1.heap.size w1 w') :
    Calls Tryd.prog 5 #[v, .int .i64 s, .int .i64 t] w fun e w' => e = .returned (.bool true) ∧ Below w.heap.size w w' := by
  go_enter Tryd.func5, Tryd.ntmps5
  go_wp2_with fail
  refine (downFact_calls w hT).mono ?_
  rintro e w1 ⟨rfl, hb1⟩
  go_wp2_with fail
  refine (hcs w1 hb1).mono ?_
  rintro e w2 ⟨rfl, hb2⟩
  have hb12 := hb1.trans (hb2.mono hb1.size)
  clear hcs
  go_wp2_with fail
  refine (hct w2 hb12).mono ?_
  rintro e w3 ⟨x, y, rfl, hb3⟩
  clear hct
  go_wp2_with fail
  go_ret
  exact ⟨rfl, hb12.trans (hb3.mono hb12.size)⟩
theorem lattice_err2 (v : Value) (s t : Int) (x : Nat) (c : Value) (w : World) (hT : Tab w)
    (hcs : ∀ w1, Below w.heap.size w w1 → Calls Tryd.prog 25 #[v, .int .i64 s] w1 fun e w' => e = .returned (.tuple #[nv x, .nilIface]) ∧ Below w1.heap.size w1 w')
    (hct : ∀ w1, Below w.heap.size w w1 → Calls Tryd.prog 25 #[v, .int .i64 t] w1 fun e w' => e = .returned (.tuple #[.int .i64 0, .iface 56 c]) ∧ Below w1.heap.size w1 w') :
    Calls Tryd.prog 5 #[v, .int .i64 s, .int .i64 t] w fun e w' => e = .returned (.bool true) ∧ Below w.heap.size w w' := by
  go_enter Tryd.func5, Tryd.ntmps5
  go_wp2_with fail
  refine (downFact_calls w hT).mono ?_
  rintro e w1 ⟨rfl, hb1⟩
  go_wp2_with fail
  refine (hcs w1 hb1).mono ?_
  rintro e w2 ⟨rfl, hb2⟩
  have hb12 := hb1.trans (hb2.mono hb1.size)
  clear hcs
  go_wp2_with fail
  refine (hct w2 hb12).mono ?_
  rintro e w3 ⟨rfl, hb3⟩
  clear hct
  cases h0 : ((x : Int) == 0) with
  | true =>
    go_wp2_with fail
    go_ret
    exact ⟨rfl, hb12.trans (hb3.mono hb12.size)⟩
  | false =>
    go_wp2_with fail
    go_ret
    exact ⟨rfl, hb12.trans (hb3.mono hb12.size)⟩

set_option maxHeartbeats 1000000 in
theorem lattice_ok (m : List Nat) (v : Value) (s t : Nat) (w : World) (hr : Ints w w.heap.size v (zs m)) (hv : Odr.Valid m) (hT : Tab w) (hs : s < 2 ^ m.length) (ht : t < 2 ^ m.length) :
    Calls Tryd.prog 5 #[v, nv s, nv t] w fun e w' => e = .returned (.bool true) ∧ Below w.heap.size w w' := by
  have h2n : 2 ^ m.length ≤ 4096 := show 2 ^ m.length ≤ 2 ^ 12 from Nat.pow_le_pow_right (by omega) hv.few
  have ha := Odr.dclose_lt m hs
  have hb := Odr.dclose_lt m ht
  have hda : Odr.dclose m (Odr.dclose m s &&& Odr.dclose m t) = Odr.dclose m s &&& Odr.dclose m t := Odr.dis_and hv ha hb (Odr.dis_dclose hv hs) (Odr.dis_dclose hv ht)
  have hdo : Odr.dclose m (Odr.dclose m s ||| Odr.dclose m t) = Odr.dclose m s ||| Odr.dclose m t := Odr.dis_or hv ha hb (Odr.dis_dclose hv hs) (Odr.dis_dclose hv ht)
  have hor := Odr.dclose_or hv hs ht
  have c1 := Lib.hid fun (w1 : World) (hb : Below w.heap.size w w1) => close_ok m v s w1 ((Rd.below hr hb).more hb.size) hv (hT.below hb) hs
  have c2 := Lib.hid fun (w1 : World) (hb : Below w.heap.size w w1) => close_ok m v t w1 ((Rd.below hr hb).more hb.size) hv (hT.below hb) ht
  have c3 := Lib.hid fun (w1 : World) (hb' : Below w.heap.size w w1) => is_ok m v (Odr.dclose m s &&& Odr.dclose m t) w1 ((Rd.below hr hb').more hb'.size) hv (hT.below hb') (Nat.and_lt_two_pow _ hb)
  have c4 := Lib.hid fun (w1 : World) (hb' : Below w.heap.size w w1) => is_ok m v (Odr.dclose m s ||| Odr.dclose m t) w1 ((Rd.below hr hb').more hb'.size) hv (hT.below hb') (Nat.or_lt_two_pow ha hb)
  have c5 := Lib.hid fun (w1 : World) (hb' : Below w.heap.size w w1) => close_ok m v (s ||| t) w1 ((Rd.below hr hb').more hb'.size) hv (hT.below hb') (Nat.or_lt_two_pow hs ht)
  have d1 := Lib.hid fun (w1 : World) => both_calls (Odr.dclose m s) (Odr.dclose m t) w1 (by omega) (by omega)
  have d2 := Lib.hid fun (w1 : World) => either_calls (Odr.dclose m s) (Odr.dclose m t) w1 (by omega) (by omega)
  have d3 := Lib.hid fun (w1 : World) => either_calls s t w1 (by omega) (by omega)
  rw [hda] at c3
  rw [hdo] at c4
  rw [hor] at c5
  simp only [decide_true] at c3 c4
  generalize Odr.dclose m s = a at *
  generalize Odr.dclose m t = b at *
  generalize a &&& b = y at *
  generalize a ||| b = z at *
  generalize s ||| t = u at *
  clear hda hdo hor ha hb hs ht hr hv h2n
  go_enter Tryd.func5, Tryd.ntmps5
  go_wp2_with fail
  refine (downFact_calls w hT).mono ?_
  rintro e w1 ⟨rfl, hb1⟩
  clear hT
  go_wp2_with fail
  refine (c1.out w1 hb1).mono ?_
  rintro e w2 ⟨rfl, hb2⟩
  have hb12 := hb1.trans (hb2.mono hb1.size)
  clear c1 hb1 hb2
  go_wp2_with fail
  refine (c2.out w2 hb12).mono ?_
  rintro e w3 ⟨rfl, hb3⟩
  have hb13 := hb12.trans (hb3.mono hb12.size)
  clear c2 hb12 hb3
  go_wp2_with fail
  refine (d1.out w3).mono ?_
  rintro e w3' ⟨rfl, rfl⟩
  clear d1
  go_wp2_with fail
  refine (c3.out w3 hb13).mono ?_
  rintro e w4 ⟨rfl, hb4⟩
  have hb14 := hb13.trans (hb4.mono hb13.size)
  clear c3 hb13 hb4
  go_wp2_with fail
  have d2' := Lib.hid (d2.out w4)
  refine (d2.out w4).mono ?_
  rintro e w4' ⟨rfl, rfl⟩
  clear d2'
  go_wp2_with fail
  refine (c4.out w4 hb14).mono ?_
  rintro e w5 ⟨rfl, hb5⟩
  have hb15 := hb14.trans (hb5.mono hb14.size)
  clear c4 hb14 hb5
  go_wp2_with fail
  refine (d3.out w5).mono ?_
  rintro e w5' ⟨rfl, rfl⟩
  clear d3
  go_wp2_with fail
  refine (c5.out w5 hb15).mono ?_
  rintro e w6 ⟨rfl, hb6⟩
  have hb16 := hb15.trans (hb6.mono hb15.size)
  clear c5 hb15 hb6
  go_wp2_with fail
  refine (d2.out w6).mono ?_
  rintro e w6' ⟨rfl, rfl⟩
  clear d2
  go_wp2_with fail
  go_ret
  exact ⟨by simp, hb16⟩

/-- the law at every input -/
theorem lattice_calls (l : List Int) (v : Value) (s t : Int) (w : World) (hr : Ints w w.heap.size v l) (hT : Tab w) :
    Calls Tryd.prog 5 #[v, .int .i64 s, .int .i64 t] w fun e w' => e = .returned (.bool true) ∧ Below w.heap.size w w' := by
  by_cases h : orderCode l = 0
  · obtain ⟨m, rfl, hv⟩ := orderCode_zero h
    by_cases hs : 0 ≤ s ∧ s < 2 ^ m.length
    · obtain ⟨s, rfl, hs2⟩ := natOf hs
      by_cases ht : 0 ≤ t ∧ t < 2 ^ m.length
      · obtain ⟨t, rfl, ht2⟩ := natOf ht
        exact lattice_ok m v s t w hr hv hT hs2 ht2
      · exact lattice_err2 v s t _ _ w hT (fun w1 hb => close_ok m v s w1 ((Rd.below hr hb).more hb.size) hv (hT.below hb) hs2) (fun w1 hb => close_mask m v t w1 ((Rd.below hr hb).more hb.size) hv (hT.below hb) ht)
    · refine lattice_err1 v s t _ w hT (fun w1 hb => close_mask m v s w1 ((Rd.below hr hb).more hb.size) hv (hT.below hb) hs) (fun w1 hb => ?_)
      by_cases ht : 0 ≤ t ∧ t < 2 ^ m.length
      · obtain ⟨t, rfl, ht2⟩ := natOf ht
        exact (close_ok m v t w1 ((Rd.below hr hb).more hb.size) hv (hT.below hb) ht2).mono fun e w' ⟨h1, h2⟩ => ⟨_, _, h1, h2⟩
      · exact (close_mask m v t w1 ((Rd.below hr hb).more hb.size) hv (hT.below hb) ht).mono fun e w' ⟨h1, h2⟩ => ⟨_, _, h1, h2⟩
  · exact lattice_err1 v s t _ w hT (fun w1 hb => close_err l v s w1 ((Rd.below hr hb).more hb.size) h) (fun w1 hb => (close_err l v t w1 ((Rd.below hr hb).more hb.size) h).mono fun e w' ⟨h1, h2⟩ => ⟨_, _, h1, h2⟩)

end Go.Proofs.YtpicjikjinkkpaaDoor
