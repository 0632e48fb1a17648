/- ExtendParts at every input: either way, and not both. Conditions: the row's own. -/
import Derived.Test.YtpicjikjinkkpaaDoorExtW
namespace Go.Proofs.YtpicjikjinkkpaaDoor
open Go.RowKit

/-- a list of three numbers that a function lays down reads as such -/
theorem lay3 (w : World) (a b c : Int) : ∃ w1, w.alloc (.cells #[.int .i64 a, .int .i64 b, .int .i64 c] 3) = w1 ∧ Below w.heap.size w w1 ∧ Ints w1 w1.heap.size (.slice (some ⟨w.heap.size, 0, none⟩) 3 3) [a, b, c] := by
  refine ⟨_, rfl, (Below.refl _ _).alloc (Nat.le_refl _) _, ?_⟩
  have hl := Ints.lit w [a, b, c] 3 (by simp [maxLen])
  simp only [World.size_alloc]
  exact hl

theorem with_yes (m : List Nat) (v : Value) (a b : Nat) (w : World) (hr : Ints w w.heap.size v (zs m)) (hv : Odr.Valid m) (ha : a < m.length) (hb : b < m.length) (h : irrOk (Odr.more m a b)) :
    Calls Tryd.prog 32 #[v, nv a, nv b] w fun e w' => ∃ v', e = .returned (.tuple #[v', .nilIface]) ∧ Own w' w.heap.size v' (zs (Odr.closed (Odr.more m a b))) ∧ Below w.heap.size w w' :=
  (with_ok m v a b w hr hv ha hb).mono fun _ _ ⟨h1, h2⟩ => by
    rcases h2 with ⟨_, v', h3, h4⟩ | ⟨h3, _⟩
    · exact ⟨v', h3, h4, h1⟩
    · exact absurd h h3
theorem with_no (m : List Nat) (v : Value) (a b : Nat) (w : World) (hr : Ints w w.heap.size v (zs m)) (hv : Odr.Valid m) (ha : a < m.length) (hb : b < m.length) (h : ¬ irrOk (Odr.more m a b)) :
    Calls Tryd.prog 32 #[v, nv a, nv b] w fun e w' => e = .returned (.tuple #[.slice none 0 0, .iface 56 (.int .i64 6)]) ∧ Below w.heap.size w w' :=
  (with_ok m v a b w hr hv ha hb).mono fun _ _ ⟨h1, h2⟩ => by
    rcases h2 with ⟨h3, _⟩ | ⟨_, h3⟩
    · exact absurd h3 h
    · exact ⟨h3, h1⟩
theorem noRing_iff {m : List Nat} (hv : Odr.Valid m) {a b : Nat} (hb : b < m.length) : irrOk (Odr.more m a b) ↔ Odr.noRing (Odr.more m a b) := by
  have hf := hv.fits.more (a := a) hb
  have hl : (Odr.more m a b).length ≤ 12 := by rw [Odr.length_more]; exact hv.few
  rw [valid_iff hl hf]
  exact ⟨fun h => h.irr, fun h => ⟨hl, hf, h⟩⟩
theorem side_yes {m : List Nat} (hv : Odr.Valid m) {a b : Nat} (ha : a < m.length) (hb : b < m.length) (h : irrOk (Odr.more m a b)) :
    Odr.Valid (Odr.closed (Odr.more m a b)) ∧ (Odr.rows (Odr.closed (Odr.more m a b))).length = Odr.aheads m a b ∧ 0 < Odr.aheads m a b := by
  obtain ⟨h1, h2⟩ := Odr.rows_more hv ha hb ((noRing_iff hv hb).1 h)
  refine ⟨h1, h2, ?_⟩
  rw [show Odr.aheads m a b = _ from h2.symm]
  exact Odr.rows_pos h1
theorem side_no {m : List Nat} (hv : Odr.Valid m) {a b : Nat} (ha : a < m.length) (hb : b < m.length) (hab : a ≠ b) (h : ¬ irrOk (Odr.more m a b)) : Odr.aheads m a b = 0 :=
  Odr.rows_ring hv ha hab (fun g => h ((noRing_iff hv hb).2 g))
theorem rows_bound {m : List Nat} (hv : Odr.Valid m) : (Odr.rows m).length ≤ 479001600 := by
  rw [← Odr.ways_rows]
  have := Nat.two_pow_pos m.length
  exact Odr.ways_bound hv.few (by omega)
theorem ecount_rows (m : List Nat) (v : Value) (w : World) (hr : Ints w w.heap.size v (zs m)) (hv : Odr.Valid m) (hT : Tab w) :
    Calls Tryd.prog 31 #[v] w fun e w' => e = .returned (.tuple #[nv (Odr.rows m).length, .nilIface]) ∧ Below w.heap.size w w' := by
  rw [← Odr.ways_rows]
  exact ecount_ok m v w hr hv hT

theorem extendFact_calls (w : World) (hT : Tab w) : Calls Tryd.prog 30 #[] w fun e w' => e = .returned (.bool true) ∧ Below w.heap.size w w' := by
  have hv : Odr.Valid [4, 4, 0] := (valid_iff (by decide) (by unfold Odr.Fits; decide)).1 (by decide)
  have hv2 : Odr.Valid [0, 0, 2] := (valid_iff (by decide) (by unfold Odr.Fits; decide)).1 (by decide)
  have hc : (Odr.rows [4, 4, 0]).length = 2 := by decide +kernel
  have hd : Odr.firstRow [0, 0, 2] = [0, 2, 1] := by decide +kernel
  obtain ⟨w1, hw1, hb1, hl1⟩ := lay3 w 4 4 0
  have hbe := Lib.hid (ecount_rows [4, 4, 0] _ w1 hl1 hv (hT.below hb1))
  rw [hc] at hbe
  have HW1 := Lib.hid hw1
  have HT := Lib.hid hT
  have HV := Lib.hid hv2
  have HD := Lib.hid hd
  clear hl1 hv hc hw1 hT hd hv2
  go_enter Tryd.func30, Tryd.ntmps30
  go_wp2_with fail
  rw [HW1.out]
  refine hbe.out.mono ?_
  rintro e w2 ⟨rfl, hb2⟩
  have hb12 := hb1.trans (hb2.mono hb1.size)
  obtain ⟨w3, hw3, hb3, hl3⟩ := lay3 w2 0 0 2
  have hb13 := hb12.trans (hb3.mono hb12.size)
  have hi := Lib.hid (first_ok [0, 0, 2] _ w3 hl3 HV.out (HT.out.below hb13))
  rw [HD.out] at hi
  have HW3 := Lib.hid hw3
  clear hbe hl3 hw3
  go_wp2_with fail
  rw [HW3.out]
  refine hi.out.mono ?_
  rintro e w4 ⟨v4, rfl, hown, hb4⟩
  have hb14 := hb13.trans (hb4.mono hb13.size)
  obtain ⟨w5, hw5, hb5, hl5⟩ := lay3 w4 0 2 1
  have hj := Lib.hid (ints_calls v4 _ _ _ w5.heap.size w5 (Nat.le_refl _) ((Rd.below hown.ints hb5).more hb5.size) hl5)
  have hb15 := hb14.trans (hb5.mono hb14.size)
  have HW5 := Lib.hid hw5
  clear hi hl5 hw5 hown
  go_wp2_with fail
  rw [HW5.out]
  refine hj.out.mono ?_
  rintro e w6 ⟨rfl, hb6⟩
  clear hj
  go_wp2_with fail
  go_ret
  exact ⟨rfl, hb15.trans (hb6.mono hb15.size)⟩

theorem parts_err (l : List Int) (v : Value) (a b : Int) (w : World) (hr : Ints w w.heap.size v l) (hne : orderCode l ≠ 0) (hT : Tab w) :
    Calls Tryd.prog 6 #[v, .int .i64 a, .int .i64 b] w fun e w' => e = .returned (.bool true) ∧ Below w.heap.size w w' := by
  go_enter Tryd.func6, Tryd.ntmps6
  go_wp2_with fail
  refine (extendFact_calls w hT).mono ?_
  rintro e w1 ⟨rfl, hb1⟩
  have hbe := Lib.hid (ecount_err l v w1 ((Rd.below hr hb1).more hb1.size) hne)
  clear hr
  go_wp2_with fail
  refine hbe.out.mono ?_
  rintro e w2 ⟨rfl, hb2⟩
  clear hbe
  go_wp2_with fail
  go_ret
  exact ⟨rfl, hb1.trans (hb2.mono hb1.size)⟩
set_option maxHeartbeats 2000000 in
theorem parts_out (m : List Nat) (v : Value) (a b : Int) (w : World) (hr : Ints w w.heap.size v (zs m)) (hv : Odr.Valid m) (hT : Tab w)
    (hout : a < 0 ∨ (0 ≤ a ∧ (m.length : Int) ≤ a) ∨ (0 ≤ a ∧ a < m.length ∧ b < 0) ∨ (0 ≤ a ∧ a < m.length ∧ 0 ≤ b ∧ (m.length : Int) ≤ b) ∨ (0 ≤ a ∧ a < m.length ∧ 0 ≤ b ∧ b < m.length ∧ a = b)) :
    Calls Tryd.prog 6 #[v, .int .i64 a, .int .i64 b] w fun e w' => e = .returned (.bool true) ∧ Below w.heap.size w w' := by
  have hfew := hv.few
  obtain ⟨A, cap, rfl⟩ := Rd.val hr
  have hlz : (zs m).length = m.length := by simp
  rw [hlz] at hr ⊢
  have hbe := Lib.hid fun (w1 : World) (hb : Below w.heap.size w w1) => ecount_rows m (.slice A m.length cap) w1 ((Rd.below hr hb).more hb.size) hv (hT.below hb)
  clear hr hv
  generalize m.length = n at *
  rcases hout with h | ⟨h1, h⟩ | ⟨h1, h2, h⟩ | ⟨h1, h2, h3, h⟩ | ⟨h1, h2, h3, h4, rfl⟩
  all_goals
    go_enter Tryd.func6, Tryd.ntmps6
    go_wp2_with fail
    refine (extendFact_calls w hT).mono ?_
    rintro e w1 ⟨rfl, hb1⟩
    go_wp2_with fail
    refine (hbe.out w1 hb1).mono ?_
    rintro e w2 ⟨rfl, hb2⟩
    clear hbe
    go_wp2_with fail
    go_ret
    exact ⟨rfl, hb1.trans (hb2.mono hb1.size)⟩
set_option maxHeartbeats 4000000 in
theorem parts_ok (m : List Nat) (v : Value) (a b : Nat) (w : World) (hr : Ints w w.heap.size v (zs m)) (hv : Odr.Valid m) (hT : Tab w) (ha : a < m.length) (hb : b < m.length) (hab : a ≠ b) :
    Calls Tryd.prog 6 #[v, nv a, nv b] w fun e w' => e = .returned (.bool true) ∧ Below w.heap.size w w' := by
  have hfew := hv.few
  obtain ⟨A, cap, rfl⟩ := Rd.val hr
  have hlz : (zs m).length = m.length := by simp
  rw [hlz] at hr ⊢
  have hbe := Lib.hid fun (w1 : World) (hb : Below w.heap.size w w1) => ecount_rows m (.slice A m.length cap) w1 ((Rd.below hr hb).more hb.size) hv (hT.below hb)
  have hwy := Lib.hid fun (a b : Nat) (w1 : World) (hb : Below w.heap.size w w1) => with_yes m (.slice A m.length cap) a b w1 ((Rd.below hr hb).more hb.size) hv
  have hwn := Lib.hid fun (a b : Nat) (w1 : World) (hb : Below w.heap.size w w1) => with_no m (.slice A m.length cap) a b w1 ((Rd.below hr hb).more hb.size) hv
  have hsum := Odr.aheads_both hv ha hab
  have hbd := rows_bound hv
  have hpos := Odr.rows_pos hv
  have hsy := Lib.hid fun (a b : Nat) (ha : a < m.length) (hb : b < m.length) (h : irrOk (Odr.more m a b)) => side_yes hv ha hb h
  have hsn := Lib.hid fun (a b : Nat) (ha : a < m.length) (hb : b < m.length) (hab : a ≠ b) (h : ¬ irrOk (Odr.more m a b)) => side_no hv ha hb hab h
  have HT := Lib.hid hT
  have hne : ((a : Int) == (b : Int)) = false := by simp; omega
  clear hr hv hT
  by_cases h1 : irrOk (Odr.more m a b)
  · obtain ⟨y1, y2, y3⟩ := hsy.out a b ha hb h1
    by_cases h2 : irrOk (Odr.more m b a)
    · obtain ⟨z1, z2, z3⟩ := hsy.out b a hb ha h2
      generalize Odr.aheads m a b = X at *
      generalize Odr.aheads m b a = Y at *
      have Y2 := Lib.hid y2
      have Z2 := Lib.hid z2
      have Y1 := Lib.hid y1
      have Z1 := Lib.hid z1
      have hX : X ≤ 479001600 := by omega
      have hY : Y ≤ 479001600 := by omega
      have hs2 : ((X : Int) + (Y : Int) == ((Odr.rows m).length : Int)) = true := by simp; omega
      have hW1 := Lib.hid fun (w1 : World) hb' => hwy.out a b w1 hb' ha hb h1
      have hW2 := Lib.hid fun (w1 : World) hb' => hwy.out b a w1 hb' hb ha h2
      clear hsy hsn hwy hwn y1 y2 z1 z2 h1 h2 hab hsum
      go_enter Tryd.func6, Tryd.ntmps6
      go_wp2_with fail
      refine (extendFact_calls w HT.out).mono ?_
      rintro e w1 ⟨rfl, hb1⟩
      go_wp2_with fail
      refine (hbe.out w1 hb1).mono ?_
      rintro e w2 ⟨rfl, hb2⟩
      have hb12 := hb1.trans (hb2.mono hb1.size)
      clear hbe hb1 hb2
      go_wp2_with fail
      refine (hW1.out w2 hb12).mono ?_
      rintro e w3 ⟨v3, rfl, ho3, hb3⟩
      have hb13 := hb12.trans (hb3.mono hb12.size)
      have hC3 := Lib.hid (ecount_rows _ v3 w3 ho3.ints Y1.out (HT.out.below hb13))
      rw [Y2.out] at hC3
      clear hb12 hb3 hW1 ho3
      go_wp2_with fail
      refine hC3.out.mono ?_
      rintro e w4 ⟨rfl, hb4⟩
      have hb14 := hb13.trans (hb4.mono hb13.size)
      clear hb13 hb4 hC3
      go_wp2_with fail
      refine (hW2.out w4 hb14).mono ?_
      rintro e w5 ⟨v5, rfl, ho5, hb5⟩
      have hb15 := hb14.trans (hb5.mono hb14.size)
      have hC5 := Lib.hid (ecount_rows _ v5 w5 ho5.ints Z1.out (HT.out.below hb15))
      rw [Z2.out] at hC5
      clear hb14 hb5 hW2 ho5
      go_wp2_with fail
      refine hC5.out.mono ?_
      rintro e w6 ⟨rfl, hb6⟩
      clear hC5
      go_wp2_with fail
      go_ret
      exact ⟨rfl, hb15.trans (hb6.mono hb15.size)⟩
    · have z0 := hsn.out b a hb ha (fun e => hab e.symm) h2
      rw [z0] at hsum
      have hW1 := Lib.hid fun (w1 : World) hb' => hwy.out a b w1 hb' ha hb h1
      have hW2 := Lib.hid fun (w1 : World) hb' => hwn.out b a w1 hb' hb ha h2
      generalize Odr.aheads m a b = X at *
      have Y2 := Lib.hid y2
      have Y1 := Lib.hid y1
      have hX : X ≤ 479001600 := by omega
      have hs2 : ((X : Int) == ((Odr.rows m).length : Int)) = true := by simp; omega
      clear hsy hsn hwy hwn y1 y2 h1 h2 hab hsum z0
      go_enter Tryd.func6, Tryd.ntmps6
      go_wp2_with fail
      refine (extendFact_calls w HT.out).mono ?_
      rintro e w1 ⟨rfl, hb1⟩
      go_wp2_with fail
      refine (hbe.out w1 hb1).mono ?_
      rintro e w2 ⟨rfl, hb2⟩
      have hb12 := hb1.trans (hb2.mono hb1.size)
      clear hbe hb1 hb2
      go_wp2_with fail
      refine (hW1.out w2 hb12).mono ?_
      rintro e w3 ⟨v3, rfl, ho3, hb3⟩
      have hb13 := hb12.trans (hb3.mono hb12.size)
      have hC3 := Lib.hid (ecount_rows _ v3 w3 ho3.ints Y1.out (HT.out.below hb13))
      rw [Y2.out] at hC3
      clear hb12 hb3 hW1 ho3
      go_wp2_with fail
      refine hC3.out.mono ?_
      rintro e w4 ⟨rfl, hb4⟩
      have hb14 := hb13.trans (hb4.mono hb13.size)
      clear hb13 hb4 hC3
      go_wp2_with fail
      refine (hW2.out w4 hb14).mono ?_
      rintro e w5 ⟨rfl, hb5⟩
      clear hW2
      go_wp2_with fail
      go_ret
      exact ⟨rfl, hb14.trans (hb5.mono hb14.size)⟩
  · have y0 := hsn.out a b ha hb hab h1
    rw [y0] at hsum
    have h2 : irrOk (Odr.more m b a) := Classical.byContradiction fun h2 => by
      have := hsn.out b a hb ha (fun e => hab e.symm) h2
      omega
    obtain ⟨z1, z2, z3⟩ := hsy.out b a hb ha h2
    have hW1 := Lib.hid fun (w1 : World) hb' => hwn.out a b w1 hb' ha hb h1
    have hW2 := Lib.hid fun (w1 : World) hb' => hwy.out b a w1 hb' hb ha h2
    generalize Odr.aheads m b a = Y at *
    have Z2 := Lib.hid z2
    have Z1 := Lib.hid z1
    have hY : Y ≤ 479001600 := by omega
    have hs2 : ((Y : Int) == ((Odr.rows m).length : Int)) = true := by simp; omega
    clear hsy hsn hwy hwn z1 z2 h1 h2 hab hsum y0
    go_enter Tryd.func6, Tryd.ntmps6
    go_wp2_with fail
    refine (extendFact_calls w HT.out).mono ?_
    rintro e w1 ⟨rfl, hb1⟩
    go_wp2_with fail
    refine (hbe.out w1 hb1).mono ?_
    rintro e w2 ⟨rfl, hb2⟩
    have hb12 := hb1.trans (hb2.mono hb1.size)
    clear hbe hb1 hb2
    go_wp2_with fail
    refine (hW1.out w2 hb12).mono ?_
    rintro e w3 ⟨rfl, hb3⟩
    have hb13 := hb12.trans (hb3.mono hb12.size)
    clear hb12 hb3 hW1
    go_wp2_with fail
    refine (hW2.out w3 hb13).mono ?_
    rintro e w5 ⟨v5, rfl, ho5, hb5⟩
    have hb15 := hb13.trans (hb5.mono hb13.size)
    have hC5 := Lib.hid (ecount_rows _ v5 w5 ho5.ints Z1.out (HT.out.below hb15))
    rw [Z2.out] at hC5
    clear hb13 hb5 hW2 ho5
    go_wp2_with fail
    refine hC5.out.mono ?_
    rintro e w6 ⟨rfl, hb6⟩
    clear hC5
    go_wp2_with fail
    go_ret
    exact ⟨rfl, hb15.trans (hb6.mono hb15.size)⟩

/-- the law at every input -/
theorem parts_calls (l : List Int) (v : Value) (a b : Int) (w : World) (hr : Ints w w.heap.size v l) (hT : Tab w) :
    Calls Tryd.prog 6 #[v, .int .i64 a, .int .i64 b] w fun e w' => e = .returned (.bool true) ∧ Below w.heap.size w w' := by
  by_cases h : orderCode l = 0
  · obtain ⟨m, rfl, hv⟩ := orderCode_zero h
    by_cases hg : (0 ≤ a ∧ a < m.length) ∧ (0 ≤ b ∧ b < m.length) ∧ a ≠ b
    · obtain ⟨⟨h1, h2⟩, ⟨h3, h4⟩, h5⟩ := hg
      obtain ⟨a, rfl⟩ := Int.eq_ofNat_of_zero_le h1
      obtain ⟨b, rfl⟩ := Int.eq_ofNat_of_zero_le h3
      exact parts_ok m v a b w hr hv hT (by omega) (by omega) (by omega)
    · exact parts_out m v a b w hr hv hT (by omega)
  · exact parts_err l v a b w hr h hT

end Go.Proofs.YtpicjikjinkkpaaDoor
