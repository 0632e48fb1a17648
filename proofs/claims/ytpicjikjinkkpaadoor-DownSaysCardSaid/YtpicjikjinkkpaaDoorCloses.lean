/- DownCloses at every input: closed is closed. Conditions: the row's own. -/
import Derived.Test.YtpicjikjinkkpaaDoorCount
import Derived.Test.YtpicjikjinkkpaaDoorSub
namespace Go.Proofs.YtpicjikjinkkpaaDoor
open Go.RowKit

theorem downFact_calls (w : World) (hT : Tab w) : Calls Tryd.prog 24 #[] w fun e w' => e = .returned (.bool true) ∧ Below w.heap.size w w' := by
  have hv : Odr.Valid [2, 4, 0] := (valid_iff (by decide) (by unfold Odr.Fits; decide)).1 (by decide)
  have hc : Odr.dclose [2, 4, 0] 4 = 7 := by decide
  have hd : Odr.downs [2, 4, 0] = 4 := by decide
  go_enter Tryd.func24, Tryd.ntmps24
  have hl := Ints.lit w (zs [2, 4, 0]) 3 (by decide)
  obtain ⟨w1, hw1⟩ : ∃ w1, w.alloc (.cells #[.int .i64 2, .int .i64 4, .int .i64 0] 3) = w1 := ⟨_, rfl⟩
  have hb1 : Below w.heap.size w w1 := by rw [← hw1]; exact (Below.refl _ _).alloc (Nat.le_refl _) _
  have hl' : Ints w1 w1.heap.size (.slice (some ⟨w.heap.size, 0, none⟩) 3 3) (zs [2, 4, 0]) := by rw [← hw1]; simp only [World.size_alloc]; exact hl
  have hbe := Lib.hid (close_ok [2, 4, 0] _ 4 w1 hl' hv (hT.below hb1) (by decide))
  rw [hc] at hbe
  have HW1 := Lib.hid hw1
  have HT := Lib.hid hT
  have HV := Lib.hid hv
  have HD := Lib.hid hd
  clear hl hl' hv hc hw1 hT hd
  go_wp2_with fail
  rw [HW1.out]
  refine hbe.out.mono ?_
  rintro e w2 ⟨rfl, hb2⟩
  have hb12 := hb1.trans (hb2.mono hb1.size)
  have hl3 := Ints.lit w2 (zs [2, 4, 0]) 3 (by decide)
  obtain ⟨w3, hw3⟩ : ∃ w3, w2.alloc (.cells #[.int .i64 2, .int .i64 4, .int .i64 0] 3) = w3 := ⟨_, rfl⟩
  have hb3 : Below w2.heap.size w2 w3 := by rw [← hw3]; exact (Below.refl _ _).alloc (Nat.le_refl _) _
  have hl3' : Ints w3 w3.heap.size (.slice (some ⟨w2.heap.size, 0, none⟩) 3 3) (zs [2, 4, 0]) := by rw [← hw3]; simp only [World.size_alloc]; exact hl3
  have hb13 := hb12.trans (hb3.mono hb12.size)
  have hi := Lib.hid (count_ok [2, 4, 0] _ w3 hl3' HV.out (HT.out.below hb13))
  rw [HD.out] at hi
  have HW3 := Lib.hid hw3
  clear hbe hl3 hl3' hw3
  go_wp2_with fail
  rw [HW3.out]
  refine hi.out.mono ?_
  rintro e w4 ⟨rfl, hb4⟩
  clear hi
  go_wp2_with fail
  go_ret
  exact ⟨rfl, hb13.trans (hb4.mono hb13.size)⟩

theorem closes_err (v : Value) (s t : Int) (c : Value) (w : World) (hT : Tab w)
    (hcl : ∀ w1, Below w.heap.size w w1 → Calls Tryd.prog 25 #[v, .int .i64 s] w1 fun e w' => e = .returned (.tuple #[.int .i64 0, .iface 56 c]) ∧ Below w1.heap.size w1 w') :
    Calls Tryd.prog 4 #[v, .int .i64 s, .int .i64 t] w fun e w' => e = .returned (.bool true) ∧ Below w.heap.size w w' := by
  go_enter Tryd.func4, Tryd.ntmps4
  go_wp2_with fail
  refine (downFact_calls w hT).mono ?_
  rintro e w1 ⟨rfl, hb1⟩
  have h := Lib.hid (hcl w1 hb1)
  clear hcl
  go_wp2_with fail
  refine h.out.mono ?_
  rintro e w2 ⟨rfl, hb2⟩
  clear h
  go_wp2_with fail
  go_ret
  exact ⟨rfl, hb1.trans (hb2.mono hb1.size)⟩

theorem natOf {s : Int} {n : Nat} (h : 0 ≤ s ∧ s < 2 ^ n) : ∃ k : Nat, s = (k : Int) ∧ k < 2 ^ n := by
  obtain ⟨k, rfl⟩ := Int.eq_ofNat_of_zero_le h.1
  refine ⟨k, rfl, ?_⟩
  have h2 := h.2
  rw [show (2 : Int) ^ n = ((2 ^ n : Nat) : Int) by rw [Int.natCast_pow]; rfl] at h2
  omega

set_option maxHeartbeats 1000000 in
theorem closes_ok (m : List Nat) (v : Value) (s : Nat) (t : Int) (w : World) (hr : Ints w w.heap.size v (zs m)) (hv : Odr.Valid m) (hT : Tab w) (hs : s < 2 ^ m.length) :
    Calls Tryd.prog 4 #[v, nv s, .int .i64 t] w fun e w' => e = .returned (.bool true) ∧ Below w.heap.size w w' := by
  have h2n : 2 ^ m.length ≤ 4096 := show 2 ^ m.length ≤ 2 ^ 12 from Nat.pow_le_pow_right (by omega) hv.few
  have hx := Odr.dclose_lt m hs
  have hdd : decide (Odr.dclose m (Odr.dclose m s) = Odr.dclose m s) = true := decide_eq_true (Odr.dis_dclose hv hs)
  have hsub : decide (Odr.diff s (Odr.dclose m s) = 0) = true := decide_eq_true ((Odr.sub_iff _ _).1 (Odr.sub_dclose hv hs))
  have hleast : ∀ y, y < 2 ^ m.length → Odr.dclose m y = y → Odr.diff s y = 0 → Odr.diff (Odr.dclose m s) y = 0 := fun y hy h1 h2 => (Odr.sub_iff _ _).1 (Odr.dclose_least hv hs hy h1 ((Odr.sub_iff _ _).2 h2))
  have HL := Lib.hid hleast
  have HV := Lib.hid hv
  have HT := Lib.hid hT
  have HR := Lib.hid hr
  have HX := Lib.hid hx
  have HH := Lib.hid h2n
  have hcl := fun (w1 : World) (hb : Below w.heap.size w w1) => close_ok m v s w1 ((Rd.below hr hb).more hb.size) hv (hT.below hb) hs
  have HCL := Lib.hid hcl
  obtain ⟨x, hxe⟩ : ∃ x, x = Odr.dclose m s := ⟨_, rfl⟩
  rw [← hxe] at hdd hsub HL HX HCL
  have his := fun (w1 : World) (hb : Below w.heap.size w w1) => is_ok m v x w1 ((Rd.below hr hb).more hb.size) hv (hT.below hb) HX.out
  rw [hdd] at his
  have HIS := Lib.hid his
  have HW := Lib.hid (fun (w1 : World) => sub_calls s x w1 (by omega) (by have := HX.out; omega))
  rw [hsub] at HW
  clear hx hdd hsub hleast hcl hr hv hxe his
  go_enter Tryd.func4, Tryd.ntmps4
  go_wp2_with fail
  refine (downFact_calls w hT).mono ?_
  rintro e w1 ⟨rfl, hb1⟩
  clear hT
  go_wp2_with fail
  refine (HCL.out w1 hb1).mono ?_
  rintro e w2 ⟨rfl, hb2⟩
  have hb12 := hb1.trans (hb2.mono hb1.size)
  clear HCL hb1 hb2
  go_wp2_with fail
  refine (HIS.out w2 hb12).mono ?_
  rintro e w3 ⟨rfl, hb3⟩
  have hb13 := hb12.trans (hb3.mono hb12.size)
  clear HIS hb12 hb3
  go_wp2_with fail
  refine (HW.out w3).mono ?_
  rintro e w3' ⟨rfl, rfl⟩
  clear HW
  by_cases ht : 0 ≤ t ∧ t < 2 ^ m.length
  · obtain ⟨t, rfl, ht2⟩ := natOf ht
    clear ht
    have hi := Lib.hid (is_ok m v t w3 ((Rd.below HR.out hb13).more hb13.size) HV.out (HT.out.below hb13) ht2)
    have htb : t < 2 ^ 62 := by have := HH.out; omega
    have hsb : s < 2 ^ 62 := by have := HH.out; omega
    have hxb : x < 2 ^ 62 := by have := HH.out; have := HX.out; omega
    have hl := Lib.hid (HL.out t ht2)
    clear HL
    by_cases hd : Odr.dclose m t = t
    · rw [decide_eq_true hd] at hi
      have HD := Lib.hid hd
      clear hd
      go_wp2_with fail
      refine hi.out.mono ?_
      rintro e w4 ⟨rfl, hb4⟩
      clear hi
      by_cases hst : Odr.diff s t = 0
      · have h1 := Lib.hid (sub_calls s t w4 hsb htb)
        rw [decide_eq_true hst] at h1
        have h2 := Lib.hid (sub_calls x t w4 hxb htb)
        rw [decide_eq_true (hl.out HD.out hst)] at h2
        clear hst
        go_wp2_with fail
        refine h1.out.mono ?_
        rintro e w5 ⟨rfl, rfl⟩
        clear h1
        go_wp2_with fail
        refine h2.out.mono ?_
        rintro e w5 ⟨rfl, rfl⟩
        clear h2
        go_wp2_with fail
        go_ret
        exact ⟨rfl, hb13.trans (hb4.mono hb13.size)⟩
      · have h1 := Lib.hid (sub_calls s t w4 hsb htb)
        rw [decide_eq_false hst] at h1
        clear hst
        go_wp2_with fail
        refine h1.out.mono ?_
        rintro e w5 ⟨rfl, rfl⟩
        clear h1
        go_wp2_with fail
        go_ret
        exact ⟨rfl, hb13.trans (hb4.mono hb13.size)⟩
    · rw [decide_eq_false hd] at hi
      clear hd
      go_wp2_with fail
      refine hi.out.mono ?_
      rintro e w4 ⟨rfl, hb4⟩
      clear hi
      go_wp2_with fail
      go_ret
      exact ⟨rfl, hb13.trans (hb4.mono hb13.size)⟩
  · have hi := Lib.hid (is_mask m v t w3 ((Rd.below HR.out hb13).more hb13.size) HV.out (HT.out.below hb13) ht)
    clear ht
    go_wp2_with fail
    refine hi.out.mono ?_
    rintro e w4 ⟨rfl, hb4⟩
    clear hi
    go_wp2_with fail
    go_ret
    exact ⟨rfl, hb13.trans (hb4.mono hb13.size)⟩

/-- the law at every input -/
theorem closes_calls (l : List Int) (v : Value) (s t : Int) (w : World) (hr : Ints w w.heap.size v l) (hT : Tab w) :
    Calls Tryd.prog 4 #[v, .int .i64 s, .int .i64 t] w fun e w' => e = .returned (.bool true) ∧ Below w.heap.size w w' := by
  by_cases h : orderCode l = 0
  · obtain ⟨m, rfl, hv⟩ := orderCode_zero h
    by_cases hs : 0 ≤ s ∧ s < 2 ^ m.length
    · obtain ⟨s, rfl, hs2⟩ := natOf hs
      exact closes_ok m v s t w hr hv hT hs2
    · exact closes_err v s t _ w hT (fun w1 hb => close_mask m v s w1 ((Rd.below hr hb).more hb.size) hv (hT.below hb) hs)
  · exact closes_err v s t _ w hT (fun w1 hb => close_err l v s w1 ((Rd.below hr hb).more hb.size) h)

end Go.Proofs.YtpicjikjinkkpaaDoor
