/- DownCount at every input: as many as sets side by side. Conditions: the row's own. -/
import Derived.Test.YtpicjikjinkkpaaDoorDownN
import Derived.Test.YtpicjikjinkkpaaDoorMore
import Derived.Test.YtpicjikjinkkpaaDoorCloses
namespace Go.Proofs.YtpicjikjinkkpaaDoor
open Go.RowKit

theorem dcount_err (l : List Int) (v : Value) (a b : Int) (w : World) (hr : Ints w w.heap.size v l) (hne : orderCode l ≠ 0) (hT : Tab w) :
    Calls Tryd.prog 13 #[v, .int .i64 a, .int .i64 b] w fun e w' => e = .returned (.bool true) ∧ Below w.heap.size w w' := by
  go_enter Tryd.func13, Tryd.ntmps13
  go_wp2_with fail
  refine (downFact_calls w hT).mono ?_
  rintro e w1 ⟨rfl, hb1⟩
  have hbe := Lib.hid (count_err l v w1 ((Rd.below hr hb1).more hb1.size) hne)
  go_wp2_with fail
  refine hbe.out.mono ?_
  rintro e w2 ⟨rfl, hb2⟩
  have hb12 := hb1.trans (hb2.mono hb1.size)
  have hbf := Lib.hid (widest_err l v w2 ((Rd.below hr hb12).more hb12.size) hne)
  clear hbe hr
  go_wp2_with fail
  refine hbf.out.mono ?_
  rintro e w3 ⟨rfl, hb3⟩
  clear hbf
  go_wp2_with fail
  go_ret
  exact ⟨rfl, hb12.trans (hb3.mono hb12.size)⟩

/-- what comes behind the step more -/
def WithOut (P : World → Value → Prop) (w1 : World) (e : Ending) (w' : World) : Prop :=
  Below w1.heap.size w1 w' ∧ ((∃ c, e = .returned (.tuple #[.slice none 0 0, .iface 56 c])) ∨ ∃ v', e = .returned (.tuple #[v', .nilIface]) ∧ P w' v')

set_option maxHeartbeats 2000000 in
theorem dcount_ok (m : List Nat) (v : Value) (a b : Int) (w : World) (hr : Ints w w.heap.size v (zs m)) (hv : Odr.Valid m) (hT : Tab w) :
    Calls Tryd.prog 13 #[v, .int .i64 a, .int .i64 b] w fun e w' => e = .returned (.bool true) ∧ Below w.heap.size w w' := by
  have hfew := hv.few
  have c1 := Lib.hid fun (w1 : World) (hbl : Below w.heap.size w w1) => count_ok m v w1 ((Rd.below hr hbl).more hbl.size) hv (hT.below hbl)
  have c2 := Lib.hid fun (w1 : World) (hbl : Below w.heap.size w w1) => widest_ok m v w1 ((Rd.below hr hbl).more hbl.size) hv (hT.below hbl)
  have c4 : Hid (∀ w1, Below w.heap.size w w1 → Calls Tryd.prog 32 #[v, .int .i64 a, .int .i64 b] w1 (WithOut (fun w' v' => ∀ w2, Below w'.heap.size w' w2 → Tab w2 → Calls Tryd.prog 43 #[v'] w2 fun e w3 => ∃ k : Nat, e = .returned (.tuple #[nv k, .nilIface]) ∧ k ≤ Odr.downs m ∧ Below w2.heap.size w2 w3) w1)) := by
    refine Lib.hid fun w1 hbl => ?_
    have hr1 := (Rd.below hr hbl).more hbl.size
    by_cases hg : (0 ≤ a ∧ a < m.length) ∧ (0 ≤ b ∧ b < m.length)
    · obtain ⟨⟨h1, h2⟩, h3, h4⟩ := hg
      obtain ⟨a, rfl⟩ := Int.eq_ofNat_of_zero_le h1
      obtain ⟨b, rfl⟩ := Int.eq_ofNat_of_zero_le h3
      by_cases hi : irrOk (Odr.more m a b)
      · refine (with_yes m v a b w1 hr1 hv (by omega) (by omega) hi).mono fun e w' ⟨v', h1, h2, h3⟩ => ⟨h3, .inr ⟨v', h1, fun w2 hb2 hT2 => ?_⟩⟩
        have hvm : Odr.Valid (Odr.closed (Odr.more m a b)) := ((valid_iff (by rw [Odr.length_more]; exact hfew) (hv.fits.more (by omega))).1 hi).closed
        refine (count_ok _ v' w2 ((Rd.below h2.ints hb2).more hb2.size) hvm hT2).mono fun e w3 ⟨g1, g2⟩ => ⟨_, g1, ?_, g2⟩
        refine Odr.downs_more hv hvm (by rw [Odr.length_closed, Odr.length_more]) fun i j hij => ?_
        rw [Odr.closed_closed (hv.fits.more (by omega))]
        exact Odr.more_has (by omega) i j hij
      · exact (with_no m v a b w1 hr1 hv (by omega) (by omega) hi).mono fun _ _ ⟨h1, h2⟩ => ⟨h2, .inl ⟨_, h1⟩⟩
    · exact (with_range m v a b w1 hr1 hv hg).mono fun _ _ ⟨h1, h2⟩ => ⟨h2, .inl ⟨_, h1⟩⟩
  have hx12 : Odr.widest (Odr.closed m) < 4096 := by
    have h1 := Odr.widest_lt (Odr.closed m)
    rw [Odr.length_closed] at h1
    exact Nat.lt_of_lt_of_le h1 (show 2 ^ m.length ≤ 2 ^ 12 from Nat.pow_le_pow_right (by omega) hfew)
  have h1 := Odr.downs_ge hv
  have h2 := Odr.downs_le m
  have h3 := Odr.downs_one hv
  have h4 : 2 ^ m.length ≤ 4096 := show 2 ^ m.length ≤ 2 ^ 12 from Nat.pow_le_pow_right (by omega) hfew
  have c3 := Lib.hid fun (w5 : World) => rmany_calls (Odr.widest (Odr.closed m)) w5 hx12
  have c5 := Lib.hid fun (w5 : World) => pow2_calls m.length w5 (by omega)
  have hp := Odr.cnt_le 12 (Odr.widest (Odr.closed m)).testBit
  change Odr.pop 12 (Odr.widest (Odr.closed m)) ≤ 12 at hp
  obtain ⟨A, cap, rfl⟩ := Rd.val hr
  have hlz : (zs m).length = m.length := by simp
  rw [hlz] at hr c1 c2 c4 ⊢
  clear hr hlz hv
  have h3' : (((Odr.downs m : Nat) : Int) == (m.length : Int) + 1) = decide (((Odr.pop 12 (Odr.widest (Odr.closed m)) : Nat) : Int) ≤ 1) := by
    by_cases h : Odr.pop 12 (Odr.widest (Odr.closed m)) ≤ 1
    · have := h3.2 h
      rw [this, decide_eq_true (by omega)]; simp
    · have : Odr.downs m ≠ m.length + 1 := fun e => h (h3.1 e)
      rw [decide_eq_false (by omega)]
      simp; omega
  generalize Odr.downs m = D at *
  generalize Odr.widest (Odr.closed m) = x at *
  generalize Odr.pop 12 x = p at *
  generalize 2 ^ m.length = N at *
  generalize m.length = n at *
  have h6 : decide (D < n + 1) = false := by simp; omega
  have h7 : decide (N < D) = false := by simp; omega
  have hx : (((D : Int) == (n : Int) + 1) != decide ((p : Int) ≤ 1)) = false := by rw [h3']; cases decide ((p : Int) ≤ 1) <;> rfl
  have HX := Lib.hid hx
  clear h3 hx
  go_enter Tryd.func13, Tryd.ntmps13
  go_wp2_with fail
  refine (downFact_calls w hT).mono ?_
  rintro e w1 ⟨rfl, hb1⟩
  have HT := Lib.hid hT
  clear hT
  go_wp2_with fail
  refine (c1.out w1 hb1).mono ?_
  rintro e w2 ⟨rfl, hb2⟩
  have hb12 := hb1.trans (hb2.mono hb1.size)
  clear c1 hb1 hb2
  go_wp2_with fail
  refine (c2.out w2 hb12).mono ?_
  rintro e w3 ⟨rfl, hb3⟩
  have hb13 := hb12.trans (hb3.mono hb12.size)
  clear c2 hb12 hb3
  go_wp2_with fail
  refine (c5.out _).mono ?_
  rintro e w7 ⟨rfl, rfl⟩
  go_wp2_with fail
  refine (c3.out _).mono ?_
  rintro e w7 ⟨rfl, rfl⟩
  clear c3 c5
  go_wp2_with fail
  clear h3' h6 h7 HX h1 h2 h4
  refine (c4.out _ hb13).mono ?_
  rintro e w4 ⟨hb4, h⟩
  have hb14 := hb13.trans (hb4.mono hb13.size)
  clear c4 hb4
  rcases h with ⟨c, rfl⟩ | ⟨v', rfl, hP⟩
  · go_wp2_with fail
    go_ret
    exact ⟨rfl, hb14⟩
  · have hC := Lib.hid (hP w4 (Below.refl _ _) (HT.out.below hb14))
    clear hP
    go_wp2_with fail
    refine hC.out.mono ?_
    rintro e w5 ⟨k, rfl, hk, hb5⟩
    clear hC
    go_wp2_with fail
    go_ret
    exact ⟨by simp, hb14.trans (hb5.mono hb14.size)⟩

/-- the law at every input -/
theorem dcount_calls (l : List Int) (v : Value) (a b : Int) (w : World) (hr : Ints w w.heap.size v l) (hT : Tab w) :
    Calls Tryd.prog 13 #[v, .int .i64 a, .int .i64 b] w fun e w' => e = .returned (.bool true) ∧ Below w.heap.size w w' := by
  by_cases h : orderCode l = 0
  · obtain ⟨m, rfl, hv⟩ := orderCode_zero h
    exact dcount_ok m v a b w hr hv hT
  · exact dcount_err l v a b w hr h hT
end Go.Proofs.YtpicjikjinkkpaaDoor
