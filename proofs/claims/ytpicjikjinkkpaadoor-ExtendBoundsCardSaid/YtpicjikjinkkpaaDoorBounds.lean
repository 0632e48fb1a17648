/- ExtendBounds at every input: at least one, and at most all rows. Conditions: the row's own. -/
import Derived.Test.YtpicjikjinkkpaaDoorBoundM
import Derived.Test.YtpicjikjinkkpaaDoorMirsky
namespace Go.Proofs.YtpicjikjinkkpaaDoor
open Go.RowKit

theorem Odr.fact_le {k : Nat} (h : k ≤ 12) : Odr.fact k ≤ 479001600 := by
  have := Odr.fact_mono h
  have h3 : Odr.fact 12 = 479001600 := by decide
  omega

theorem fact_wrap (f k : Nat) (h : f * (k + 1) ≤ 479001600) : wrap64 ((f : Int) * ((k : Int) + 1)) = ((f * (k + 1) : Nat) : Int) := by
  have e : (f : Int) * ((k : Int) + 1) = ((f * (k + 1) : Nat) : Int) := by rw [Int.natCast_mul]; rfl
  rw [e]
  exact IntWalk.wrap64_in _ (by constructor <;> omega)

theorem bounds_err (l : List Int) (v : Value) (w : World) (hr : Ints w w.heap.size v l) (hne : orderCode l ≠ 0) (hT : Tab w) :
    Calls Tryd.prog 11 #[v] w fun e w' => e = .returned (.bool true) ∧ Below w.heap.size w w' := by
  go_enter Tryd.func11, Tryd.ntmps11
  go_wp2_with fail
  refine (extendFact_calls w hT).mono ?_
  rintro e w1 ⟨rfl, hb1⟩
  have hbe := Lib.hid (ecount_err l v w1 ((Rd.below hr hb1).more hb1.size) hne)
  go_wp2_with fail
  refine hbe.out.mono ?_
  rintro e w2 ⟨rfl, hb2⟩
  have hb12 := hb1.trans (hb2.mono hb1.size)
  have hbf := Lib.hid (widest_err l v w2 ((Rd.below hr hb12).more hb12.size) hne)
  clear hbe hr
  go_wp2_with fail
  refine hbf.out.mono ?_
  rintro e w3 ⟨rfl, hb3⟩
  clear hbf
  go_wp2_with fail
  go_ret
  exact ⟨rfl, hb12.trans (hb3.mono hb12.size)⟩

set_option maxHeartbeats 2000000 in
theorem bounds_ok (m : List Nat) (v : Value) (w : World) (hr : Ints w w.heap.size v (zs m)) (hv : Odr.Valid m) (hT : Tab w) :
    Calls Tryd.prog 11 #[v] w fun e w' => e = .returned (.bool true) ∧ Below w.heap.size w w' := by
  have hfew := hv.few
  have c1 := Lib.hid fun (w1 : World) (hbl : Below w.heap.size w w1) => ecount_rows m v w1 ((Rd.below hr hbl).more hbl.size) hv (hT.below hbl)
  have c2 := Lib.hid fun (w1 : World) (hbl : Below w.heap.size w w1) => widest_ok m v w1 ((Rd.below hr hbl).more hbl.size) hv (hT.below hbl)
  have hx12 : Odr.widest (Odr.closed m) < 4096 := by
    have h1 := Odr.widest_lt (Odr.closed m)
    rw [Odr.length_closed] at h1
    exact Nat.lt_of_lt_of_le h1 (show 2 ^ m.length ≤ 2 ^ 12 from Nat.pow_le_pow_right (by omega) hfew)
  have h1 := Odr.rows_ge hv
  have h2 := Odr.rows_le (m := m)
  have h3 := Odr.rows_one hv
  have h4 := rows_bound hv
  have c3 := Lib.hid fun (w5 : World) => rmany_calls (Odr.widest (Odr.closed m)) w5 hx12
  have hp := Odr.cnt_le 12 (Odr.widest (Odr.closed m)).testBit
  change Odr.pop 12 (Odr.widest (Odr.closed m)) ≤ 12 at hp
  obtain ⟨A, cap, rfl⟩ := Rd.val hr
  have hlz : (zs m).length = m.length := by simp
  rw [hlz] at hr c1 c2 ⊢
  clear hr hlz hv
  generalize (Odr.rows m).length = R at *
  generalize Odr.widest (Odr.closed m) = x at *
  generalize Odr.pop 12 x = p at *
  generalize m.length = n at *
  have h3' : ((R : Int) == 1) = decide ((p : Int) ≤ 1) := by
    by_cases h : p ≤ 1
    · have := h3.2 h
      rw [this, decide_eq_true (by omega)]; rfl
    · have : R ≠ 1 := fun e => h (h3.1 e)
      rw [decide_eq_false (by omega)]
      simp; omega
  have H3 := Lib.hid h3'
  have H1 := Lib.hid h1
  have H2 := Lib.hid h2
  clear h1 h2 h3 h3'
  go_enter Tryd.func11, Tryd.ntmps11
  go_wp2_with fail
  refine (extendFact_calls w hT).mono ?_
  rintro e w1 ⟨rfl, hb1⟩
  clear hT
  go_wp2_with fail
  refine (c1.out w1 hb1).mono ?_
  rintro e w2 ⟨rfl, hb2⟩
  have hb12 := hb1.trans (hb2.mono hb1.size)
  clear c1 hb1 hb2
  go_wp2_with fail
  refine (c2.out w2 hb12).mono ?_
  rintro e w3 ⟨rfl, hb3⟩
  have HB := Lib.hid (hb12.trans (hb3.mono hb12.size))
  clear c2 hb12 hb3
  go_wp2_with fail
  go_loop [8, 9] (fun a i => ∃ k f : Nat, 1 ≤ k ∧ k ≤ max 1 n ∧ i = .int .i64 ((k + 1 : Nat) : Int) ∧ a = nv f ∧ f ≤ 479001600 ∧ Hid (f = Odr.fact k)) (fun _ i => 14 - (intOf i).toNat)
  case atStart => exact ⟨1, 1, by omega, by omega, rfl, rfl, by omega, Lib.hid rfl⟩
  case round =>
    obtain ⟨k, f, hk1, hk, rfl, rfl, hf, hfk⟩ := hrel
    by_cases hkn : k + 1 ≤ n
    · have hf2 : (k + 1) * f ≤ 479001600 := by
        have := Odr.fact_le (k := k + 1) (by omega)
        rw [Odr.fact, ← hfk.out] at this
        exact this
      have hfn := Lib.hid (show f * (k + 1) = Odr.fact (k + 1) by rw [Odr.fact, ← hfk.out, Nat.mul_comm])
      have hf3 : f * (k + 1) ≤ 479001600 := by rw [Nat.mul_comm]; exact hf2
      have hm := fact_wrap f k hf3
      have HM := Lib.hid hm
      clear hm
      go_wp2
      go_round
      case rel => exact ⟨k + 1, f * (k + 1), by omega, by omega, by go_num, by rw [HM.out], hf3, hfn⟩
      case measure => simp [intOf]; omega
    · have hfin := Lib.hid (show f = Odr.fact n by
        rw [hfk.out]
        rcases Nat.eq_zero_or_pos n with h | h
        · obtain rfl : k = 1 := by omega
          rw [h]; rfl
        · rw [show k = n by omega])
      have hkn' : decide (k + 1 ≤ n) = false := by simpa using hkn
      clear hfk
      go_wp2
      go_loop [10, 11] (fun a i => ∃ j g : Nat, 1 ≤ j ∧ j ≤ max 1 p ∧ i = .int .i64 ((j + 1 : Nat) : Int) ∧ a = nv g ∧ g ≤ 479001600 ∧ Hid (g = Odr.fact j)) (fun _ i => 14 - (intOf i).toNat)
      case atStart => exact ⟨1, 1, by omega, by omega, rfl, rfl, by omega, Lib.hid rfl⟩
      case round =>
        obtain ⟨j, g, hj1, hj, rfl, rfl, hg, hgj⟩ := hrel
        by_cases hjp : j + 1 ≤ p
        · have hg2 : (j + 1) * g ≤ 479001600 := by
            have := Odr.fact_le (k := j + 1) (by omega)
            rw [Odr.fact, ← hgj.out] at this
            exact this
          have hgn := Lib.hid (show g * (j + 1) = Odr.fact (j + 1) by rw [Odr.fact, ← hgj.out, Nat.mul_comm])
          have hg3 : g * (j + 1) ≤ 479001600 := by rw [Nat.mul_comm]; exact hg2
          have HM := Lib.hid (fact_wrap g j hg3)
          go_wp2_with fail
          refine (c3.out _).mono ?_
          rintro e w7 ⟨rfl, rfl⟩
          go_wp2
          go_round
          case rel => exact ⟨j + 1, g * (j + 1), by omega, by omega, by go_num, by rw [HM.out], hg3, hgn⟩
          case measure => simp [intOf]; omega
        · have hgin := Lib.hid (show g = Odr.fact p by
            rw [hgj.out]
            rcases Nat.eq_zero_or_pos p with h | h
            · obtain rfl : j = 1 := by omega
              rw [h]; rfl
            · rw [show j = p by omega])
          have hjp' : decide (j + 1 ≤ p) = false := by simpa using hjp
          clear hgj
          have l1 : g ≤ R := by rw [hgin.out]; exact H1.out
          have l2 : R ≤ f := by rw [hfin.out]; exact H2.out
          go_wp2_with fail
          refine (c3.out _).mono ?_
          rintro e w7 ⟨rfl, rfl⟩
          go_wp2_with fail
          refine (c3.out _).mono ?_
          rintro e w7 ⟨rfl, rfl⟩
          go_wp2_with fail
          go_ret
          refine ⟨?_, HB.out⟩
          show Ending.returned (.bool (((R : Int) == 1) == decide ((p : Int) ≤ 1))) = _
          rw [H3.out, beq_self_eq_true]

/-- the law at every input -/
theorem bounds_calls (l : List Int) (v : Value) (w : World) (hr : Ints w w.heap.size v l) (hT : Tab w) :
    Calls Tryd.prog 11 #[v] w fun e w' => e = .returned (.bool true) ∧ Below w.heap.size w w' := by
  by_cases h : orderCode l = 0
  · obtain ⟨m, rfl, hv⟩ := orderCode_zero h
    exact bounds_ok m v w hr hv hT
  · exact bounds_err l v w hr h hT
end Go.Proofs.YtpicjikjinkkpaaDoor
