/- The walk of the statement HistSays: at every input it returns true. Conditions: none beyond the handle's. -/
import Derived.Test.YtjmjifcaobkobaaDoorRGood
import Derived.Test.YtjmjifcaobkobaaDoorRHist
import Derived.Test.YtjmjifcaobkobaaDoorHFact
import Derived.Test.YtjmjifcaobkobaaDoorKeepS
namespace Go.Proofs.YtjmjifcaobkobaaDoor
open Go.RowKit Go.Maps His

theorem errv_errw (c : Nat) : errv c = errw c := rfl
theorem hsays_bad (s : List Z6) (v : Value) (w : World) (hr : Ops w w.heap.size v s) (hE : ErrTy w) (hc : histCode s ≠ 0) :
    Calls Tryd.prog 3 #[v] w fun e w' => e = .returned (.bool true) ∧ Below w.heap.size w w' := by
  have hops := Lib.hid fun (w5 : World) (h5 : Below w.heap.size w w5) => show Ops w5 w5.heap.size v s from (Rd.below hr h5).more h5.size
  have hH := Lib.hid fun (w5 : World) (h5 : Below w.heap.size w w5) => rhist_calls s v w5 (hops.out w5 h5)
  have hC := Lib.hid fun (w5 : World) (h5 : Below w.heap.size w w5) => hcheck_calls s v w5 (hops.out w5 h5)
  have hA := Lib.hid fun (w5 : World) (h5 : Below w.heap.size w w5) => atomic_bad s v w5 (hops.out w5 h5) hc
  have hW := Lib.hid fun (w5 : World) (h5 : Below w.heap.size w w5) => weak_bad s v w5 (hops.out w5 h5) hc
  have hEr := Lib.hid fun (w5 : World) (h5 : Below w.heap.size w w5) => errorw (histCode s) w5 (hE.below h5)
  rw [← errv_errw] at hEr
  have hI := Lib.hid fun (w5 : World) => ints_same (Kept.nil w5) (Kept.nil w5)
  have t1 : ((histCode s : Int) == 0) = false := by simp; omega
  obtain ⟨A, cap, rfl⟩ := Rd.val hr
  clear hops hr hE hc
  generalize errv (histCode s) = ev at *
  generalize histCode s = c at *
  go_enter Tryd.func3, Tryd.ntmps3
  go_wp2_with (first
    | (go_at_call 4; (with_reducible refine (hH.out _ (Below.refl _ _)).mono ?_); rintro e w1 ⟨rfl, hb1⟩)
    | (go_at_call 6; (with_reducible refine (hC.out _ hb1).mono ?_); rintro e w2 ⟨rfl, q2⟩; have hb2 := hb1.trans (q2.mono hb1.size))
    | (go_at_call 5; (with_reducible refine (hEr.out _ hb2).mono ?_); rintro e w3 ⟨rfl, q3⟩; have hb3 := hb2.trans (q3.mono hb2.size))
    | (go_at_call 8; (with_reducible refine (hA.out _ hb3).mono ?_); rintro e w4 ⟨rfl, q4⟩; have hb4 := hb3.trans (q4.mono hb3.size))
    | (go_at_call 5; (with_reducible refine (hEr.out _ hb4).mono ?_); rintro e w5 ⟨rfl, q5⟩; have hb5 := hb4.trans (q5.mono hb4.size))
    | (go_at_call 9; (with_reducible refine (hI.out w5).mono ?_); rintro e w6 ⟨rfl, q6⟩; have hb6 := hb5.trans (q6.mono hb5.size))
    | (go_at_call 10; (with_reducible refine (hW.out _ hb6).mono ?_); rintro e w7 ⟨rfl, q7⟩; have hb7 := hb6.trans (q7.mono hb6.size))
    | (go_at_call 5; (with_reducible refine (hEr.out _ hb7).mono ?_); rintro e w8 ⟨rfl, q8⟩; have hb8 := hb7.trans (q8.mono hb7.size))
    | (go_at_call 9; (with_reducible refine (hI.out w8).mono ?_); rintro e w9 ⟨rfl, q9⟩; have hb9 := hb8.trans (q9.mono hb8.size)))
  go_ret
  exact ⟨rfl, hb9⟩
set_option maxHeartbeats 1000000 in
theorem hsays_good (h : List N6) (hh : Hok h) (v : Value) (w : World) (hr : Ops w w.heap.size v (zops h)) (hc : histCode (zops h) = 0) :
    Calls Tryd.prog 3 #[v] w fun e w' => e = .returned (.bool true) ∧ Below w.heap.size w w' := by
  have hops := Lib.hid fun (w5 : World) (h5 : Below w.heap.size w w5) => show Ops w5 w5.heap.size v (zops h) from (Rd.below hr h5).more h5.size
  have hH := Lib.hid fun (w5 : World) (h5 : Below w.heap.size w w5) => show Calls Tryd.prog 4 #[v] w5 (fun e w' => e = .returned (.int .i64 0) ∧ Below w5.heap.size w5 w') from by
    have := rhist_calls (zops h) v w5 (hops.out w5 h5)
    rw [hc] at this; exact this
  have hC := Lib.hid fun (w5 : World) (h5 : Below w.heap.size w w5) => show Calls Tryd.prog 6 #[v] w5 (fun e w' => e = .returned .nilIface ∧ Below w5.heap.size w5 w') from by
    have := hcheck_calls (zops h) v w5 (hops.out w5 h5)
    rw [hc] at this; exact this
  have hG1 := Lib.hid fun (w5 : World) (h5 : Below w.heap.size w w5) => rgood_calls true h hh v w5 (hops.out w5 h5)
  have hG2 := Lib.hid fun (w5 : World) (h5 : Below w.heap.size w w5) => rgood_calls false h hh v w5 (hops.out w5 h5)
  have hA := Lib.hid fun (w5 : World) (h5 : Below w.heap.size w w5) => atomic_ok h hh v w5 (hops.out w5 h5) hc
  have hW := Lib.hid fun (w5 : World) (h5 : Below w.heap.size w w5) => weak_ok h hh v w5 (hops.out w5 h5) hc
  have hEr := Lib.hid fun (w5 : World) => error0 w5
  have hI := Lib.hid fun (w5 : World) (v u : Value) (l : List Int) (hv : Kept w5 v l) (hu : Kept w5 u l) => ints_same hv hu
  obtain ⟨A, cap, rfl⟩ := Rd.val hr
  clear hops hr hc hh
  rw [length_zops] at *
  generalize rowOf true h = R1 at *
  generalize rowOf false h = R2 at *
  go_enter Tryd.func3, Tryd.ntmps3
  go_wp2_with (first
    | (go_at_call 4; (with_reducible refine (hH.out _ (Below.refl _ _)).mono ?_); rintro e w1 ⟨rfl, hb1⟩)
    | (go_at_call 6; (with_reducible refine (hC.out _ hb1).mono ?_); rintro e w2 ⟨rfl, q2⟩; have hb2 := hb1.trans (q2.mono hb1.size))
    | (go_at_call 5; (with_reducible refine (hEr.out w2).mono ?_); rintro e w3 ⟨rfl, q3⟩; have hb3 := hb2.trans (q3.mono hb2.size))
    | (go_at_call 7; (with_reducible refine (hG1.out _ hb3).mono ?_); rintro e w4 ⟨x, rfl, hx, q4⟩; have hb4 := hb3.trans (q4.mono hb3.size); have kx := Kept.of hx)
    | (go_at_call 7; (with_reducible refine (hG2.out _ hb4).mono ?_); rintro e w5 ⟨y, rfl, hy, q5⟩; have hb5 := hb4.trans (q5.mono hb4.size); have ky := Kept.of hy; have kx5 := kx.next q5)
    | (go_at_call 8; (with_reducible refine (hA.out _ hb5).mono ?_); rintro e w6 ⟨la, rfl, ha, q6⟩; have hb6 := hb5.trans (q6.mono hb5.size); have ka := Kept.of ha.ints; have kx6 := kx5.next q6; have ky6 := ky.next q6)
    | (go_at_call 5; (with_reducible refine (hEr.out w6).mono ?_); rintro e w7 ⟨rfl, q7⟩; have hb7 := hb6.trans (q7.mono hb6.size); have ka7 := ka.next q7; have kx7 := kx6.next q7; have ky7 := ky6.next q7)
    | (go_at_call 9; (with_reducible refine (hI.out w7 _ _ _ ka7 kx7).mono ?_); rintro e w8 ⟨rfl, q8⟩; have hb8 := hb7.trans (q8.mono hb7.size); have ky8 := ky7.next q8)
    | (go_at_call 10; (with_reducible refine (hW.out _ hb8).mono ?_); rintro e w9 ⟨lw, rfl, hw, q9⟩; have hb9 := hb8.trans (q9.mono hb8.size); have kw := Kept.of hw.ints; have ky9 := ky8.next q9)
    | (go_at_call 5; (with_reducible refine (hEr.out w9).mono ?_); rintro e w10 ⟨rfl, q10⟩; have hb10 := hb9.trans (q10.mono hb9.size); have kw10 := kw.next q10; have ky10 := ky9.next q10)
    | (go_at_call 9; (with_reducible refine (hI.out w10 _ _ _ kw10 ky10).mono ?_); rintro e w11 ⟨rfl, q11⟩; have hb11 := hb10.trans (q11.mono hb10.size)))
  go_ret
  exact ⟨rfl, hb11⟩
/-- the law at every input -/
theorem hsays_calls (v : Value) (recs : List (List Int)) (w : World) (hr : Rd w w.heap.size 6 v recs.length (recs.flatMap fun r => r.map iv)) (hl : ∀ r ∈ recs, r.length = 6) (hE : ErrTy w) :
    Calls Tryd.prog 3 #[v] w fun e w' => e = .returned (.bool true) ∧ Below w.heap.size w w' := by
  obtain ⟨s, hs⟩ := ops_of_recs hr hl
  by_cases hc : histCode s = 0
  · obtain ⟨h, rfl, hh⟩ := ops_ok hc
    exact hsays_good h hh v w hs hc
  · exact hsays_bad s v w hs hE hc
end Go.Proofs.YtjmjifcaobkobaaDoor
