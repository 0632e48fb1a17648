/- Contract of the reference's Hist. Conditions: the contract's own premises. (Printed by wip/gen/rhist.py.) -/
import Derived.Test.YtjmjifcaobkobaaDoorHGood
import Derived.Deep.QuietTactic
namespace Go.Proofs.YtjmjifcaobkobaaDoor
open Go.RowKit Go.Maps His

theorem rin_calls (n lo hi : Int) (w : World) : Calls Tryd.prog 11 #[.int .i64 n, .int .i64 lo, .int .i64 hi] w fun e w' => e = .returned (.bool (decide (lo ≤ n ∧ n ≤ hi))) ∧ w = w' := by
  have HD := Lib.hid (show decide (lo ≤ n ∧ n ≤ hi) = (decide (lo ≤ n) && decide (n ≤ hi)) from Bool.decide_and _ _)
  generalize decide (lo ≤ n ∧ n ≤ hi) = d at *
  by_cases h1 : lo ≤ n
  · by_cases h2 : n ≤ hi
    · have t1 : decide (lo ≤ n) = true := by simpa using h1
      have t2 : decide (n ≤ hi) = true := by simpa using h2
      obtain rfl : d = true := HD.out.trans (by simp [t1, t2])
      clear HD h1 h2
      go_enter Tryd.func11, Tryd.ntmps11
      go_wp2_with fail
      go_ret
      exact ⟨rfl, rfl⟩
    · have t1 : decide (lo ≤ n) = true := by simpa using h1
      have t2 : decide (n ≤ hi) = false := by simpa using h2
      obtain rfl : d = false := HD.out.trans (by simp [t1, t2])
      clear HD h1 h2
      go_enter Tryd.func11, Tryd.ntmps11
      go_wp2_with fail
      go_ret
      exact ⟨rfl, rfl⟩
  · have t1 : decide (lo ≤ n) = false := by simpa using h1
    obtain rfl : d = false := HD.out.trans (by simp [t1])
    clear HD h1
    go_enter Tryd.func11, Tryd.ntmps11
    go_wp2_with fail
    go_ret
    exact ⟨rfl, rfl⟩
theorem six (x0 x1 x2 x3 x4 x5 : Bool) (h : ¬ (x0 = true ∧ x1 = true ∧ x2 = true ∧ x3 = true ∧ x4 = true ∧ x5 = true)) : x0 = false ∨ (x0 = true ∧ x1 = false) ∨ (x0 = true ∧ x1 = true ∧ x2 = false) ∨ (x0 = true ∧ x1 = true ∧ x2 = true ∧ x3 = false) ∨ (x0 = true ∧ x1 = true ∧ x2 = true ∧ x3 = true ∧ x4 = false) ∨ (x0 = true ∧ x1 = true ∧ x2 = true ∧ x3 = true ∧ x4 = true ∧ x5 = false) := by
  cases x0 <;> cases x1 <;> cases x2 <;> cases x3 <;> cases x4 <;> cases x5 <;> simp_all
theorem code_one {h : List Z6} {k : Nat} (h0 : hcode h k = 0) (hk : k < h.length) (hl : ¬ 10 < h.length) (hr : ¬ rngs h[k]) : histCode h = 1 := by
  have e : codeAt h k = 1 := by unfold codeAt; rw [getD_z6 hk, if_neg hr]
  rw [hcode_first h0 (by rw [e]; decide) hk hl, e]
theorem code_three {h : List Z6} {k : Nat} (h0 : hcode h k = 0) (hk : k < h.length) (hl : ¬ 10 < h.length) (hr : rngs h[k]) (h3 : h[k].2.2.2.2.2 ≤ h[k].2.2.2.2.1) : histCode h = 3 := by
  have e : codeAt h k = 3 := by unfold codeAt; rw [getD_z6 hk, if_pos hr, if_pos h3]
  rw [hcode_first h0 (by rw [e]; decide) hk hl, e]
theorem code_six {h : List Z6} {k j : Nat} (h0 : hcode h k = 0) (hk : k < h.length) (hl : ¬ 10 < h.length) (hr : rngs h[k]) (h3 : ¬ h[k].2.2.2.2.2 ≤ h[k].2.2.2.2.1) (hj : j < k) (hc : clash6 (h[j]'(by omega)) h[k]) : histCode h = 6 := by
  have e : codeAt h k = 6 := by
    unfold codeAt
    rw [getD_z6 hk, if_pos hr, if_neg h3, if_pos ⟨h[j]'(by omega), by rw [List.mem_take_iff_getElem]; exact ⟨j, by omega, rfl⟩, hc⟩]
  rw [hcode_first h0 (by rw [e]; decide) hk hl, e]
theorem code_next {h : List Z6} {k : Nat} (h0 : hcode h k = 0) (hk : k < h.length) (hr : rngs h[k]) (h3 : ¬ h[k].2.2.2.2.2 ≤ h[k].2.2.2.2.1) (hc : ∀ j (hj : j < k), ¬ clash6 (h[j]'(by omega)) h[k]) : hcode h (k + 1) = 0 := by
  rw [hcode, if_pos h0]
  unfold codeAt
  rw [getD_z6 hk, if_pos hr, if_neg h3, if_neg]
  rintro ⟨p, hp, h5⟩
  rw [List.mem_take_iff_getElem] at hp
  obtain ⟨j, hj, rfl⟩ := hp
  exact hc j (by omega) h5
theorem code_end {h : List Z6} (h0 : hcode h h.length = 0) (hl : ¬ 10 < h.length) : histCode h = 0 := by unfold histCode; rw [if_neg hl, h0]
set_option maxRecDepth 20000 in
set_option maxHeartbeats 4000000 in
theorem rhist_calls (h : List Z6) (v : Value) (w : World) (hr : Ops w w.heap.size v h) :
    Calls Tryd.prog 4 #[v] w fun e w' => e = .returned (nv (histCode h)) ∧ Below w.heap.size w w' := by
  by_cases hlen : 10 < h.length
  · have HC := Lib.hid (show histCode h = 4 by unfold histCode; rw [if_pos hlen])
    rw [HC.out]
    obtain ⟨A, cap, rfl⟩ := Rd.val hr
    go_enter Tryd.func4, Tryd.ntmps4
    go_wp2_with fail
    go_ret
    exact ⟨rfl, Below.refl _ _⟩
  obtain ⟨A, cap, rfl⟩ := Rd.val hr
  have HLEN := Lib.hid hlen
  have HR := Lib.hid hr
  obtain ⟨cv, hcv⟩ : ∃ cv, cv = histCode h := ⟨_, rfl⟩
  have HCV := Lib.hid hcv
  rw [← hcv]
  clear hcv hr
  go_enter Tryd.func4, Tryd.ntmps4
  go_wp2_with fail
  go_loopw [3] (fun i wr => ∃ k : Nat, k ≤ h.length ∧ i = nv k ∧ Hid (hcode h k = 0) ∧ Hid (Below w.heap.size w wr)) (fun i _ => h.length - (intOf i).toNat)
  case atStart => exact ⟨0, Nat.zero_le _, rfl, Lib.hid rfl, Lib.hid (Below.refl _ _)⟩
  case round =>
    clear hlen
    obtain ⟨k, hk, rfl, h0, hb⟩ := hrel
    by_cases hlt : k < h.length
    · obtain ⟨b, off, cap', he, hlc, hcm, hbB, d0, d1, d2, d3, d4, d5⟩ := Ops.at_ (Rd.below HR.out hb.out) hlt
      cases he
      have C1 := Lib.hid fun (hn : ¬ rngs h[k]) => HCV.out.trans (code_one h0.out hlt HLEN.out hn)
      have C3 := Lib.hid fun (hn : rngs h[k]) h3 => HCV.out.trans (code_three h0.out hlt HLEN.out hn h3)
      have C6 := Lib.hid fun (hn : rngs h[k]) h3 (j : Nat) (hj : j < k) hc => HCV.out.trans (code_six (j := j) h0.out hlt HLEN.out hn h3 hj hc)
      have C0 := Lib.hid fun (hn : rngs h[k]) h3 hc => code_next h0.out hlt hn h3 hc
      have HLT := Lib.hid hlt
      have hlk : (k : Int) < (h.length : Int) := by omega
      generalize hok : h[k] = o at *
      obtain ⟨o0, o1, o2, o3, o4, o5⟩ := o
      simp only at d0 d1 d2 d3 d4 d5
      have HOK := Lib.hid hok
      have HRG := Lib.hid (show rngs (o0, o1, o2, o3, o4, o5) ↔ (decide (0 ≤ o0 ∧ o0 ≤ 4) = true ∧ decide (0 ≤ o1 ∧ o1 ≤ 2) = true ∧ decide (0 ≤ o2 ∧ o2 ≤ 1) = true ∧ decide (0 ≤ o3 ∧ o3 ≤ 1000000) = true ∧ decide (0 ≤ o4 ∧ o4 ≤ 1000000) = true ∧ decide (0 ≤ o5 ∧ o5 ≤ 1000000) = true) by unfold rngs; simp)
      have cn0 := Lib.hid fun w5 : World => rin_calls o0 0 4 w5
      have cn1 := Lib.hid fun w5 : World => rin_calls o1 0 2 w5
      have cn2 := Lib.hid fun w5 : World => rin_calls o2 0 1 w5
      have cn3 := Lib.hid fun w5 : World => rin_calls o3 0 1000000 w5
      have cn4 := Lib.hid fun w5 : World => rin_calls o4 0 1000000 w5
      have cn5 := Lib.hid fun w5 : World => rin_calls o5 0 1000000 w5
      clear hok
      generalize decide (0 ≤ o0 ∧ o0 ≤ 4) = x0 at *
      generalize decide (0 ≤ o1 ∧ o1 ≤ 2) = x1 at *
      generalize decide (0 ≤ o2 ∧ o2 ≤ 1) = x2 at *
      generalize decide (0 ≤ o3 ∧ o3 ≤ 1000000) = x3 at *
      generalize decide (0 ≤ o4 ∧ o4 ≤ 1000000) = x4 at *
      generalize decide (0 ≤ o5 ∧ o5 ≤ 1000000) = x5 at *
      by_cases hrg : rngs (o0, o1, o2, o3, o4, o5)
      · obtain ⟨t0, t1, t2, t3, t4, t5⟩ := HRG.out.1 hrg
        have HG := Lib.hid hrg
        clear hrg HRG C1
        subst t0
        subst t1
        subst t2
        subst t3
        subst t4
        subst t5
        by_cases h3 : o5 ≤ o4
        · have HC := Lib.hid (C3.out HG.out h3)
          clear C3 C6 C0 h0
          go_wp2_with (first | (go_at_call 11; (with_reducible refine (cn0.out _).mono ?_); rintro e w9 ⟨rfl, rfl⟩) | (go_at_call 11; (with_reducible refine (cn1.out _).mono ?_); rintro e w9 ⟨rfl, rfl⟩) | (go_at_call 11; (with_reducible refine (cn2.out _).mono ?_); rintro e w9 ⟨rfl, rfl⟩) | (go_at_call 11; (with_reducible refine (cn3.out _).mono ?_); rintro e w9 ⟨rfl, rfl⟩) | (go_at_call 11; (with_reducible refine (cn4.out _).mono ?_); rintro e w9 ⟨rfl, rfl⟩) | (go_at_call 11; (with_reducible refine (cn5.out _).mono ?_); rintro e w9 ⟨rfl, rfl⟩))
          go_ret
          exact ⟨by rw [HC.out]; rfl, hb.out.alloc hb.out.size _⟩
        · have HN3 := Lib.hid h3
          clear C3
          go_wp2_with (first | (go_at_call 11; (with_reducible refine (cn0.out _).mono ?_); rintro e w9 ⟨rfl, rfl⟩) | (go_at_call 11; (with_reducible refine (cn1.out _).mono ?_); rintro e w9 ⟨rfl, rfl⟩) | (go_at_call 11; (with_reducible refine (cn2.out _).mono ?_); rintro e w9 ⟨rfl, rfl⟩) | (go_at_call 11; (with_reducible refine (cn3.out _).mono ?_); rintro e w9 ⟨rfl, rfl⟩) | (go_at_call 11; (with_reducible refine (cn4.out _).mono ?_); rintro e w9 ⟨rfl, rfl⟩) | (go_at_call 11; (with_reducible refine (cn5.out _).mono ?_); rintro e w9 ⟨rfl, rfl⟩))
          obtain ⟨W, hW⟩ : ∃ W, W = wr.alloc (.cells #[iv o0, iv o1, iv o2, iv o3, iv o4, iv o5] 36) := ⟨_, rfl⟩
          have HBW := Lib.hid (show Below w.heap.size w W by rw [hW]; exact hb.out.alloc hb.out.size _)
          have k0 : W.cell? ⟨wr.heap.size, 0, none⟩ = some (iv o0) := by rw [hW, World.cell?_alloc_new]; rfl
          have k4 : W.cell? ⟨wr.heap.size, 4, none⟩ = some (iv o4) := by rw [hW, World.cell?_alloc_new]; rfl
          have k5 : W.cell? ⟨wr.heap.size, 5, none⟩ = some (iv o5) := by rw [hW, World.cell?_alloc_new]; rfl
          have HSW := Lib.hid (show wr.heap.size < W.heap.size by rw [hW]; simp)
          rw [← hW]
          have HKK := Lib.hid (And.intro k0 (And.intro k4 k5))
          clear hW d0 d1 d2 d3 d4 d5 hb k0 k4 k5
          obtain ⟨T, hT⟩ : ∃ T, T = wr.heap.size := ⟨_, rfl⟩
          rw [← hT] at HKK HSW ⊢
          clear hT
          go_loopw [5] (fun jv wj => ∃ j : Nat, j ≤ k ∧ jv = nv j ∧ Hid (∀ i (hi : i < j) (hk : i < h.length), ¬ clash6 h[i] (o0, o1, o2, o3, o4, o5)) ∧ Hid (Below W.heap.size W wj)) (fun jv _ => k - (intOf jv).toNat)
          case atStart => exact ⟨0, Nat.zero_le _, rfl, Lib.hid (fun i hi => absurd hi (Nat.not_lt_zero _)), Lib.hid (Below.refl _ _)⟩
          case round =>
            obtain ⟨j, hj, rfl, hno, hbj⟩ := hrel
            by_cases hjk : j < k
            · have hjl : j < h.length := by have := HLT.out; omega
              obtain ⟨_, _, _, he, _, _, _, e0, e1, e2, e3, e4, e5⟩ := Ops.at_ (Rd.below HR.out (HBW.out.trans (hbj.out.mono HBW.out.size))) hjl
              cases he
              have k0 := (hbj.out.cell (p := ⟨T, 0, none⟩) HSW.out).trans HKK.out.1
              have k4 := (hbj.out.cell (p := ⟨T, 4, none⟩) HSW.out).trans HKK.out.2.1
              have k5 := (hbj.out.cell (p := ⟨T, 5, none⟩) HSW.out).trans HKK.out.2.2
              have D6 := Lib.hid fun (hc : clash6 h[j] (o0, o1, o2, o3, o4, o5)) => C6.out HG.out HN3.out j hjk hc
              have D0 := Lib.hid fun (hc : ¬ clash6 h[j] (o0, o1, o2, o3, o4, o5)) => show ∀ i (hi : i < j + 1) (hk : i < h.length), ¬ clash6 h[i] (o0, o1, o2, o3, o4, o5) from fun i hi hil => by
                by_cases e : i = j
                · subst e; exact hc
                · exact hno.out i (by omega) hil
              generalize h[j] = p at *
              obtain ⟨p0, p1, p2, p3, p4, p5⟩ := p
              simp only at e0 e1 e2 e3 e4 e5
              have HCL := Lib.hid (show clash6 (p0, p1, p2, p3, p4, p5) (o0, o1, o2, o3, o4, o5) ↔ (p0 = o0 ∧ p4 < o5 ∧ o4 < p5) from Iff.rfl)
              have ij : (j : Int) < (h.length : Int) := by omega
              have hw : (((p0 == o0) = true ∧ decide (p4 < o5) = true ∧ decide (o4 < p5) = true) ∧ (p0 = o0 ∧ p4 < o5 ∧ o4 < p5)) ∨ (((p0 == o0) = false ∨ ((p0 == o0) = true ∧ decide (p4 < o5) = false) ∨ ((p0 == o0) = true ∧ decide (p4 < o5) = true ∧ decide (o4 < p5) = false)) ∧ ¬ (p0 = o0 ∧ p4 < o5 ∧ o4 < p5)) := by
                by_cases g0 : p0 = o0 <;> by_cases g1 : p4 < o5 <;> by_cases g2 : o4 < p5 <;> simp [g0, g1, g2]
              rcases hw with ⟨⟨s0, s1, s2⟩, hc⟩ | ⟨hw, hc⟩
              · have HC := Lib.hid (D6.out (HCL.out.2 hc))
                clear D6 D0 C6 C0 HCL hc h0
                go_wp2_with fail
                go_quiet (fail)
                go_wp2_with fail
                go_ret
                exact ⟨by rw [HC.out]; rfl, drn (HBW.out.trans (hbj.out.mono HBW.out.size)) _⟩
              · have HC := Lib.hid (D0.out (fun q => hc (HCL.out.1 q)))
                clear D6 D0 C6 C0 HCL hc h0
                rcases hw with s0 | ⟨s0, s1⟩ | ⟨s0, s1, s2⟩
                all_goals
                  go_wp2_with fail
                  go_quiet (fail)
                  go_wp2_with fail
                  go_roundw
                  case rel => exact ⟨j + 1, by omega, by go_num, HC, Lib.hid (drn hbj.out _)⟩
                  case measure => simp [intOf]; omega
            · obtain rfl : j = k := by omega
              have HC := Lib.hid (C0.out HG.out HN3.out (fun i hi => hno.out i hi (by have := HLT.out; omega)))
              clear C0 C6 h0
              go_wp2_with fail
              go_roundw
              case rel => exact ⟨j + 1, by omega, by go_num, HC, Lib.hid (HBW.out.trans (hbj.out.mono HBW.out.size))⟩
              case measure => simp [intOf]; omega
      · have HC := Lib.hid (C1.out hrg)
        have hw := six _ _ _ _ _ _ (fun q => hrg (HRG.out.2 q))
        clear hrg HRG C1 C3 C6 C0 h0 HOK
        rcases hw with t0 | ⟨t0, t1⟩ | ⟨t0, t1, t2⟩ | ⟨t0, t1, t2, t3⟩ | ⟨t0, t1, t2, t3, t4⟩ | ⟨t0, t1, t2, t3, t4, t5⟩
        all_goals
          (try subst t0); (try subst t1); (try subst t2); (try subst t3); (try subst t4); (try subst t5)
          go_wp2_with (first | (go_at_call 11; (with_reducible refine (cn0.out _).mono ?_); rintro e w9 ⟨rfl, rfl⟩) | (go_at_call 11; (with_reducible refine (cn1.out _).mono ?_); rintro e w9 ⟨rfl, rfl⟩) | (go_at_call 11; (with_reducible refine (cn2.out _).mono ?_); rintro e w9 ⟨rfl, rfl⟩) | (go_at_call 11; (with_reducible refine (cn3.out _).mono ?_); rintro e w9 ⟨rfl, rfl⟩) | (go_at_call 11; (with_reducible refine (cn4.out _).mono ?_); rintro e w9 ⟨rfl, rfl⟩) | (go_at_call 11; (with_reducible refine (cn5.out _).mono ?_); rintro e w9 ⟨rfl, rfl⟩))
          go_ret
          exact ⟨by rw [HC.out]; rfl, hb.out.alloc hb.out.size _⟩
    · obtain rfl : k = h.length := by omega
      have HC := Lib.hid (HCV.out.trans (code_end h0.out HLEN.out))
      go_wp2_with fail
      go_ret
      exact ⟨by rw [HC.out]; rfl, hb.out⟩
end Go.Proofs.YtjmjifcaobkobaaDoor
