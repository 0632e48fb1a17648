/- ChainDilworth at every input: as few rows as the widest has things. Conditions: the row's own. -/
import Derived.Test.YtpicjikjinkkpaaDoorCRows
import Derived.Test.YtpicjikjinkkpaaDoorMirsky
namespace Go.Proofs.YtpicjikjinkkpaaDoor
open Go.RowKit

set_option maxRecDepth 20000 in
theorem dil_err (l : List Int) (v : Value) (k : Int) (w : World) (hr : Ints w w.heap.size v l) (hne : orderCode l ≠ 0) (hT : Tab w) :
    Calls Tryd.prog 12 #[v, .int .i64 k] w fun e w' => e = .returned (.bool true) ∧ Below w.heap.size w w' := by
  have h0 := Lib.hid (chainFact_calls w hT)
  have h1 := Lib.hid fun (w5 : World) (h5 : Below w.heap.size w w5) => crows_err l v w5 ((Rd.below hr h5).more h5.size) hne
  have h2 := Lib.hid fun (w5 : World) (h5 : Below w.heap.size w w5) => widest_err l v w5 ((Rd.below hr h5).more h5.size) hne
  have h3 := Lib.hid fun (w5 : World) (h5 : Below w.heap.size w w5) => behind_err l v w5 ((Rd.below hr h5).more h5.size) hne
  clear hr hT hne
  go_enter Tryd.func12, Tryd.ntmps12
  go_wp2_with (first
    | (go_at_call 38; (with_reducible refine h0.out.mono ?_); rintro e w1 ⟨rfl, hb1⟩)
    | (go_at_call 42; (with_reducible refine (h1.out _ hb1).mono ?_); rintro e w2 ⟨rfl, q2⟩; have hb2 := hb1.trans (q2.mono hb1.size))
    | (go_at_call 40; (with_reducible refine (h2.out _ hb2).mono ?_); rintro e w3 ⟨rfl, q3⟩; have hb3 := hb2.trans (q3.mono hb2.size))
    | (go_at_call 20; (with_reducible refine (h3.out _ hb3).mono ?_); rintro e w4 ⟨rfl, q4⟩; have hb4 := hb3.trans (q4.mono hb3.size)))
  go_ret
  exact ⟨rfl, hb4⟩
/-- a set of things of which none is behind another one is no greater than the widest -/
theorem dil_side {c : List Nat} {s : Nat} (hs : s < 2 ^ c.length) (h12 : c.length ≤ 12) (h : ∀ i, i < c.length → s.testBit i = true → c.getD i 0 &&& s = 0) : Odr.pop 12 s ≤ Odr.mostOf c := by
  have h4 : s < 4096 := Nat.lt_of_lt_of_le hs (show 2 ^ c.length ≤ 2 ^ 12 from Nat.pow_le_pow_right (by omega) h12)
  refine Odr.widest_most hs ((Odr.sideB_iff h4).2 fun i j hi hj => ?_)
  have hic : i < c.length := by
    by_cases q : i < c.length
    · exact q
    · rw [Odr.testBit_lt hs (Nat.le_of_not_lt q)] at hi; cases hi
  have h0 := congrArg (fun x => x.testBit j) (h i hic hi)
  simp only [Nat.testBit_and, hj, Bool.and_true, Nat.zero_testBit] at h0
  exact h0
theorem cnt_step_eq {r : List Nat} {i : Nat} (h : r.getD i 0 = Dil.cntTo r i) : Dil.cntTo r (i + 1) = Dil.cntTo r i + 1 := by rw [Dil.cntTo, if_pos h]
theorem cnt_step_ne {r : List Nat} {i : Nat} (h : ¬ r.getD i 0 = Dil.cntTo r i) : Dil.cntTo r (i + 1) = Dil.cntTo r i := by rw [Dil.cntTo, if_neg h]
theorem dr_more {w wr : World} (h : ∃ d, wr = w.drewN d) (n : Nat) : ∃ d, wr.drewN n = w.drewN d := by
  obtain ⟨d, rfl⟩ := h
  exact ⟨d + n, World.drewN_drewN _ _ _⟩
theorem cntTo_le (r : List Nat) (i : Nat) : Dil.cntTo r i ≤ i := by
  induction i with
  | zero => exact Nat.le_refl _
  | succ i ih => rw [Dil.cntTo]; split <;> omega
set_option maxRecDepth 20000 in
set_option maxHeartbeats 8000000 in
theorem dil_ok (m : List Nat) (v : Value) (k : Int) (w : World) (hr : Ints w w.heap.size v (zs m)) (hv : Odr.Valid m) (hT : Tab w) :
    Calls Tryd.prog 12 #[v, .int .i64 k] w fun e w' => e = .returned (.bool true) ∧ Below w.heap.size w w' := by
  have h0 := Lib.hid (chainFact_calls w hT)
  have h1 := Lib.hid fun (w5 : World) (h5 : Below w.heap.size w w5) => crows_ok m v w5 ((Rd.below hr h5).more h5.size) hv (hT.below h5)
  have h2 := Lib.hid fun (w5 : World) (h5 : Below w.heap.size w w5) => widest_ok m v w5 ((Rd.below hr h5).more h5.size) hv (hT.below h5)
  have h3 := Lib.hid fun (w5 : World) (h5 : Below w.heap.size w w5) => behind_ok m v w5 ((Rd.below hr h5).more h5.size) hv
  have hfew := hv.few
  have HRO := Lib.hid fun r (hr : Odr.fillOf (Odr.closed m) = some r) => Odr.rows_ok hv hr
  have hlen : (Odr.closed m).length = m.length := Odr.length_closed m
  have hfit := Lib.hid hv.fits.closed
  have HSI := Lib.hid fun s (hs : s < 2 ^ (Odr.closed m).length) h => dil_side (c := Odr.closed m) hs (by rw [hlen]; exact hfew) h
  have hwl : Odr.widest (Odr.closed m) < 4096 := Nat.lt_of_lt_of_le (Odr.widest_lt _) (by rw [hlen]; exact Nat.le_trans (Nat.pow_le_pow_right (by omega) hfew) (by decide))
  have HWS := Lib.hid ((Odr.sideB_iff hwl).1 (Odr.widest_side (Odr.closed m)))
  have HMO := Lib.hid (show Odr.mostOf (Odr.closed m) = Odr.pop 12 (Odr.widest (Odr.closed m)) from rfl)
  obtain ⟨A, cap, rfl⟩ := Rd.val hr
  have hlz : (zs m).length = m.length := by simp
  rw [hlz] at h1 h2 h3 ⊢
  clear hr hT hv hlz
  generalize Odr.closed m = c at *
  generalize m.length = n at *
  have hmany := Lib.hid fun w5 : World => rmany_calls (Odr.widest c) w5 hwl
  rw [← HMO.out] at hmany
  clear HMO
  generalize Odr.widest c = wid at *
  go_enter Tryd.func12, Tryd.ntmps12
  go_upto_region 9 with (first
    | (go_at_call 38; (with_reducible refine h0.out.mono ?_); rintro e w1 ⟨rfl, hb1⟩)
    | (go_at_call 42; (with_reducible refine (h1.out _ hb1).mono ?_); rintro e w2 ⟨v2, r, hfr, rfl, hi2, q2⟩; have hb2 := hb1.trans (q2.mono hb1.size))
    | (go_at_call 40; (with_reducible refine (h2.out _ hb2).mono ?_); rintro e w3 ⟨rfl, q3⟩; have hb3 := hb2.trans (q3.mono hb2.size))
    | (go_at_call 20; (with_reducible refine (h3.out _ hb3).mono ?_); rintro e w4 ⟨v4, rfl, ho4, q4⟩; have hb4 := hb3.trans (q4.mono hb3.size)))
  obtain ⟨rlen, rlow, rfew, rrow⟩ := HRO.out r hfr
  rw [hlen] at rlen rlow rfew rrow HSI
  have b24 := q3.trans (q4.mono q3.size)
  have HI2 := Lib.hid (show Ints w4 w4.heap.size v2 (zs r) from (Rd.below hi2 b24).more b24.size)
  have HI4 := Lib.hid (show Ints w4 w4.heap.size v4 (zs c) from ho4.ints)
  obtain ⟨A2, c2, rfl⟩ := Rd.val HI2.out
  obtain ⟨A4, c4, rfl⟩ := Rd.val HI4.out
  have hlr : (zs r).length = n := by rw [length_zs]; exact rlen
  have hlc : (zs c).length = n := by rw [length_zs]; exact hlen
  rw [hlr] at HI2 ⊢
  rw [hlc] at HI4 ⊢
  have HROW := Lib.hid rrow
  have HLOW := Lib.hid rlow
  have HFEW := Lib.hid rfew
  have HB4 := Lib.hid hb4
  have HRL := Lib.hid rlen
  have HCL := Lib.hid hlen
  have t1 : ((n : Int) != (n : Int)) = false := by simp
  have t2 : decide ((wid : Int) < 0) = false := by simp
  have t3 : decide ((4095 : Int) < (wid : Int)) = false := by simp; omega
  clear h0 h1 h2 h3 HRO hi2 ho4 q2 q3 q4 b24 rrow rlow rfew hb4 hb1 hb2 hb3 rlen hlen hlr hlc hfr
  go_wp2_with fail
  clear t1 t2 t3
  go_loopw [12, 13] (fun mv iv wr => ∃ i : Nat, i ≤ n ∧ mv = nv (Dil.cntTo r i) ∧ iv = nv i ∧ ∃ d, wr = w4.drewN d) (fun _ iv _ => n - (intOf iv).toNat)
  case atStart => exact ⟨0, Nat.zero_le _, rfl, rfl, 0, rfl⟩
  case round =>
    obtain ⟨i, hi, rfl, rfl, d, rfl⟩ := hrel
    by_cases hin : i < n
    · clear hmany HSI HFEW
      obtain ⟨bx, ox, cx', he, _, gi⟩ := Ints.atN HI2.out (k := i) (by rw [HRL.out]; exact hin)
      rw [HRL.out] at he
      injection he with he1 he2 he3
      subst he1 he3
      clear he2
      obtain ⟨by_, oy, cy', he, _, gci⟩ := Ints.atN HI4.out (k := i) (by rw [HCL.out]; exact hin)
      rw [HCL.out] at he
      injection he with he1 he2 he3
      subst he1 he3
      clear he2
      have hqM : r.getD i 0 ≤ Dil.cntTo r i := HLOW.out i hin
      have hM := cntTo_le r i
      have HNE := Lib.hid fun h => cnt_step_ne (r := r) (i := i) h
      have HEQ := Lib.hid fun h => cnt_step_eq (r := r) (i := i) h
      have hrow := Lib.hid (HROW.out i hin)
      have hci : c.getD i 0 < 4096 := fits12 (l := c) (by have := HCL.out; omega) (hfit.out.getD i)
      have hB1 := Lib.hid fun j (hj : j < 64) w5 => bit12 (c.getD i 0) j w5 hci hj
      have hrl1 : ∀ j, (c.getD i 0).testBit j = Odr.rel c i j := fun _ => rfl
      simp only [hrl1] at hB1
      obtain ⟨M, hMM⟩ : ∃ M, M = Dil.cntTo r i := ⟨_, rfl⟩
      obtain ⟨q, hq⟩ : ∃ q, q = r.getD i 0 := ⟨_, rfl⟩
      obtain ⟨ci, hci2⟩ : ∃ ci, ci = c.getD i 0 := ⟨_, rfl⟩
      rw [← hMM] at hqM hM HNE HEQ ⊢
      rw [← hq] at gi hqM HNE HEQ hrow
      rw [← hci2] at gci hB1 hci
      clear hMM hq hci2 hrl1
      have gi' : (w4.drewN d).cell? ⟨bx, ox + i, none⟩ = some (nv q) := gi
      have s1 : decide ((q : Int) < 0) = false := by simp
      have s2 : decide ((M : Int) < (q : Int)) = false := by simp; omega
      have s3 : (0 : Int) ≤ (i : Int) := by omega
      have s4 : (i : Int) < (n : Int) := by omega
      have s5 : IntKind.i64.wrap ((M : Int) + 1) = (M : Int) + 1 := IntWalk.i64_in _ (by constructor <;> omega)
      obtain ⟨M2, hM2⟩ : ∃ M2, M2 = Dil.cntTo r (i + 1) := ⟨_, rfl⟩
      rw [← hM2] at HNE HEQ
      have HM2 := Lib.hid hM2
      clear hM2
      go_upto_if 95 with fail
      go_cut [12] from 71 to 142 (fun s12 wX => s12 = nv M2 ∧ Hid (∃ d, wX = w4.drewN d))
      case first =>
        by_cases hqe : q = M
        · have hM2 := HEQ.out hqe
          have s6 : ((q : Int) == (M : Int)) = true := by simp; omega
          clear hqe
          go_wp2_with fail
          go_meet
          case rel => exact ⟨by (rw [hM2]) <;> go_num, Lib.hid ⟨_, rfl⟩⟩
        · have hM2 := HNE.out hqe
          have s6 : ((q : Int) == (M : Int)) = false := by simp; omega
          clear hqe
          go_wp2_with fail
          go_meet
          case rel => exact ⟨by rw [hM2], Lib.hid ⟨_, rfl⟩⟩
      case rest =>
        rename_i K hK
        have HK := Lib.hid hK
        clear hK
        obtain ⟨rfl, hd0⟩ := hcut
        refine HK.out _ _ ?_
        clear HK HNE HEQ gi' s1 s2 s5
        go_wp2_with fail
        go_loopw [14] (fun jv wr => ∃ j : Nat, j ≤ i ∧ jv = nv j ∧ Hid (∃ d, wr = w4.drewN d)) (fun jv _ => i - (intOf jv).toNat)
        case atStart => exact ⟨0, Nat.zero_le _, rfl, hd0⟩
        case round =>
          clear hd0
          obtain ⟨j, hj, rfl, hd⟩ := hrel
          by_cases hji : j < i
          · obtain ⟨bx', ox', cx', he, _, gj⟩ := Ints.atN HI2.out (k := j) (by rw [HRL.out]; omega)
            rw [HRL.out] at he
            injection he with he1 he2 he3
            injection he1 with he1
            injection he1 with he4 he5
            subst he4 he5
            clear he2 he3
            obtain ⟨by', oy', cy', he, _, gcj⟩ := Ints.atN HI4.out (k := j) (by rw [HCL.out]; omega)
            rw [HCL.out] at he
            injection he with he1 he2 he3
            injection he1 with he1
            injection he1 with he4 he5
            subst he4 he5
            clear he2 he3
            have hcj : c.getD j 0 < 4096 := fits12 (l := c) (by have := HCL.out; omega) (hfit.out.getD j)
            have hB2 := Lib.hid fun w5 => bit12 (c.getD j 0) i w5 hcj (by omega)
            have hrl2 : (c.getD j 0).testBit i = Odr.rel c j i := rfl
            rw [hrl2] at hB2
            have hB1' := Lib.hid fun w5 => hB1.out j (by omega) w5
            have hrow' := hrow.out j hji
            have hw1 := HWS.out i j
            have hw2 := HWS.out j i
            have hBi := Lib.hid fun dd w5 => bitq wid i dd w5 hwl (by omega)
            have hBj := Lib.hid fun dd w5 => bitq wid j dd w5 hwl (by omega)
            obtain ⟨cj, hcj2⟩ : ∃ cj, cj = c.getD j 0 := ⟨_, rfl⟩
            obtain ⟨qj, hqj⟩ : ∃ qj, qj = r.getD j 0 := ⟨_, rfl⟩
            rw [← hcj2] at gcj hB2 hcj
            rw [← hqj] at gj hrow'
            clear hcj2 hqj hrl2
            generalize Odr.rel c i j = ra at *
            generalize Odr.rel c j i = rb at *
            generalize wid.testBit i = wi at *
            generalize wid.testBit j = wj at *
            have hyes := Lib.hid (show (ra || rb) = true → wi = true → wj = true → False from fun h a b => by
              cases ra
              · have h2 : rb = true := h
                have := hw2 b a
                rw [h2] at this; cases this
              · have := hw1 a b; cases this)
            have hnon := Lib.hid (show (ra || rb) = false → ¬ q = qj from fun h e => by
              have := hrow' e.symm
              rw [Bool.or_comm, h] at this; cases this)
            obtain ⟨nr, hnr⟩ : ∃ nr, nr = (ra || rb) := ⟨_, rfl⟩
            rw [← hnr] at hyes hnon
            have HNR := Lib.hid hnr
            clear hnr hrow' hw1 hw2
            have k1 : wr.cell? ⟨by_, oy + i, none⟩ = some (nv ci) := by obtain ⟨d2, e⟩ := hd.out; rw [e]; exact gci
            have k2 : wr.cell? ⟨by_, oy + j, none⟩ = some (nv cj) := by obtain ⟨d2, e⟩ := hd.out; rw [e]; exact gcj
            have k3 : wr.cell? ⟨bx, ox + i, none⟩ = some (nv q) := by obtain ⟨d2, e⟩ := hd.out; rw [e]; exact gi
            have k4 : wr.cell? ⟨bx, ox + j, none⟩ = some (nv qj) := by obtain ⟨d2, e⟩ := hd.out; rw [e]; exact gj
            have HD := Lib.hid fun nq => dr_more hd.out nq
            clear gi gj gci gcj
            have s7 : (0 : Int) ≤ (j : Int) := by omega
            have s8 : (j : Int) < (n : Int) := by omega
            clear hB1 hrow hd
            go_upto_region 22 with fail
            obtain ⟨wo, rfl⟩ : ∃ wo : World, wo = wr := ⟨_, rfl⟩
            go_cut [15] from 98 to 142 (fun s15 wX => s15 = .bool nr ∧ wo = wX)
            case first =>
              clear hyes hnon hBi hBj HD k3 k4
              cases ra with
              | true =>
                clear hB2
                go_wp2_with fail
                (with_reducible refine (hB1'.out _).mono ?_)
                rintro e w6 ⟨rfl, rfl⟩
                go_wp2_with fail
                go_meet
                case rel => exact ⟨by rw [HNR.out]; rfl, rfl⟩
              | false =>
                go_wp2_with fail
                (with_reducible refine (hB1'.out _).mono ?_)
                rintro e w6 ⟨rfl, rfl⟩
                go_wp2_with fail
                (with_reducible refine (hB2.out _).mono ?_)
                rintro e w6 ⟨rfl, rfl⟩
                go_wp2_with fail
                go_meet
                case rel => exact ⟨by rw [HNR.out]; simp, rfl⟩
            case rest =>
              rename_i K hK
              have HK := Lib.hid hK
              clear hK
              obtain ⟨rfl, hwx⟩ := hcut
              subst hwx
              refine HK.out _ _ ?_
              clear HK HNR hB1' hB2 k1 k2
              cases nr with
              | true =>
                have hyes' := Lib.hid (hyes.out rfl)
                clear hyes hnon
                have hww : wi = false ∨ (wi = true ∧ wj = false) := by
                  cases wi
                  · exact .inl rfl
                  · cases wj
                    · exact .inr ⟨rfl, rfl⟩
                    · exact (hyes'.out rfl rfl).elim
                clear hyes'
                by_cases hqq : q = qj
                · obtain rfl : qj = q := hqq.symm
                  clear hqq
                  rcases hww with rfl | ⟨rfl, rfl⟩
                  all_goals
                    go_wp2_with fail
                    go_quiet ((first | (go_at_call 34; with_reducible exact hBi.out _ _) | (go_at_call 34; with_reducible exact hBj.out _ _)))
                    go_wp2_with fail
                    go_roundw
                    case rel => exact ⟨j + 1, by omega, by go_num, Lib.hid (HD.out _)⟩
                    case measure => simp [intOf]; omega
                · have hqn : ((q : Int) == (qj : Int)) = false := by simp; omega
                  clear hqq
                  rcases hww with rfl | ⟨rfl, rfl⟩
                  all_goals
                    go_wp2_with fail
                    go_quiet ((first | (go_at_call 34; with_reducible exact hBi.out _ _) | (go_at_call 34; with_reducible exact hBj.out _ _)))
                    go_wp2_with fail
                    go_roundw
                    case rel => exact ⟨j + 1, by omega, by go_num, Lib.hid (HD.out _)⟩
                    case measure => simp [intOf]; omega
              | false =>
                have hqq := hnon.out rfl
                have hqn : ((q : Int) == (qj : Int)) = false := by simp; omega
                clear hyes hnon hqq
                cases wi
                case true =>
                  cases wj
                  all_goals
                    go_wp2_with fail
                    go_quiet ((first | (go_at_call 34; with_reducible exact hBi.out _ _) | (go_at_call 34; with_reducible exact hBj.out _ _)))
                    go_wp2_with fail
                    go_roundw
                    case rel => exact ⟨j + 1, by omega, by go_num, Lib.hid (HD.out _)⟩
                    case measure => simp [intOf]; omega
                case false =>
                  go_wp2_with fail
                  go_quiet ((first | (go_at_call 34; with_reducible exact hBi.out _ _) | (go_at_call 34; with_reducible exact hBj.out _ _)))
                  go_wp2_with fail
                  go_roundw
                  case rel => exact ⟨j + 1, by omega, by go_num, Lib.hid (HD.out _)⟩
                  case measure => simp [intOf]; omega
          · obtain rfl : j = i := by omega
            obtain ⟨d2, hd2⟩ := hd.out
            subst hd2
            go_wp2_with fail
            go_roundw
            case rel => exact ⟨j + 1, by omega, by rw [HM2.out], by go_num, d2, rfl⟩
            case measure => simp [intOf]; omega
    · obtain rfl : i = n := by omega
      rw [HFEW.out]
      clear HROW HLOW HFEW HWS HI2 HRL hin hi
      have HP := Lib.hid fun w5 => pow2_calls i w5 (by omega)
      have h2p : 2 ^ i ≤ 4096 := show 2 ^ i ≤ 2 ^ 12 from Nat.pow_le_pow_right (by omega) hfew
      obtain ⟨N, hN⟩ : ∃ N, N = 2 ^ i := ⟨_, rfl⟩
      rw [← hN] at HP HSI h2p
      clear hN
      obtain ⟨M, hM⟩ : ∃ M, M = Odr.mostOf c := ⟨_, rfl⟩
      rw [← hM] at hmany HSI ⊢
      clear hM
      obtain ⟨w6, hw6⟩ : ∃ w6, w6 = w4.drewN d := ⟨_, rfl⟩
      rw [← hw6]
      have HB6 := Lib.hid (show Below w.heap.size w w6 by rw [hw6]; exact drn HB4.out _)
      have HI6 := Lib.hid (show Ints w6 w6.heap.size _ (zs c) by rw [hw6]; exact HI4.out)
      clear hw6 HB4 HI4
      have t1 : ((M : Int) != (M : Int)) = false := by simp
      by_cases hk0 : k < 0
      · have t2 : decide (k < 0) = true := by simpa using hk0
        go_wp2_with fail
        (with_reducible refine (hmany.out _).mono ?_)
        rintro e w7 ⟨rfl, rfl⟩
        go_wp2_with fail
        go_ret
        exact ⟨rfl, HB6.out⟩
      · obtain ⟨s, rfl⟩ := Int.eq_ofNat_of_zero_le (show 0 ≤ k by omega)
        clear hk0
        have t2 : decide ((s : Int) < 0) = false := by simp
        by_cases hsN : s < N
        · have t3 : decide (N ≤ s) = false := by simp; omega
          have hs12 : s < 4096 := by omega
          have HS := Lib.hid (HSI.out s hsN)
          clear HSI
          go_wp2_with fail
          (with_reducible refine (hmany.out _).mono ?_)
          rintro e w7 ⟨rfl, rfl⟩
          go_wp2_with fail
          (with_reducible refine (HP.out _).mono ?_)
          rintro e w7 ⟨rfl, rfl⟩
          clear hmany HP
          go_wp2_with fail
          clear t1 t2 t3
          go_loopw [16] (fun iv wr => ∃ j : Nat, j ≤ i ∧ iv = nv j ∧ w6 = wr ∧ Hid (∀ x, x < j → s.testBit x = true → c.getD x 0 &&& s = 0)) (fun iv _ => i - (intOf iv).toNat)
          case atStart => exact ⟨0, Nat.zero_le _, rfl, rfl, Lib.hid fun x hx => absurd hx (Nat.not_lt_zero _)⟩
          case round =>
            obtain ⟨j, hj, rfl, hw7, hall⟩ := hrel
            subst hw7
            by_cases hji : j < i
            · obtain ⟨by', oy', cy', he, _, gcj⟩ := Ints.atN HI6.out (k := j) (by rw [HCL.out]; omega)
              rw [HCL.out] at he
              cases he
              have hx12 : c.getD j 0 < 4096 := fits12 (l := c) (by have := HCL.out; omega) (hfit.out.getD j)
              have hB := Lib.hid fun w5 => bit12 s j w5 hs12 (by omega)
              have hO := Lib.hid fun w5 => both_calls (c.getD j 0) s w5 (by omega) (by omega)
              obtain ⟨x, hx⟩ : ∃ x, x = c.getD j 0 := ⟨_, rfl⟩
              rw [← hx] at gcj hx12 hO
              have HX := Lib.hid hx
              clear hx
              cases hbit : s.testBit j with
              | false =>
                rw [hbit] at hB
                have hall' := Lib.hid (show ∀ x, x < j + 1 → s.testBit x = true → c.getD x 0 &&& s = 0 from fun y hy hb => by
                  rcases Nat.lt_or_ge y j with h | h
                  · exact hall.out y h hb
                  · obtain rfl : y = j := by omega
                    rw [hbit] at hb; cases hb)
                clear hbit hO
                go_wp2_with fail
                (with_reducible refine (hB.out _).mono ?_)
                rintro e w7 ⟨rfl, rfl⟩
                clear hB
                go_wp2_with fail
                go_roundw
                case rel => first | exact ⟨j + 1, by omega, by go_num, trivial, hall'⟩ | ((repeat apply Exists.intro); refine ⟨?_, rfl⟩; exact ⟨j + 1, by omega, by go_num, trivial, hall'⟩)
                case measure => simp [intOf]; omega
              | true =>
                rw [hbit] at hB
                by_cases hz : x &&& s = 0
                · have hall' := Lib.hid (show ∀ x, x < j + 1 → s.testBit x = true → c.getD x 0 &&& s = 0 from fun y hy hb => by
                    rcases Nat.lt_or_ge y j with h | h
                    · exact hall.out y h hb
                    · obtain rfl : y = j := by omega
                      rw [← HX.out]; exact hz)
                  rw [hz] at hO
                  clear hbit hz
                  go_wp2_with fail
                  (with_reducible refine (hB.out _).mono ?_)
                  rintro e w7 ⟨rfl, rfl⟩
                  clear hB
                  go_wp2_with fail
                  (with_reducible refine (hO.out _).mono ?_)
                  rintro e w7 ⟨rfl, rfl⟩
                  clear hO
                  go_wp2_with fail
                  go_roundw
                  case rel => first | exact ⟨j + 1, by omega, by go_num, trivial, hall'⟩ | ((repeat apply Exists.intro); refine ⟨?_, rfl⟩; exact ⟨j + 1, by omega, by go_num, trivial, hall'⟩)
                  case measure => simp [intOf]; omega
                · have hnz : (((x &&& s : Nat) : Int) != 0) = true := by simp; omega
                  obtain ⟨y, hy⟩ : ∃ y, y = x &&& s := ⟨_, rfl⟩
                  rw [← hy] at hO hnz
                  clear hbit hz hy
                  go_wp2_with fail
                  (with_reducible refine (hB.out _).mono ?_)
                  rintro e w7 ⟨rfl, rfl⟩
                  clear hB
                  go_wp2_with fail
                  (with_reducible refine (hO.out _).mono ?_)
                  rintro e w7 ⟨rfl, rfl⟩
                  clear hO
                  go_wp2_with fail
                  go_ret
                  exact ⟨rfl, HB6.out⟩
            · obtain rfl : j = i := by omega
              have hle := HS.out hall.out
              have hM2 := Lib.hid fun w5 => rmany_calls s w5 hs12
              obtain ⟨P, hP⟩ : ∃ P, P = Odr.pop 12 s := ⟨_, rfl⟩
              rw [← hP] at hle hM2
              clear hP HS
              have t4 : decide (P ≤ M) = true := by simp; omega
              go_wp2_with fail
              (with_reducible refine (hM2.out _).mono ?_)
              rintro e w7 ⟨rfl, rfl⟩
              go_wp2_with fail
              go_ret
              exact ⟨by first | rfl | simp [t4], HB6.out⟩
        · have t3 : decide (N ≤ s) = true := by simp; omega
          go_wp2_with fail
          (with_reducible refine (hmany.out _).mono ?_)
          rintro e w7 ⟨rfl, rfl⟩
          go_wp2_with fail
          (with_reducible refine (HP.out _).mono ?_)
          rintro e w7 ⟨rfl, rfl⟩
          go_wp2_with fail
          go_ret
          exact ⟨rfl, HB6.out⟩
/-- the law at every input -/
theorem dil_calls (l : List Int) (v : Value) (k : Int) (w : World) (hr : Ints w w.heap.size v l) (hT : Tab w) :
    Calls Tryd.prog 12 #[v, .int .i64 k] w fun e w' => e = .returned (.bool true) ∧ Below w.heap.size w w' := by
  by_cases h : orderCode l = 0
  · obtain ⟨m, rfl, hv⟩ := orderCode_zero h
    exact dil_ok m v k w hr hv hT
  · exact dil_err l v k w hr h hT
end Go.Proofs.YtpicjikjinkkpaaDoor
