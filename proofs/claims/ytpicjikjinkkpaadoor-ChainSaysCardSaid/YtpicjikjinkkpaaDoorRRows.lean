/- Contracts of the reference's rows and Rows. Conditions: each contract's own premises. -/
import Derived.Test.YtpicjikjinkkpaaDoorRRowsM
import Derived.Test.YtpicjikjinkkpaaDoorRWid
import Derived.Test.YtpicjikjinkkpaaDoorRRank
namespace Go.Proofs.YtpicjikjinkkpaaDoor
open Go.RowKit

theorem Dil.okr_stop {c told : List Nat} {i k m n : Nat} (h : okr c told i k m = false) (hm : m ≤ n) : okr c told i k n = false := by
  cases q : okr c told i k n with
  | false => rfl
  | true =>
    have := okr_iff.2 (fun j hj => okr_iff.1 q j (Nat.lt_of_lt_of_le hj hm))
    rw [h] at this; cases this
theorem Dil.okr_up (c told : List Nat) (i k m : Nat) (h : okr c told i k m = true) : okr c told i k (m + 1) = (!(decide (told.getD m 0 = k)) || (Odr.rel c i m || Odr.rel c m i)) := by
  rw [okr, h, Bool.true_and]
theorem Dil.cnt_top (l : List Nat) (j : Nat) : cntTo l j ≤ j := by
  induction j with
  | zero => exact Nat.le_refl _
  | succ j ih => rw [cntTo]; split <;> omega
set_option maxRecDepth 20000 in
set_option maxHeartbeats 8000000 in
theorem rrows_rec (c : List Nat) (most : Nat) (v : Value) (hf : Odr.Fits c) (hn : c.length ≤ 12) (hm : most ≤ 12) (f : Nat) : ∀ (told rows : List Nat) (u : Value) (w : World), Kept w v (zs c) → Kept w u (zs told) → told.length + f = c.length → Dil.Laidin (Odr.nearOf c) told rows → rows.length ≤ most →
    Calls Tryd.prog 74 #[v, u, nv most] w fun en w' => (∃ v', en = .returned v' ∧ Kept w' v' (zs (Dil.rans told (Dil.fill (Odr.nearOf c) most f told.length rows)))) ∧ Below w.heap.size w w' := by
  induction f with
  | zero =>
    intro told rows u w hv hu hl hL hrm
    have HU := Lib.hid (show Kept w u (zs (Dil.rans told (Dil.fill (Odr.nearOf c) most 0 told.length rows))) by
      rw [Dil.fill]
      show Kept w u (zs (told ++ []))
      rw [List.append_nil]; exact hu)
    obtain ⟨A, cp, rfl⟩ := Rd.val hv.ints
    obtain ⟨A', cp', rfl⟩ := Rd.val hu.ints
    simp only [length_zs] at *
    have t1 : ((told.length : Int) == (c.length : Int)) = true := by simp; omega
    clear hv hu hf hL hrm hl
    go_enter Tryd.func74, Tryd.ntmps74
    go_wp2_with fail
    go_ret
    exact ⟨⟨_, rfl, HU.out⟩, Below.refl _ _⟩
  | succ f ih =>
    intro told rows u w hv hu hl hL hrm
    have IH := Lib.hid ih
    have HV := Lib.hid hv
    have HU := Lib.hid hu
    have HF := Lib.hid hf
    have HL := Lib.hid hL
    have HCN := Lib.hid (show Dil.cntTo told told.length = rows.length from hL.1)
    have hlt : told.length < c.length := by omega
    have HUP := Lib.hid fun j (hj : j < told.length) => Dil.cnt_up (hL.2.2.1 j hj)
    have HLW := Lib.hid hL.2.2.1
    obtain ⟨A, cp, rfl⟩ := Rd.val hv.ints
    obtain ⟨A', cp', rfl⟩ := Rd.val hu.ints
    simp only [length_zs] at *
    have t1 : ((told.length : Int) == (c.length : Int)) = false := by simp; omega
    clear ih hv hu hf hL
    go_enter Tryd.func74, Tryd.ntmps74
    go_wp2_with fail
    clear t1
    go_loopw [8, 9] (fun nx jv wr => ∃ j : Nat, j ≤ told.length ∧ nx = nv (Dil.cntTo told j) ∧ jv = nv j ∧ w = wr) (fun _ jv _ => told.length - (intOf jv).toNat)
    case atStart => exact ⟨0, Nat.zero_le _, rfl, rfl, rfl⟩
    case round =>
      obtain ⟨j, hj, rfl, rfl, rfl⟩ := hrel
      by_cases hjt : j < told.length
      · obtain ⟨b1, o1, c1, he1, _, dk⟩ := Ints.atN (HU.out w (Below.refl _ _)) (k := j) hjt
        cases he1
        have hup := HUP.out j hjt
        have hlw := HLW.out j hjt
        have hct := Dil.cnt_top told j
        obtain ⟨q, hq⟩ : ∃ q, q = Dil.cntTo told j := ⟨_, rfl⟩
        obtain ⟨x, hx⟩ : ∃ x, x = told.getD j 0 := ⟨_, rfl⟩
        obtain ⟨q', hq'⟩ : ∃ q', q' = Dil.cntTo told (j + 1) := ⟨_, rfl⟩
        rw [← hq', ← hq, ← hx] at hup
        rw [← hq, ← hx] at hlw
        rw [← hq] at hct ⊢
        rw [← hx] at dk
        have HQ' := Lib.hid hq'
        clear hq hx hq'
        have e5 : IntKind.i64.wrap ((x : Int) + 1) = (x : Int) + 1 := IntWalk.i64_in _ (by constructor <;> omega)
        by_cases hqx : q ≤ x
        · rw [if_pos hqx] at hup
          have HP := Lib.hid hup
          have t2 : decide ((q : Int) ≤ (x : Int)) = true := by simp; omega
          clear hup
          go_wp2_with fail
          go_roundw
          case rel => exact ⟨j + 1, by omega, by (rw [← HQ'.out, HP.out]) <;> go_num, by go_num, trivial⟩
          case measure => simp [intOf]; omega
        · rw [if_neg hqx] at hup
          have HP := Lib.hid hup
          have t2 : decide ((q : Int) ≤ (x : Int)) = false := by simp; omega
          clear hup
          go_wp2_with fail
          go_roundw
          case rel => exact ⟨j + 1, by omega, by rw [← HQ'.out, HP.out], by go_num, trivial⟩
          case measure => simp [intOf]; omega
      · obtain rfl : j = told.length := by omega
        rw [HCN.out]
        clear HUP HLW HCN hjt hj
        obtain ⟨R, hR⟩ : ∃ R, R = rows.length := ⟨_, rfl⟩
        rw [← hR] at hrm ⊢
        have HR := Lib.hid hR
        clear hR
        go_wp2_with fail
        go_loopw [10] (fun kv wk => ∃ k : Nat, (k ≤ R + 1 ∧ k ≤ most) ∧ kv = nv k ∧ Hid (∀ j, j < k → Dil.tryR c most f told rows j = none) ∧ Hid (Below w.heap.size w wk)) (fun kv _ => most - (intOf kv).toNat)
        case atStart => exact ⟨0, ⟨Nat.zero_le _, Nat.zero_le _⟩, rfl, Lib.hid (fun j hj => absurd hj (Nat.not_lt_zero _)), Lib.hid (Below.refl _ _)⟩
        case round =>
          obtain ⟨k, ⟨hk1, hk2⟩, rfl, hno, hb⟩ := hrel
          obtain ⟨wo, rfl⟩ : ∃ wo : World, wo = wr := ⟨_, rfl⟩
          by_cases hkk : k ≤ R ∧ k < most
          · obtain ⟨hkR, hkm⟩ := hkk
            have t2 : decide ((k : Int) ≤ (R : Int)) = true := by simp; omega
            have t3 : decide ((k : Int) < (most : Int)) = true := by simp; omega
            go_wp2_with fail
            clear t2 t3
            go_loopw [11, 12] (fun ov jv wk => ∃ j : Nat, j ≤ told.length ∧ ov = .bool (Dil.okr c told told.length k j) ∧ jv = nv j ∧ wo = wk) (fun _ jv _ => told.length - (intOf jv).toNat)
            case atStart => exact ⟨0, Nat.zero_le _, rfl, rfl, rfl⟩
            case round =>
              obtain ⟨j, hj, rfl, rfl, hww⟩ := hrel
              subst hww
              cases hok : Dil.okr c told told.length k j with
              | false =>
                have HNO := Lib.hid (show ∀ j, j < k + 1 → Dil.tryR c most f told rows j = none from fun j' hj' => by
                  by_cases h : j' < k
                  · exact hno.out j' h
                  · obtain rfl : j' = k := by omega
                    exact Dil.tryR_no (Dil.okr_stop hok hj))
                clear hok
                have hjj : j < told.length ∨ ¬ j < told.length := by omega
                rcases hjj with hjj | hjj
                all_goals
                  go_wp2_with fail
                  go_roundw
                  case rel => exact ⟨k + 1, ⟨by omega, by omega⟩, by go_num, HNO, hb⟩
                  case measure => simp [intOf]; omega
              | true =>
                by_cases hjt : j < told.length
                · obtain ⟨b1, o1, c1, he1, _, dj⟩ := Ints.atN (HU.out wo hb.out) (k := j) hjt
                  cases he1
                  obtain ⟨b2, o2, c2, he2, _, di⟩ := Ints.atN (HV.out wo hb.out) (k := told.length) hlt
                  cases he2
                  obtain ⟨b3, o3, c3, he3, _, dcj⟩ := Ints.atN (HV.out wo hb.out) (k := j) (by omega)
                  injection he3 with he4 he5 he6
                  injection he4 with he4
                  injection he4 with he7 he8
                  subst he7 he8
                  clear he5 he6
                  have hci : c.getD told.length 0 < 4096 := fits12 (l := c) hn (HF.out.getD _)
                  have hcj : c.getD j 0 < 4096 := fits12 (l := c) hn (HF.out.getD _)
                  have hB1 := Lib.hid fun w5 => bit12 (c.getD told.length 0) j w5 hci (by omega)
                  have hB2 := Lib.hid fun w5 => bit12 (c.getD j 0) told.length w5 hcj (by omega)
                  rw [show (c.getD told.length 0).testBit j = Odr.rel c told.length j from rfl] at hB1
                  rw [show (c.getD j 0).testBit told.length = Odr.rel c j told.length from rfl] at hB2
                  have HN := Lib.hid (Dil.okr_up c told told.length k j hok)
                  clear hok
                  obtain ⟨ci, hci2⟩ : ∃ ci, ci = c.getD told.length 0 := ⟨_, rfl⟩
                  obtain ⟨cj, hcj2⟩ : ∃ cj, cj = c.getD j 0 := ⟨_, rfl⟩
                  obtain ⟨x, hx⟩ : ∃ x, x = told.getD j 0 := ⟨_, rfl⟩
                  rw [← hci2] at hB1 hci di
                  rw [← hcj2] at hB2 hcj dcj
                  rw [← hx] at HN dj
                  clear hci2 hcj2 hx
                  by_cases hxk : x = k
                  · rw [decide_eq_true hxk] at HN
                    have t4 : ((x : Int) != (k : Int)) = false := by simp; omega
                    clear hxk
                    cases h1 : Odr.rel c told.length j with
                    | true =>
                      rw [h1] at HN hB1
                      clear h1 hB2
                      go_wp2_with fail
                      (with_reducible refine (hB1.out _).mono ?_)
                      rintro e5 w5 ⟨rfl, rfl⟩
                      clear hB1
                      go_wp2_with fail
                      go_roundw
                      case rel => exact ⟨j + 1, by omega, by rw [HN.out]; rfl, by go_num, trivial⟩
                      case measure => simp [intOf]; omega
                    | false =>
                      rw [h1] at HN hB1
                      clear h1
                      generalize Odr.rel c j told.length = rb at *
                      go_wp2_with fail
                      (with_reducible refine (hB1.out _).mono ?_)
                      rintro e5 w5 ⟨rfl, rfl⟩
                      clear hB1
                      go_wp2_with fail
                      (with_reducible refine (hB2.out _).mono ?_)
                      rintro e5 w5 ⟨rfl, rfl⟩
                      clear hB2
                      go_wp2_with fail
                      go_roundw
                      case rel => exact ⟨j + 1, by omega, by rw [HN.out]; simp, by go_num, trivial⟩
                      case measure => simp [intOf]; omega
                  · rw [decide_eq_false hxk] at HN
                    have t4 : ((x : Int) != (k : Int)) = true := by simp; omega
                    clear hxk hB1 hB2
                    go_wp2_with fail
                    go_roundw
                    case rel => exact ⟨j + 1, by omega, by rw [HN.out]; rfl, by go_num, trivial⟩
                    case measure => simp [intOf]; omega
                · obtain rfl : j = told.length := by omega
                  have HRC := Lib.hid (Dil.rans_cases (most := most) (rows := rows) hl hok)
                  have hL2 := Lib.hid (Dil.laidin_put HL.out hlt (by rw [← HR.out]; exact hkR) hok)
                  have hM2 := Dil.put_le (i := told.length) (by rw [← HR.out]; exact hrm) (by rw [← HR.out]; exact hkR) hkm
                  have HT := Lib.hid (HU.out _ hb.out)
                  have HOK := Lib.hid hok
                  clear hok
                  go_wp2_with (at_builtin; (first | (refine append_ints rfl _ _ rfl wo.heap.size _ [] rfl (Own.nil _ _) (.slice A' told.length cp') (zs told) wo.heap.size rfl HT.out (by simp; omega) (Nat.le_refl _) ?_; intro v2 w2 hown2 hb2 _; rw [List.nil_append] at hown2) | (refine append_int rfl _ _ rfl wo.heap.size _ (zs told) rfl (Own.alloc hown2 _) w2.heap.size rfl (k : Int) (by simp) (by rw [length_zs]; omega) (by have := hb2.size; simp; omega) ?_; intro v3 w3 hown3 hb3 _)))
                  have HO3 := Lib.hid hown3
                  have HB23 := (hb2.alloc hb2.size (.cells #[nv k] 3)).trans hb3
                  have HB3 := Lib.hid (hb.out.trans (HB23.mono hb.out.size))
                  have hnx : told.length + 1 + f = c.length := by omega
                  have hrec := Lib.hid (IH.out (told ++ [k]) (Dil.putR rows told.length k) v3 w3 (HV.out.next HB3.out) (Kept.of (by
                    have h := HO3.out.ints
                    rw [show zs told ++ [(k : Int)] = zs (told ++ [k]) by simp [zs]] at h
                    exact h)) (by rw [List.length_append]; exact hnx) hL2.out hM2)
                  rw [show (told ++ [k]).length = told.length + 1 by simp] at hrec
                  clear hown2 hb2 hown3 hb3 HB23 IH HT hL2 hM2
                  (with_reducible refine hrec.out.mono ?_)
                  rintro e5 w5 ⟨⟨v5, rfl, hk5⟩, hb5⟩
                  obtain ⟨A5, c5, rfl⟩ := Rd.val hk5.ints
                  rw [length_zs] at *
                  have HK5 := Lib.hid hk5
                  have HB5 := Lib.hid (HB3.out.trans (hb5.mono HB3.out.size))
                  clear hrec hk5 hb5
                  rcases HRC.out with ⟨hful, r, hr1, hr2⟩ | ⟨hful, hr1⟩
                  · have HRES := Lib.hid (Dil.fill_tryR HL.out hlt (by rw [← HR.out]; exact hkR) hkm hno.out hr1)
                    have t3 : (((Dil.rans (told ++ [k]) (Dil.fill (Odr.nearOf c) most f (told.length + 1) (Dil.putR rows told.length k))).length : Int) == (c.length : Int)) = true := by simp [hful]
                    have HR2 := Lib.hid hr2
                    clear hful hr1 hr2 HRC
                    generalize Dil.rans (told ++ [k]) (Dil.fill (Odr.nearOf c) most f (told.length + 1) (Dil.putR rows told.length k)) = L at *
                    go_wp2_with fail
                    go_ret
                    exact ⟨⟨_, rfl, by rw [HRES.out, ← HR2.out]; exact HK5.out⟩, HB5.out⟩
                  · have t3 : (((Dil.rans (told ++ [k]) (Dil.fill (Odr.nearOf c) most f (told.length + 1) (Dil.putR rows told.length k))).length : Int) == (c.length : Int)) = false := by simp; omega
                    have HNO := Lib.hid (show ∀ j, j < k + 1 → Dil.tryR c most f told rows j = none from fun j' hj' => by
                      by_cases h : j' < k
                      · exact hno.out j' h
                      · obtain rfl : j' = k := by omega
                        exact hr1)
                    clear hful hr1 HRC
                    generalize Dil.rans (told ++ [k]) (Dil.fill (Odr.nearOf c) most f (told.length + 1) (Dil.putR rows told.length k)) = L at *
                    go_wp2_with fail
                    go_roundw
                    case rel => exact ⟨k + 1, ⟨by omega, by omega⟩, by go_num, HNO, HB5⟩
                    case measure => simp [intOf]; omega
          · have HRES := Lib.hid (Dil.fill_noR (f := f) HL.out hlt (by rw [← HR.out]; exact hrm) (k := k) (by rw [← HR.out]; omega) hno.out)
            have hw : (decide ((k : Int) ≤ (R : Int)) = false ∧ ¬ k ≤ R) ∨ ((decide ((k : Int) ≤ (R : Int)) = true ∧ k ≤ R) ∧ decide ((k : Int) < (most : Int)) = false ∧ ¬ k < most) := by
              by_cases h : k ≤ R
              · exact .inr ⟨⟨by simp; omega, h⟩, by simp; omega, by omega⟩
              · exact .inl ⟨by simp; omega, h⟩
            rcases hw with ⟨t2, _⟩ | ⟨⟨t2, _⟩, t3, _⟩
            · go_wp2_with fail
              go_ret
              exact ⟨⟨_, rfl, by rw [HRES.out]; exact Kept.nil _⟩, hb.out⟩
            · go_wp2_with fail
              go_ret
              exact ⟨⟨_, rfl, by rw [HRES.out]; exact Kept.nil _⟩, hb.out⟩
theorem rrows_k (m r : List Nat) (v : Value) (w : World) (hr : Ints w w.heap.size v (zs m)) (hv : Odr.Valid m) (hf : Odr.fillOf (Odr.closed m) = some r) :
    Calls Tryd.prog 59 #[v] w fun e w' => (∃ v', e = .returned v' ∧ Kept w' v' (zs r)) ∧ Below w.heap.size w w' := by
  have hk := Kept.of hr
  have c1 := Lib.hid (rclosed_k m v w hr hv)
  have c2 := Lib.hid fun (w1 : World) (hb : Below w.heap.size w w1) => rwidest_calls m v w1 (hk w1 hb) hv
  have hcl := Odr.length_closed m
  have hfew := hv.few
  have hcf := hv.fits.closed
  have hwl : Odr.widest (Odr.closed m) < 4096 := Nat.lt_of_lt_of_le (Odr.widest_lt _) (by rw [hcl]; exact Nat.le_trans (Nat.pow_le_pow_right (by omega) hfew) (by decide))
  have hmo : Odr.pop 12 (Odr.widest (Odr.closed m)) ≤ 12 := Odr.cnt_le 12 _
  have c3 := Lib.hid fun (w1 : World) => rmany_calls (Odr.widest (Odr.closed m)) w1 hwl
  have c4 := Lib.hid fun (u : Value) (w1 : World) (hu : Kept w1 u (zs (Odr.closed m))) => rrows_rec (Odr.closed m) (Odr.pop 12 (Odr.widest (Odr.closed m))) u hcf (by omega) hmo (Odr.closed m).length [] [] (.slice none 0 0) w1 hu (Kept.nil w1) (by simp) (Dil.laidin_nil _) (Nat.zero_le _)
  rw [show Dil.rans [] (Dil.fill (Odr.nearOf (Odr.closed m)) (Odr.pop 12 (Odr.widest (Odr.closed m))) (Odr.closed m).length ([] : List Nat).length []) = r from by
    show Dil.rans [] (Odr.fillOf (Odr.closed m)) = r
    rw [hf]; rfl] at c4
  clear hr hv hk hcf hwl hf hcl hfew hmo
  generalize Odr.pop 12 (Odr.widest (Odr.closed m)) = P at *
  generalize Odr.widest (Odr.closed m) = W at *
  generalize Odr.closed m = c at *
  go_enter Tryd.func59, Tryd.ntmps59
  go_wp2_with fail
  (with_reducible refine c1.out.mono ?_)
  rintro e w1 ⟨⟨u, rfl, hu⟩, hb1⟩
  have HU := Lib.hid hu
  clear c1 hu
  go_wp2_with fail
  (with_reducible refine (c2.out w1 hb1).mono ?_)
  rintro e w2 ⟨rfl, hb2⟩
  have hb12 := hb1.trans (hb2.mono hb1.size)
  have HU2 := Lib.hid (HU.out.next hb2)
  clear c2 HU hb1 hb2
  go_wp2_with fail
  (with_reducible refine (c3.out w2).mono ?_)
  rintro e w3 ⟨rfl, rfl⟩
  clear c3
  go_wp2_with fail
  (with_reducible refine (c4.out u _ HU2.out).mono ?_)
  rintro e w4 ⟨⟨v4, rfl, hk4⟩, hb4⟩
  have HK4 := Lib.hid hk4
  have hb14 := hb12.trans (hb4.mono hb12.size)
  clear c4 hk4 hb4 hb12
  go_wp2_with fail
  go_ret
  exact ⟨⟨v4, rfl, HK4.out⟩, hb14⟩
end Go.Proofs.YtpicjikjinkkpaaDoor
