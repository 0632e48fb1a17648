/- The walk of the statement PriorOrder: at every input it returns true. Conditions: none beyond the handle's. -/
import Derived.Test.YtkindaadadggoaaDoorPFact
import Derived.Test.YtkindaadadggoaaDoorSerial
import Derived.IntWalk
namespace Go.Proofs.YtkindaadadggoaaDoor
open Go.RowKit

set_option maxRecDepth 20000 in
set_option maxHeartbeats 4000000 in
theorem pord_ok (sk : Bool) (s : List Act3) (v : Value) (w : World) (hr : Acts w w.heap.size v s) (hE : ErrTy w) :
    Calls Tryd.prog 11 #[.bool sk, v] w fun e w' => e = .returned (.bool true) ∧ Below w.heap.size w w' := by
  have hf := Lib.hid (priorFact_calls w hE)
  have HR := Lib.hid hr
  obtain ⟨A, cap, rfl⟩ := Rd.val hr
  clear hr
  go_enter Tryd.func11, Tryd.ntmps11
  go_wp2_with fail
  (with_reducible refine hf.out.mono ?_)
  rintro e w1 ⟨rfl, hb1⟩
  have hn := Lib.hid (gnew_calls sk w1)
  clear hf
  go_wp2_with fail
  (with_reducible refine hn.out.mono ?_)
  rintro e w2 ⟨rfl, hg2, hb2, hs2⟩
  have hbb := hb1.trans (hb2.mono hb1.size)
  generalize hbq : w1.heap.size = b at *
  have HBQ := Lib.hid (show w.heap.size ≤ b by rw [← hbq]; exact hb1.size)
  have hga0 := Lib.hid hg2
  clear hn hb1 hb2 hbq hs2 hg2
  go_wp2_with fail
  go_loopw [7] (fun i wr => ∃ (k : Nat) (g : Gt.G) (v : Value), k ≤ s.length ∧ i = nv k ∧ Hid (Gt.Inv g) ∧ Hid (GateAt wr b sk g v) ∧ Below w.heap.size w wr) (fun i _ => s.length - (intOf i).toNat)
  case atStart => exact ⟨0, Gt.g0, _, Nat.zero_le _, rfl, Lib.hid Gt.inv0, hga0, hbb⟩
  case round =>
    clear hga0 hbb
    obtain ⟨k, g, v, hk, rfl, hinv, hga, hb⟩ := hrel
    by_cases hkl : k < s.length ∧ k < 60
    · obtain ⟨hk1, hk2⟩ := hkl
      obtain ⟨b1, off, cap', he, _, _, hbb, d0, d1, d2⟩ := Acts.at_ (Rd.below HR.out hb) hk1
      cases he
      generalize hsk : s[k] = a at *
      clear hsk
      have hcall := Lib.hid (gdo_calls sk g a b v wr hga.out hinv.out)
      have hI := Lib.hid (Gt.Inv.passI (skips := sk) hinv.out a)
      obtain ⟨x, y, z⟩ := a
      simp only at d0 d1 d2 hcall
      generalize (passI sk g (x, y, z)).2.1 = did at *
      generalize (passI sk g (x, y, z)).2.2 = c at *
      generalize (passI sk g (x, y, z)).1 = g' at *
      generalize errv c = ev at *
      go_wp2_with fail
      (with_reducible refine hcall.out.mono ?_)
      rintro e w4 ⟨rfl, ht⟩
      have hb4 := Lib.hid (ht.below hb hga.out HBQ.out)
      obtain ⟨v', hga4⟩ := ht.at_
      have hga4 := Lib.hid hga4
      clear hcall hb ht
      go_wp2_with fail
      go_roundw
      case rel => exact ⟨k + 1, g', v', by omega, by go_num, hI, hga4, hb4.out⟩
      case measure => simp [intOf]; omega
    · have hend : ∀ (P : Prop), (k = s.length → P) → (k < s.length → ¬ k < 60 → P) → P := fun P h1 h2 => by
        by_cases h : k < s.length
        · exact h2 h (fun h' => hkl ⟨h, h'⟩)
        · exact h1 (by omega)
      clear hkl
      have hca := Lib.hid (gacts_calls sk g b v wr hga.out hinv.out.2.2.2.2.2.1)
      have hac := hinv.out.2.2.2.2.2.1
      have hok := Lib.hid hinv.out.2.2.2.2.2.2.1
      have hpw := Lib.hid hinv.out.2.2.2.2.2.2.2.2.2
      clear hinv hga
      refine hend _ (fun hk' => ?_) (fun hk' hk2 => ?_)
      · subst hk'
        clear hend hk
        go_wp2_with fail
        (with_reducible refine hca.out.mono ?_)
        rintro e w5 ⟨v5, rfl, hown5, hb5⟩
        have hA5 := Lib.hid hown5.acts
        have hbF := hb.trans (hb5.mono hb.size)
        have hser := Lib.hid (serial_ok g.acts v5 w5 hA5.out hac hok.out)
        clear hca hown5 hb5 hb
        obtain ⟨A5, c5, rfl⟩ := Rd.val hA5.out
        rw [Sch.length_zacts] at hA5 hser ⊢
        have HROW := Lib.hid (Gt.row_of_sorted hok.out hpw.out)
        generalize g.acts = t at *
        have HBF := Lib.hid hbF
        clear hbF
        go_wp2_with fail
        go_loopw [9] (fun jv wr => ∃ j n : Nat, j ≤ t.length ∧ jv = nv j ∧ wr = w5.drewN n) (fun jv _ => t.length - (intOf jv).toNat)
        case atStart => exact ⟨0, 0, by omega, rfl, rfl⟩
        case round =>
          obtain ⟨j, n, hj, rfl, rfl⟩ := hrel
          by_cases hjl : j < t.length
          · go_wp2_with fail
            go_loopw [10] (fun iv' wr => ∃ i n : Nat, i ≤ j ∧ iv' = nv i ∧ wr = w5.drewN n) (fun iv' _ => j - (intOf iv').toNat)
            case atStart => exact ⟨0, n, Nat.zero_le _, rfl, rfl⟩
            case round =>
              obtain ⟨i, n, hi, rfl, rfl⟩ := hrel
              by_cases hil : i < j
              · obtain ⟨b6, o6, c6, he, _, _, hb6, d0, d1, d2⟩ := Acts.atN hA5.out hjl
                cases he
                obtain ⟨b7, o7, c7, he, _, _, hb7, f0, f1, f2⟩ := Acts.atN hA5.out (show i < t.length by omega)
                cases he
                have hp := Lib.hid (show (t.getD i Sch.d3).2.1 = (t.getD j Sch.d3).2.1 → 0 < (t.getD i Sch.d3).2.2 + (t.getD j Sch.d3).2.2 → (t.getD i Sch.d3).1 ≤ (t.getD j Sch.d3).1 by
                  have := List.pairwise_iff_getElem.1 hpw.out i j (by omega) hjl hil
                  simpa [List.getD_eq_getElem?_getD, List.getElem?_eq_getElem hjl, List.getElem?_eq_getElem (show i < t.length by omega)] using this)
                have hi1 : (0 : Int) ≤ (i : Int) := by omega
                have hi2 : (i : Int) < (t.length : Int) := by omega
                have hj1 : (0 : Int) ≤ (j : Int) := by omega
                have hj2 : (j : Int) < (t.length : Int) := by omega
                have hok2 := (Sch.getD_ok hok.out i).2.2
                have hok3 := (Sch.getD_ok hok.out j).2.2
                generalize t.getD i Sch.d3 = x at *
                generalize t.getD j Sch.d3 = y at *
                obtain ⟨tx, ix, wx⟩ := x
                obtain ⟨ty, iy, wy⟩ := y
                simp only at d0 d1 d2 f0 f1 f2 hp hok2 hok3
                have e1 : IntKind.i64.wrap ((wx : Int) + (wy : Int)) = (wx : Int) + (wy : Int) := IntWalk.i64_in _ (by constructor <;> omega)
                have hways : decide (ty < tx) = false ∨ (decide (ty < tx) = true ∧ ((ix : Int) == (iy : Int)) = false) ∨ (decide (ty < tx) = true ∧ ((ix : Int) == (iy : Int)) = true ∧ decide ((0 : Int) < (wx : Int) + (wy : Int)) = false) := by
                  clear e1
                  by_cases h1 : ty < tx
                  · by_cases h2 : ix = iy
                    · exact .inr (.inr ⟨by simpa using h1, by simp; omega, by
                        have := hp.out h2
                        have h3 : ¬ 0 < wx + wy := fun h => by have := this h; omega
                        simp; omega⟩)
                    · exact .inr (.inl ⟨by simpa using h1, by simp; omega⟩)
                  · exact .inl (by simpa using h1)
                clear hok2 hok3
                rcases hways with t1 | ⟨t1, t2⟩ | ⟨t1, t2, t3⟩
                all_goals
                  go_wp2_with fail
                  go_quiet (fail)
                  clear e1
                  go_wp2_with fail
                  go_roundw
                  case rel => exact ⟨i + 1, _, by omega, by go_num, rfl⟩
                  case measure => simp [intOf]; omega
              · obtain rfl : i = j := by omega
                go_wp2_with fail
                go_roundw
                case rel => exact ⟨i + 1, n, by omega, by go_num, rfl⟩
                case measure => simp [intOf]; omega
          · have hser2 := Lib.hid (serial_ok t (.slice A5 t.length c5) (w5.drewN n) hA5.out hac hok.out)
            have HB2 := Lib.hid (drn HBF.out n)
            go_wp2_with fail
            (with_reducible refine hser2.out.mono ?_)
            rintro e w7 ⟨hb7, ⟨hn, -⟩ | ⟨out, v', hs, rfl, -⟩⟩
            · obtain ⟨r, hr⟩ := HROW.out
              rw [hn] at hr; cases hr
            · have hbg := HB2.out.trans (hb7.mono HB2.out.size)
              clear hser hser2 hs hb7
              go_wp2_with fail
              go_ret
              exact ⟨rfl, hbg⟩
      · have t3 : decide ((k : Int) < 60) = false := by simp; omega
        clear hend hk hk2
        go_wp2_with fail
        (with_reducible refine hca.out.mono ?_)
        rintro e w5 ⟨v5, rfl, hown5, hb5⟩
        have hA5 := Lib.hid hown5.acts
        have hbF := hb.trans (hb5.mono hb.size)
        have hser := Lib.hid (serial_ok g.acts v5 w5 hA5.out hac hok.out)
        clear hca hown5 hb5 hb
        obtain ⟨A5, c5, rfl⟩ := Rd.val hA5.out
        rw [Sch.length_zacts] at hA5 hser ⊢
        have HROW := Lib.hid (Gt.row_of_sorted hok.out hpw.out)
        generalize g.acts = t at *
        have HBF := Lib.hid hbF
        clear hbF
        go_wp2_with fail
        go_loopw [9] (fun jv wr => ∃ j n : Nat, j ≤ t.length ∧ jv = nv j ∧ wr = w5.drewN n) (fun jv _ => t.length - (intOf jv).toNat)
        case atStart => exact ⟨0, 0, by omega, rfl, rfl⟩
        case round =>
          obtain ⟨j, n, hj, rfl, rfl⟩ := hrel
          by_cases hjl : j < t.length
          · go_wp2_with fail
            go_loopw [10] (fun iv' wr => ∃ i n : Nat, i ≤ j ∧ iv' = nv i ∧ wr = w5.drewN n) (fun iv' _ => j - (intOf iv').toNat)
            case atStart => exact ⟨0, n, Nat.zero_le _, rfl, rfl⟩
            case round =>
              obtain ⟨i, n, hi, rfl, rfl⟩ := hrel
              by_cases hil : i < j
              · obtain ⟨b6, o6, c6, he, _, _, hb6, d0, d1, d2⟩ := Acts.atN hA5.out hjl
                cases he
                obtain ⟨b7, o7, c7, he, _, _, hb7, f0, f1, f2⟩ := Acts.atN hA5.out (show i < t.length by omega)
                cases he
                have hp := Lib.hid (show (t.getD i Sch.d3).2.1 = (t.getD j Sch.d3).2.1 → 0 < (t.getD i Sch.d3).2.2 + (t.getD j Sch.d3).2.2 → (t.getD i Sch.d3).1 ≤ (t.getD j Sch.d3).1 by
                  have := List.pairwise_iff_getElem.1 hpw.out i j (by omega) hjl hil
                  simpa [List.getD_eq_getElem?_getD, List.getElem?_eq_getElem hjl, List.getElem?_eq_getElem (show i < t.length by omega)] using this)
                have hi1 : (0 : Int) ≤ (i : Int) := by omega
                have hi2 : (i : Int) < (t.length : Int) := by omega
                have hj1 : (0 : Int) ≤ (j : Int) := by omega
                have hj2 : (j : Int) < (t.length : Int) := by omega
                have hok2 := (Sch.getD_ok hok.out i).2.2
                have hok3 := (Sch.getD_ok hok.out j).2.2
                generalize t.getD i Sch.d3 = x at *
                generalize t.getD j Sch.d3 = y at *
                obtain ⟨tx, ix, wx⟩ := x
                obtain ⟨ty, iy, wy⟩ := y
                simp only at d0 d1 d2 f0 f1 f2 hp hok2 hok3
                have e1 : IntKind.i64.wrap ((wx : Int) + (wy : Int)) = (wx : Int) + (wy : Int) := IntWalk.i64_in _ (by constructor <;> omega)
                have hways : decide (ty < tx) = false ∨ (decide (ty < tx) = true ∧ ((ix : Int) == (iy : Int)) = false) ∨ (decide (ty < tx) = true ∧ ((ix : Int) == (iy : Int)) = true ∧ decide ((0 : Int) < (wx : Int) + (wy : Int)) = false) := by
                  clear e1
                  by_cases h1 : ty < tx
                  · by_cases h2 : ix = iy
                    · exact .inr (.inr ⟨by simpa using h1, by simp; omega, by
                        have := hp.out h2
                        have h3 : ¬ 0 < wx + wy := fun h => by have := this h; omega
                        simp; omega⟩)
                    · exact .inr (.inl ⟨by simpa using h1, by simp; omega⟩)
                  · exact .inl (by simpa using h1)
                clear hok2 hok3
                rcases hways with t1 | ⟨t1, t2⟩ | ⟨t1, t2, t3⟩
                all_goals
                  go_wp2_with fail
                  go_quiet (fail)
                  clear e1
                  go_wp2_with fail
                  go_roundw
                  case rel => exact ⟨i + 1, _, by omega, by go_num, rfl⟩
                  case measure => simp [intOf]; omega
              · obtain rfl : i = j := by omega
                go_wp2_with fail
                go_roundw
                case rel => exact ⟨i + 1, n, by omega, by go_num, rfl⟩
                case measure => simp [intOf]; omega
          · have hser2 := Lib.hid (serial_ok t (.slice A5 t.length c5) (w5.drewN n) hA5.out hac hok.out)
            have HB2 := Lib.hid (drn HBF.out n)
            go_wp2_with fail
            (with_reducible refine hser2.out.mono ?_)
            rintro e w7 ⟨hb7, ⟨hn, -⟩ | ⟨out, v', hs, rfl, -⟩⟩
            · obtain ⟨r, hr⟩ := HROW.out
              rw [hn] at hr; cases hr
            · have hbg := HB2.out.trans (hb7.mono HB2.out.size)
              clear hser hser2 hs hb7
              go_wp2_with fail
              go_ret
              exact ⟨rfl, hbg⟩
/-- the law at every input -/
theorem pord_calls (sk : Bool) (v : Value) (recs : List (List Int)) (w : World) (hr : Rd w w.heap.size 3 v recs.length (recs.flatMap fun r => r.map iv)) (hl : ∀ r ∈ recs, r.length = 3) (hE : ErrTy w) :
    Calls Tryd.prog 11 #[.bool sk, v] w fun e w' => e = .returned (.bool true) ∧ Below w.heap.size w w' := by
  obtain ⟨s, hs⟩ := acts_of_recs hr hl
  exact pord_ok sk s v w hs hE
end Go.Proofs.YtkindaadadggoaaDoor
