/- The walk of the statement LockStuck: at every input it returns true. Conditions: none beyond the handle's. (Printed by wip/gen/lstuck.py.) -/
import Derived.Test.YtkindaadadggoaaDoorLFact
import Derived.Test.YtkindaadadggoaaDoorDeeds
import Derived.Test.YtkindaadadggoaaDoorTabS
import Derived.Test.YtkindaadadggoaaDoorRefW
import Derived.Test.YtkindaadadggoaaDoorRef1
namespace Go.Proofs.YtkindaadadggoaaDoor
open Go.RowKit

/-- those of S wait for each other in rings -/
def InS (S : Nat) (l : Lk.L) : Prop := ∀ x, S.testBit x = true → Odr.TC (Lk.among S l) x x
theorem InS.stepI {S : Nat} {l : Lk.L} (h : InS S l) (d : Deed4) (hn : 0 ≤ d.2.1 → d.2.1 ≤ 4 → S.testBit d.2.1.toNat = false) : InS S (lstepI l d).1 := by
  unfold lstepI
  split
  · rename_i hok
    obtain ⟨_, ⟨h3, h4⟩, _⟩ := hok
    exact Lk.stuck_step (hn h3 h4) h
  · exact h
theorem InS.start (l : Lk.L) : InS (Lk.stuck l) l := fun _ hx => Lk.stuck_among hx
theorem InS.finish {S : Nat} {l : Lk.L} (h : InS S l) : S &&& Lk.stuck l = S := by
  apply Nat.eq_of_testBit_eq
  intro i
  rw [Nat.testBit_and]
  cases hi : S.testBit i with
  | false => rfl
  | true => rw [Lk.stuck_of_among (h i hi)]; rfl

/-- a length, out of simp's sight -/
structure LenW (W : List Nat) : Prop where
  a : W.length = 5

set_option maxRecDepth 20000 in
set_option maxHeartbeats 8000000 in
theorem lstuck_ok (s m : List Deed4) (v u : Value) (w : World) (hr : Deeds w w.heap.size v s) (hu : Deeds w w.heap.size u m) (hE : ErrTy w) :
    Calls Tryd.prog 9 #[v, u] w fun e w' => e = .returned (.bool true) ∧ Below w.heap.size w w' := by
  have hf := Lib.hid (lockFact_calls w hE)
  have HR := Lib.hid hr
  have HU := Lib.hid hu
  obtain ⟨A, cap, rfl⟩ := Rd.val hr
  obtain ⟨A2, cap2, rfl⟩ := Rd.val hu
  clear hr hu hE
  go_enter Tryd.func9, Tryd.ntmps9
  go_wp2_with fail
  (with_reducible refine hf.out.mono ?_)
  rintro e w1 ⟨rfl, hb1⟩
  have hn := Lib.hid (lnew_calls w1)
  clear hf
  go_wp2_with fail
  (with_reducible refine hn.out.mono ?_)
  rintro e w2 ⟨rfl, hg2, hb2⟩
  have hbb := hb1.trans (hb2.mono hb1.size)
  generalize hbq : w1.heap.size = b at *
  have HBQ := Lib.hid (show w.heap.size ≤ b by rw [← hbq]; exact hb1.size)
  have hga0 := Lib.hid hg2
  clear hn hb1 hb2 hbq hg2
  go_wp2_with fail
  go_loopw [7] (fun i wr => ∃ (k : Nat) (l : Lk.L) (v : Value), k ≤ s.length ∧ i = nv k ∧ Hid (Lk.Inv l) ∧ Hid (TabAt wr b l v) ∧ Below w.heap.size w wr) (fun i _ => s.length - (intOf i).toNat)
  case atStart => exact ⟨0, Lk.l0, _, Nat.zero_le _, rfl, Lib.hid Lk.inv0, hga0, hbb⟩
  case round =>
    clear hga0 hbb
    obtain ⟨k, l, v, hk, rfl, hinv, hga, hb⟩ := hrel
    by_cases hkl : k < s.length ∧ k < 60
    · obtain ⟨hk1, hk2⟩ := hkl
      obtain ⟨b1, off, cap', he, hbb, d0, d1, d2, d3⟩ := Deeds.at_ (Rd.below HR.out hb) hk1
      cases he
      generalize hsk : s[k] = a at *
      clear hsk
      have hcall := Lib.hid (ldo_calls l a b v wr hga.out hinv.out)
      have hI := Lib.hid (Lk.Inv.stepI hinv.out a)
      obtain ⟨x, y, z, u⟩ := a
      simp only at d0 d1 d2 d3 hcall
      generalize (lstepI l (x, y, z, u)).2 = c at *
      generalize (lstepI l (x, y, z, u)).1 = l' at *
      generalize errv c = ev at *
      go_wp2_with fail
      (with_reducible refine hcall.out.mono ?_)
      rintro e w4 ⟨rfl, ht⟩
      have hb4 := Lib.hid (ht.below hb hga.out HBQ.out)
      obtain ⟨v', hga4⟩ := ht.at_
      have hga4 := Lib.hid hga4
      clear hcall hb ht
      go_wp2_with fail
      go_roundw
      case rel => exact ⟨k + 1, l', v', by omega, by go_num, hI, hga4, hb4.out⟩
      case measure => simp [intOf]; omega
    · have hend : (((k : Int) < (s.length : Int)) ∧ decide ((k : Int) < 60) = false) ∨ ¬ k < s.length := by
        by_cases h : k < s.length
        · exact .inl ⟨by omega, by simp; omega⟩
        · exact .inr h
      clear hkl
      rcases hend with ⟨t1, t2⟩ | hkk
      · have t1 : decide ((k : Int) < (s.length : Int)) = true := by simp; omega
        have t1' : k < s.length := by omega
        have hst := Lib.hid (stuck_calls l b v wr hga.out hinv.out)
        have HS32 := Lk.stuck_lt l
        have HIN := Lib.hid (InS.start l)
        have HWT := Lib.hid fun x (hx : (Lk.stuck l).testBit x = true) => Lk.stuck_waits (l := l) hx
        have HFW := Lib.hid (Lk.fits_waits hinv.out)
        have HLW := Lib.hid (Lk.length_waits l)
        have HIR := Lib.hid (Lk.waits_irr l)
        generalize hS : Lk.stuck l = S at *
        go_wp2_with fail
        (with_reducible refine hst.out.mono ?_)
        rintro e w5 ⟨rfl, hb5⟩
        have hb6 := hb.trans (hb5.mono hb.size)
        have hga5 := Lib.hid (hga.out.only (Only.of_below hb5 (Nat.le_refl _) (fun _ => False)) (fun _ _ h => h))
        have hwt := Lib.hid (waits_calls l b v w5 hga5.out hinv.out)
        clear hst hb hb5 hga hS
        go_wp2_with fail
        (with_reducible refine hwt.out.mono ?_)
        rintro e w6 ⟨v6, rfl, hown6, hb7⟩
        have hb8 := hb6.trans (hb7.mono hb6.size)
        have hga6 := Lib.hid (hga5.out.only (Only.of_below hb7 (Nat.le_refl _) (fun _ => False)) (fun _ _ h => h))
        clear hwt hb6 hb7 hga5
        obtain ⟨A6, c6, rfl⟩ := Rd.val hown6.ints
        generalize Lk.waits l = W at *
        rw [length_zs, HLW.out] at hown6 ⊢
        have HO6 := Lib.hid hown6
        have HLX : LenW W := ⟨HLW.out⟩
        have t5 : decide ((31 : Int) < (S : Int)) = false := by simp; omega
        have t6 : decide ((S : Int) < 0) = false := by simp
        clear hown6 HLW
        go_wp2_with fail
        clear t5 t6
        go_loopw [10] (fun i wr => ∃ x : Nat, x ≤ 5 ∧ i = nv x ∧ wr = w6) (fun i _ => 5 - (intOf i).toNat)
        case atStart => exact ⟨0, by omega, rfl, by trivial⟩
        case round =>
          obtain ⟨x, hx, rfl, hwr⟩ := hrel
          subst hwr
          by_cases hx5 : x < 5
          · obtain ⟨b7, o7, c7, he7, hbb7, e7⟩ := Ints.atN HO6.out.ints (k := x) (by rw [HLX.a]; exact hx5)
            rw [HLX.a] at he7
            cases he7
            have hwx : W.getD x 0 < 2 ^ 5 := by have := HFW.out.getD x; rwa [HLX.a] at this
            have hirr : (W.getD x 0).testBit x = false := HIR.out x
            have hne : S.testBit x = true → W.getD x 0 &&& S ≠ 0 := fun hsx h0 => by
              obtain ⟨y, hy1, hy2⟩ := HWT.out x hsx
              have hb : (W.getD x 0 &&& S).testBit y = true := by rw [Nat.testBit_and, hy2, Bool.and_true]; exact hy1
              rw [h0, Nat.zero_testBit] at hb
              cases hb
            have c1 := Lib.hid fun w5 : World => bit_calls (W.getD x 0) x w5 (by omega) (by omega)
            have c2 := Lib.hid fun w5 : World => bit_calls S x w5 (by omega) (by omega)
            have c3 := Lib.hid fun w5 : World => both_calls (W.getD x 0) S w5 (by omega) (by omega)
            rw [hirr] at c1
            generalize W.getD x 0 = wx at *
            generalize wx &&& S = q at *
            have t3 : decide ((x : Int) < 5) = true := by simp; omega
            have t7 : decide ((wx : Int) < 0) = false := by simp
            have t8 : decide ((31 : Int) < (wx : Int)) = false := by simp; omega
            cases hsb : S.testBit x with
            | false =>
              rw [hsb] at c2
              clear hne hsb hirr
              go_wp2_with (first | (go_at_call 29; first | (with_reducible refine (c1.out _).mono ?_; rintro e w' ⟨rfl, rfl⟩) | (with_reducible refine (c2.out _).mono ?_; rintro e w' ⟨rfl, rfl⟩)) | (go_at_call 31; with_reducible refine (c3.out _).mono ?_; rintro e w' ⟨rfl, rfl⟩))
              go_roundw
              case rel => exact ⟨x + 1, by omega, by go_num, by trivial⟩
              case measure => simp [intOf]; omega
            | true =>
              rw [hsb] at c2
              have hq := hne hsb
              have t9 : ((q : Int) == 0) = false := by simp; omega
              clear hne hsb hirr hq
              go_wp2_with (first | (go_at_call 29; first | (with_reducible refine (c1.out _).mono ?_; rintro e w' ⟨rfl, rfl⟩) | (with_reducible refine (c2.out _).mono ?_; rintro e w' ⟨rfl, rfl⟩)) | (go_at_call 31; with_reducible refine (c3.out _).mono ?_; rintro e w' ⟨rfl, rfl⟩))
              go_roundw
              case rel => exact ⟨x + 1, by omega, by go_num, by trivial⟩
              case measure => simp [intOf]; omega
          · obtain rfl : x = 5 := by omega
            clear hx5
            go_wp2_with fail
            go_loopw [11] (fun i wr => ∃ (k : Nat) (l : Lk.L) (v : Value), k ≤ m.length ∧ i = nv k ∧ Hid (Lk.Inv l) ∧ Hid (InS S l) ∧ Hid (TabAt wr b l v) ∧ Below w.heap.size w wr) (fun i _ => m.length - (intOf i).toNat)
            case atStart => exact ⟨0, l, _, Nat.zero_le _, rfl, hinv, HIN, hga6, hb8⟩
            case round =>
              clear hga6 hb8 hinv HIN
              obtain ⟨k, l, v, hk, rfl, hinv, hin, hga, hb⟩ := hrel
              by_cases hkl : k < m.length ∧ k < 30
              · obtain ⟨hk1, hk2⟩ := hkl
                obtain ⟨b1, off, cap', he, hbb, d0, d1, d2, d3⟩ := Deeds.at_ (Rd.below HU.out hb) hk1
                cases he
                generalize hsk : m[k] = a at *
                clear hsk
                have hcall := Lib.hid (ldo_calls l a b v wr hga.out hinv.out)
                have hI := Lib.hid (Lk.Inv.stepI hinv.out a)
                have hN := Lib.hid (InS.stepI hin.out a)
                obtain ⟨x, y, z, u⟩ := a
                simp only at d0 d1 d2 d3 hcall hN
                generalize (lstepI l (x, y, z, u)).2 = c at *
                generalize (lstepI l (x, y, z, u)).1 = l' at *
                generalize errv c = ev at *
                by_cases hy : 0 ≤ y ∧ y ≤ 4
                · obtain ⟨hy1, hy2⟩ := hy
                  obtain ⟨q, rfl⟩ := Int.eq_ofNat_of_zero_le hy1
                  have c2 := Lib.hid fun w5 : World => bit_calls S q w5 (by omega) (by omega)
                  have t3 : decide ((0 : Int) ≤ (q : Int)) = true := by simp
                  have t4 : decide ((q : Int) ≤ 4) = true := by simp; omega
                  cases hsb : S.testBit q with
                  | true =>
                    rw [hsb] at c2
                    clear hcall hsb hN
                    go_wp2_with (go_at_call 29; (with_reducible refine (c2.out _).mono ?_); rintro e w' ⟨rfl, rfl⟩)
                    go_roundw
                    case rel => exact ⟨k + 1, l, v, by omega, by go_num, hinv, hin, hga, hb⟩
                    case measure => simp [intOf]; omega
                  | false =>
                    rw [hsb] at c2
                    have hN := Lib.hid (hN.out (fun _ _ => by simpa using hsb))
                    clear hsb
                    go_wp2_with (go_at_call 29; (with_reducible refine (c2.out _).mono ?_); rintro e w' ⟨rfl, rfl⟩)
                    (with_reducible refine hcall.out.mono ?_)
                    rintro e w4 ⟨rfl, ht⟩
                    have hb4 := Lib.hid (ht.below hb hga.out HBQ.out)
                    obtain ⟨v', hga4⟩ := ht.at_
                    have hga4 := Lib.hid hga4
                    clear hcall hb ht
                    go_wp2_with fail
                    go_roundw
                    case rel => exact ⟨k + 1, l', v', by omega, by go_num, hI, hN, hga4, hb4.out⟩
                    case measure => simp [intOf]; omega
                · have hN := Lib.hid (hN.out (fun h1 h2 => absurd ⟨h1, h2⟩ hy))
                  have hw : decide ((0 : Int) ≤ y) = false ∨ (decide ((0 : Int) ≤ y) = true ∧ decide (y ≤ 4) = false) := by
                    by_cases h : 0 ≤ y
                    · exact .inr ⟨by simpa using h, by simp; omega⟩
                    · exact .inl (by simpa using h)
                  clear hy
                  rcases hw with t3 | ⟨t3, t4⟩
                  all_goals
                    go_wp2_with fail
                    (with_reducible refine hcall.out.mono ?_)
                    rintro e w4 ⟨rfl, ht⟩
                    have hb4 := Lib.hid (ht.below hb hga.out HBQ.out)
                    obtain ⟨v', hga4⟩ := ht.at_
                    have hga4 := Lib.hid hga4
                    clear hcall hb ht
                    go_wp2_with fail
                    go_roundw
                    case rel => exact ⟨k + 1, l', v', by omega, by go_num, hI, hN, hga4, hb4.out⟩
                    case measure => simp [intOf]; omega
              · have hend : (((k : Int) < (m.length : Int)) ∧ decide ((k : Int) < 30) = false) ∨ ¬ k < m.length := by
                  by_cases h : k < m.length
                  · exact .inl ⟨by omega, by simp; omega⟩
                  · exact .inr h
                have hst := Lib.hid (stuck_calls l b v wr hga.out hinv.out)
                have HN32 := Lk.stuck_lt l
                have HFI := Lib.hid (InS.finish hin.out)
                clear hinv hin hga hkl
                generalize Lk.stuck l = S2 at *
                have c4 := Lib.hid fun w5 : World => rwithin_calls S S2 w5 (by omega) (by omega)
                have hdt : decide (S &&& S2 = S) = true := decide_eq_true HFI.out
                rw [hdt] at c4
                have t7 : decide ((0 : Int) ≤ (S2 : Int)) = true := by simp
                have t8 : decide ((S2 : Int) ≤ 31) = true := by simp; omega
                clear HFI hdt
                rcases hend with ⟨t1, t2⟩ | hkk
                · have t1 : decide ((k : Int) < (m.length : Int)) = true := by simp; omega
                  have t1' : k < m.length := by omega
                  go_wp2_with fail
                  (with_reducible refine hst.out.mono ?_)
                  rintro e w9 ⟨rfl, hb9⟩
                  have hbF := hb.trans (hb9.mono hb.size)
                  go_wp2_with (go_at_call 38; (with_reducible refine (c4.out _).mono ?_); rintro e w' ⟨rfl, rfl⟩)
                  go_ret
                  exact ⟨rfl, hbF⟩
                · have hk' : k = m.length := by omega
                  subst hk'
                  go_wp2_with fail
                  (with_reducible refine hst.out.mono ?_)
                  rintro e w9 ⟨rfl, hb9⟩
                  have hbF := hb.trans (hb9.mono hb.size)
                  go_wp2_with (go_at_call 38; (with_reducible refine (c4.out _).mono ?_); rintro e w' ⟨rfl, rfl⟩)
                  go_ret
                  exact ⟨rfl, hbF⟩
      · have hk' : k = s.length := by omega
        subst hk'
        have hst := Lib.hid (stuck_calls l b v wr hga.out hinv.out)
        have HS32 := Lk.stuck_lt l
        have HIN := Lib.hid (InS.start l)
        have HWT := Lib.hid fun x (hx : (Lk.stuck l).testBit x = true) => Lk.stuck_waits (l := l) hx
        have HFW := Lib.hid (Lk.fits_waits hinv.out)
        have HLW := Lib.hid (Lk.length_waits l)
        have HIR := Lib.hid (Lk.waits_irr l)
        generalize hS : Lk.stuck l = S at *
        go_wp2_with fail
        (with_reducible refine hst.out.mono ?_)
        rintro e w5 ⟨rfl, hb5⟩
        have hb6 := hb.trans (hb5.mono hb.size)
        have hga5 := Lib.hid (hga.out.only (Only.of_below hb5 (Nat.le_refl _) (fun _ => False)) (fun _ _ h => h))
        have hwt := Lib.hid (waits_calls l b v w5 hga5.out hinv.out)
        clear hst hb hb5 hga hS
        go_wp2_with fail
        (with_reducible refine hwt.out.mono ?_)
        rintro e w6 ⟨v6, rfl, hown6, hb7⟩
        have hb8 := hb6.trans (hb7.mono hb6.size)
        have hga6 := Lib.hid (hga5.out.only (Only.of_below hb7 (Nat.le_refl _) (fun _ => False)) (fun _ _ h => h))
        clear hwt hb6 hb7 hga5
        obtain ⟨A6, c6, rfl⟩ := Rd.val hown6.ints
        generalize Lk.waits l = W at *
        rw [length_zs, HLW.out] at hown6 ⊢
        have HO6 := Lib.hid hown6
        have HLX : LenW W := ⟨HLW.out⟩
        have t5 : decide ((31 : Int) < (S : Int)) = false := by simp; omega
        have t6 : decide ((S : Int) < 0) = false := by simp
        clear hown6 HLW
        go_wp2_with fail
        clear t5 t6
        go_loopw [10] (fun i wr => ∃ x : Nat, x ≤ 5 ∧ i = nv x ∧ wr = w6) (fun i _ => 5 - (intOf i).toNat)
        case atStart => exact ⟨0, by omega, rfl, by trivial⟩
        case round =>
          obtain ⟨x, hx, rfl, hwr⟩ := hrel
          subst hwr
          by_cases hx5 : x < 5
          · obtain ⟨b7, o7, c7, he7, hbb7, e7⟩ := Ints.atN HO6.out.ints (k := x) (by rw [HLX.a]; exact hx5)
            rw [HLX.a] at he7
            cases he7
            have hwx : W.getD x 0 < 2 ^ 5 := by have := HFW.out.getD x; rwa [HLX.a] at this
            have hirr : (W.getD x 0).testBit x = false := HIR.out x
            have hne : S.testBit x = true → W.getD x 0 &&& S ≠ 0 := fun hsx h0 => by
              obtain ⟨y, hy1, hy2⟩ := HWT.out x hsx
              have hb : (W.getD x 0 &&& S).testBit y = true := by rw [Nat.testBit_and, hy2, Bool.and_true]; exact hy1
              rw [h0, Nat.zero_testBit] at hb
              cases hb
            have c1 := Lib.hid fun w5 : World => bit_calls (W.getD x 0) x w5 (by omega) (by omega)
            have c2 := Lib.hid fun w5 : World => bit_calls S x w5 (by omega) (by omega)
            have c3 := Lib.hid fun w5 : World => both_calls (W.getD x 0) S w5 (by omega) (by omega)
            rw [hirr] at c1
            generalize W.getD x 0 = wx at *
            generalize wx &&& S = q at *
            have t3 : decide ((x : Int) < 5) = true := by simp; omega
            have t7 : decide ((wx : Int) < 0) = false := by simp
            have t8 : decide ((31 : Int) < (wx : Int)) = false := by simp; omega
            cases hsb : S.testBit x with
            | false =>
              rw [hsb] at c2
              clear hne hsb hirr
              go_wp2_with (first | (go_at_call 29; first | (with_reducible refine (c1.out _).mono ?_; rintro e w' ⟨rfl, rfl⟩) | (with_reducible refine (c2.out _).mono ?_; rintro e w' ⟨rfl, rfl⟩)) | (go_at_call 31; with_reducible refine (c3.out _).mono ?_; rintro e w' ⟨rfl, rfl⟩))
              go_roundw
              case rel => exact ⟨x + 1, by omega, by go_num, by trivial⟩
              case measure => simp [intOf]; omega
            | true =>
              rw [hsb] at c2
              have hq := hne hsb
              have t9 : ((q : Int) == 0) = false := by simp; omega
              clear hne hsb hirr hq
              go_wp2_with (first | (go_at_call 29; first | (with_reducible refine (c1.out _).mono ?_; rintro e w' ⟨rfl, rfl⟩) | (with_reducible refine (c2.out _).mono ?_; rintro e w' ⟨rfl, rfl⟩)) | (go_at_call 31; with_reducible refine (c3.out _).mono ?_; rintro e w' ⟨rfl, rfl⟩))
              go_roundw
              case rel => exact ⟨x + 1, by omega, by go_num, by trivial⟩
              case measure => simp [intOf]; omega
          · obtain rfl : x = 5 := by omega
            clear hx5
            go_wp2_with fail
            go_loopw [11] (fun i wr => ∃ (k : Nat) (l : Lk.L) (v : Value), k ≤ m.length ∧ i = nv k ∧ Hid (Lk.Inv l) ∧ Hid (InS S l) ∧ Hid (TabAt wr b l v) ∧ Below w.heap.size w wr) (fun i _ => m.length - (intOf i).toNat)
            case atStart => exact ⟨0, l, _, Nat.zero_le _, rfl, hinv, HIN, hga6, hb8⟩
            case round =>
              clear hga6 hb8 hinv HIN
              obtain ⟨k, l, v, hk, rfl, hinv, hin, hga, hb⟩ := hrel
              by_cases hkl : k < m.length ∧ k < 30
              · obtain ⟨hk1, hk2⟩ := hkl
                obtain ⟨b1, off, cap', he, hbb, d0, d1, d2, d3⟩ := Deeds.at_ (Rd.below HU.out hb) hk1
                cases he
                generalize hsk : m[k] = a at *
                clear hsk
                have hcall := Lib.hid (ldo_calls l a b v wr hga.out hinv.out)
                have hI := Lib.hid (Lk.Inv.stepI hinv.out a)
                have hN := Lib.hid (InS.stepI hin.out a)
                obtain ⟨x, y, z, u⟩ := a
                simp only at d0 d1 d2 d3 hcall hN
                generalize (lstepI l (x, y, z, u)).2 = c at *
                generalize (lstepI l (x, y, z, u)).1 = l' at *
                generalize errv c = ev at *
                by_cases hy : 0 ≤ y ∧ y ≤ 4
                · obtain ⟨hy1, hy2⟩ := hy
                  obtain ⟨q, rfl⟩ := Int.eq_ofNat_of_zero_le hy1
                  have c2 := Lib.hid fun w5 : World => bit_calls S q w5 (by omega) (by omega)
                  have t3 : decide ((0 : Int) ≤ (q : Int)) = true := by simp
                  have t4 : decide ((q : Int) ≤ 4) = true := by simp; omega
                  cases hsb : S.testBit q with
                  | true =>
                    rw [hsb] at c2
                    clear hcall hsb hN
                    go_wp2_with (go_at_call 29; (with_reducible refine (c2.out _).mono ?_); rintro e w' ⟨rfl, rfl⟩)
                    go_roundw
                    case rel => exact ⟨k + 1, l, v, by omega, by go_num, hinv, hin, hga, hb⟩
                    case measure => simp [intOf]; omega
                  | false =>
                    rw [hsb] at c2
                    have hN := Lib.hid (hN.out (fun _ _ => by simpa using hsb))
                    clear hsb
                    go_wp2_with (go_at_call 29; (with_reducible refine (c2.out _).mono ?_); rintro e w' ⟨rfl, rfl⟩)
                    (with_reducible refine hcall.out.mono ?_)
                    rintro e w4 ⟨rfl, ht⟩
                    have hb4 := Lib.hid (ht.below hb hga.out HBQ.out)
                    obtain ⟨v', hga4⟩ := ht.at_
                    have hga4 := Lib.hid hga4
                    clear hcall hb ht
                    go_wp2_with fail
                    go_roundw
                    case rel => exact ⟨k + 1, l', v', by omega, by go_num, hI, hN, hga4, hb4.out⟩
                    case measure => simp [intOf]; omega
                · have hN := Lib.hid (hN.out (fun h1 h2 => absurd ⟨h1, h2⟩ hy))
                  have hw : decide ((0 : Int) ≤ y) = false ∨ (decide ((0 : Int) ≤ y) = true ∧ decide (y ≤ 4) = false) := by
                    by_cases h : 0 ≤ y
                    · exact .inr ⟨by simpa using h, by simp; omega⟩
                    · exact .inl (by simpa using h)
                  clear hy
                  rcases hw with t3 | ⟨t3, t4⟩
                  all_goals
                    go_wp2_with fail
                    (with_reducible refine hcall.out.mono ?_)
                    rintro e w4 ⟨rfl, ht⟩
                    have hb4 := Lib.hid (ht.below hb hga.out HBQ.out)
                    obtain ⟨v', hga4⟩ := ht.at_
                    have hga4 := Lib.hid hga4
                    clear hcall hb ht
                    go_wp2_with fail
                    go_roundw
                    case rel => exact ⟨k + 1, l', v', by omega, by go_num, hI, hN, hga4, hb4.out⟩
                    case measure => simp [intOf]; omega
              · have hend : (((k : Int) < (m.length : Int)) ∧ decide ((k : Int) < 30) = false) ∨ ¬ k < m.length := by
                  by_cases h : k < m.length
                  · exact .inl ⟨by omega, by simp; omega⟩
                  · exact .inr h
                have hst := Lib.hid (stuck_calls l b v wr hga.out hinv.out)
                have HN32 := Lk.stuck_lt l
                have HFI := Lib.hid (InS.finish hin.out)
                clear hinv hin hga hkl
                generalize Lk.stuck l = S2 at *
                have c4 := Lib.hid fun w5 : World => rwithin_calls S S2 w5 (by omega) (by omega)
                have hdt : decide (S &&& S2 = S) = true := decide_eq_true HFI.out
                rw [hdt] at c4
                have t7 : decide ((0 : Int) ≤ (S2 : Int)) = true := by simp
                have t8 : decide ((S2 : Int) ≤ 31) = true := by simp; omega
                clear HFI hdt
                rcases hend with ⟨t1, t2⟩ | hkk
                · have t1 : decide ((k : Int) < (m.length : Int)) = true := by simp; omega
                  have t1' : k < m.length := by omega
                  go_wp2_with fail
                  (with_reducible refine hst.out.mono ?_)
                  rintro e w9 ⟨rfl, hb9⟩
                  have hbF := hb.trans (hb9.mono hb.size)
                  go_wp2_with (go_at_call 38; (with_reducible refine (c4.out _).mono ?_); rintro e w' ⟨rfl, rfl⟩)
                  go_ret
                  exact ⟨rfl, hbF⟩
                · have hk' : k = m.length := by omega
                  subst hk'
                  go_wp2_with fail
                  (with_reducible refine hst.out.mono ?_)
                  rintro e w9 ⟨rfl, hb9⟩
                  have hbF := hb.trans (hb9.mono hb.size)
                  go_wp2_with (go_at_call 38; (with_reducible refine (c4.out _).mono ?_); rintro e w' ⟨rfl, rfl⟩)
                  go_ret
                  exact ⟨rfl, hbF⟩
/-- the law at every input -/
theorem lstuck_calls (v u : Value) (recs recs' : List (List Int)) (w : World) (hr : Rd w w.heap.size 4 v recs.length (recs.flatMap fun r => r.map iv)) (hl : ∀ r ∈ recs, r.length = 4)
    (hu : Rd w w.heap.size 4 u recs'.length (recs'.flatMap fun r => r.map iv)) (hl' : ∀ r ∈ recs', r.length = 4) (hE : ErrTy w) :
    Calls Tryd.prog 9 #[v, u] w fun e w' => e = .returned (.bool true) ∧ Below w.heap.size w w' := by
  obtain ⟨s, hs⟩ := deeds_of_recs hr hl
  obtain ⟨t, ht⟩ := deeds_of_recs hu hl'
  exact lstuck_ok s t v u w hs ht hE
end Go.Proofs.YtkindaadadggoaaDoor
