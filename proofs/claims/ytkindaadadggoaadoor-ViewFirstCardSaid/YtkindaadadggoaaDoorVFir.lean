/- The walk of the statement ViewFirst: at every input it returns true. Conditions: none beyond the handle's. (Printed by wip/gen/vfir.py.) -/
import Derived.Test.YtkindaadadggoaaDoorVMem3
import Derived.StillTailTactics
namespace Go.Proofs.YtkindaadadggoaaDoor
open Go.RowKit

theorem errw_ne {n : Nat} (h : n ≠ 0) : errw n = .iface 93 (nv n) := if_neg h
namespace Vw
theorem VF.later {v : V} {n : Nat} {W Bg En : List Nat} (h : VF v n W Bg En) : VF v (n + 1) W Bg En :=
  ⟨h.lw, h.lb, h.le, h.wr, fun y => Nat.le_succ_of_le (h.hb y), fun y => Nat.le_succ_of_le (h.he y), h.tm.same (fun _ h => h) (fun _ h => h) (fun _ => rfl) (fun _ => rfl)⟩
end Vw
theorem vf_stepI {v : Vw.V} {n : Nat} {W Bg En : List Nat} (hI : Vw.Inv v) (h : Vw.VF v n W Bg En) (d : Deed4V) :
    ((vstepI v d).2.2 = 0 → vokI d ∧ Vw.VF (vstepI v d).1 (n + 1) (Vw.fW (natD d) W) (Vw.fB (natD d) n Bg) (Vw.fE (natD d) n En)) ∧ ((vstepI v d).2.2 ≠ 0 → Vw.VF (vstepI v d).1 (n + 1) W Bg En) := by
  unfold vstepI
  by_cases hok : vokI d
  · rw [if_pos hok]
    obtain ⟨h1, h2⟩ := h.step hI (okD_nat hok)
    exact ⟨fun hh => ⟨hok, h1 hh⟩, h2⟩
  · rw [if_neg hok]
    exact ⟨fun hh => (by cases hh), fun _ => h.later⟩
set_option maxRecDepth 20000 in
set_option maxHeartbeats 60000000 in
theorem vfir_ok (s : List Deed4V) (v : Value) (w : World) (hr : VDeeds w w.heap.size v s) (hT : Tab w) :
    Calls Tryd.prog 7 #[v] w fun e w' => e = .returned (.bool true) ∧ Below w.heap.size w w' := by
  have hf := Lib.hid (viewFact_calls w hT)
  have HR := Lib.hid hr
  have HT := Lib.hid hT
  obtain ⟨A, cap, rfl⟩ := Rd.val hr
  clear hr hT
  go_enter Tryd.func7, Tryd.ntmps7
  go_wp2_with fail
  (with_reducible refine hf.out.mono ?_)
  rintro e w1 ⟨rfl, hb1⟩
  have hn := Lib.hid (vnew_calls w1)
  clear hf
  go_wp2_with fail
  (with_reducible refine hn.out.mono ?_)
  rintro e w2 ⟨rfl, ⟨vs0, hs0, -⟩, hb2⟩
  have hM0 := Lib.hid (mem3_laid hs0 (hb1.trans (hb2.mono hb1.size)) hb1.size)
  have hmk := run_make5
  obtain ⟨b, hbq⟩ : ∃ b, b = w1.heap.size := ⟨_, rfl⟩
  rw [← hbq] at hM0 ⊢
  clear hn hb1 hb2 hs0 hbq
  go_wp2_with fail
  clear hmk
  obtain ⟨g, hg⟩ : ∃ g, g = w2.heap.size := ⟨_, rfl⟩
  rw [← hg] at hM0 ⊢
  obtain ⟨w3, hw3⟩ : ∃ w3, ((w2.alloc z5).alloc z5).alloc z5 = w3 := ⟨_, rfl⟩
  rw [hw3] at hM0 ⊢
  clear hw3 hg
  go_loopw [8] (fun i wr => ∃ (k : Nat) (v : Vw.V) (vs : Nat → Value) (W Bg En : List Nat), k ≤ s.length ∧ i = nv k ∧ Hid (Vw.Inv v) ∧ Hid (Vw.VF v k W Bg En) ∧ Hid (Mem3 w wr b v vs g W Bg En)) (fun i _ => s.length - (intOf i).toNat)
  case atStart => exact ⟨0, Vw.v0, vs0, _, _, _, Nat.zero_le _, rfl, Lib.hid Vw.inv0, Lib.hid Vw.vf0, hM0⟩
  case round =>
    clear hM0
    obtain ⟨k, v, vs, W, Bg, En, hk, rfl, hinv, hvf, hM⟩ := hrel
    by_cases hkl : k < s.length ∧ k < 60
    · obtain ⟨hk1, hk2⟩ := hkl
      obtain ⟨b1, off, cap', he, -, d0, d1, d2, d3⟩ := VDeeds.at_ (Rd.below HR.out hM.out.bw) hk1
      cases he
      generalize hsk : s[k] = a at *
      clear hsk
      have hcall := Lib.hid fun (w5 : World) (h5 : StAt w5 b v vs) (hT5 : Tab w5) => vdo_calls v a b vs w5 h5 hinv.out hT5 (by have := hM.out.hb; have := HT.out.lt; omega)
      have hI := Lib.hid (Vw.Inv.stepI hinv.out a)
      have hV := Lib.hid (vf_stepI hinv.out hvf.out a)
      obtain ⟨x, y, z, u⟩ := a
      simp only at d0 d1 d2 d3 hcall
      rw [show dval (iv x) (iv y) (iv z) (iv u) = .agg #[.int .i64 x, .int .i64 y, .int .i64 z, .int .i64 u] from rfl] at hcall
      generalize (vstepI v (x, y, z, u)).2.1 = c1 at *
      generalize (vstepI v (x, y, z, u)).2.2 = c2 at *
      generalize (vstepI v (x, y, z, u)).1 = v' at *
      obtain ⟨ev, hev⟩ : ∃ ev, ev = errw c2 := ⟨_, rfl⟩
      rw [← hev] at hcall
      go_wp2_with fail
      (with_reducible refine (hcall.out _ (hM.out.alloc _).st (HT.out.below (hM.out.alloc _).bw)).mono ?_)
      rintro e w4 ⟨rfl, ht⟩
      obtain ⟨vs', hm4⟩ := (hM.out.alloc _).to ht
      have hfo := (hM.out.st.foot)
      obtain ⟨-, -, ho, -⟩ := ht
      obtain ⟨D, hD⟩ : ∃ D, D = wr.heap.size := ⟨_, rfl⟩
      have hbox : ∀ j, w4.cell? ⟨D, j, none⟩ = (wr.alloc (.cells #[.int .i64 x, .int .i64 y, .int .i64 z, .int .i64 u] 49)).cell? ⟨D, j, none⟩ := fun j =>
        World.cell?_of_block (ho.block D (by rw [hD]; simp) (fun q => by have := (hfo D q).2; omega))
      have q0 : w4.cell? ⟨D, 0, none⟩ = some (.int .i64 x) := by rw [hbox, hD, World.cell?_alloc_new]; rfl
      have q1 : w4.cell? ⟨D, 1, none⟩ = some (.int .i64 y) := by rw [hbox, hD, World.cell?_alloc_new]; rfl
      have q2 : w4.cell? ⟨D, 2, none⟩ = some (.int .i64 z) := by rw [hbox, hD, World.cell?_alloc_new]; rfl
      have q3 : w4.cell? ⟨D, 3, none⟩ = some (.int .i64 u) := by rw [hbox, hD, World.cell?_alloc_new]; rfl
      have hgD : g + 3 ≤ D := by rw [hD]; exact hM.out.sz
      rw [← hD]
      have hM4 := Lib.hid hm4
      clear hcall ho hfo hbox hm4 hM hD d0 d1 d2 d3
      by_cases hc : c2 = 0
      · subst hc
        obtain ⟨hok, hvf'⟩ := hV.out.1 rfl
        rw [show errw 0 = .nilIface from rfl] at hev
        subst hev
        obtain ⟨⟨o1, o2⟩, ⟨o3, o4⟩, o5⟩ := hok
        simp only at o1 o2 o3 o4 o5
        obtain ⟨X, rfl⟩ : ∃ X : Nat, y = (X : Int) := ⟨y.toNat, by omega⟩
        have hX : X < 5 := by omega
        have i0 : decide ((X : Int) < 0) = false := by simp
        have i1 : decide ((4 : Int) < (X : Int)) = false := by simp; omega
        have i2 : (X : Int) < 5 := by omega
        have hlw := hvf'.lw
        have HVF := Lib.hid hvf'
        have hl := Lib.hid (And.intro hvf.out.lw (And.intro hvf.out.lb hvf.out.le))
        have hw16 := Lib.hid (show W.getD X 0 < 16 by rw [hvf.out.wr X hX]; exact hinv.out.wlt X)
        clear hV hvf' hlw
        have hcase : x = 4 ∨ x = 5 ∨ x = 3 := by omega
        rcases hcase with rfl | rfl | rfl
        · have HV2 := Lib.hid (show Vw.VF v' (k + 1) W (Bg.set X k) En from HVF.out)
          obtain ⟨p1, p2⟩ := own_cell hM4.out.o2 hl.out.2.1 hX
          go_wp2_with fail
          go_roundw
          case rel => exact ⟨k + 1, v', vs', W, Bg.set X k, En, by omega, by go_num, hI, HV2, Lib.hid (hM4.out.set2 X k)⟩
          case measure => simp [intOf]; omega
        · have HV2 := Lib.hid (show Vw.VF v' (k + 1) W Bg (En.set X k) from HVF.out)
          obtain ⟨p1, p2⟩ := own_cell hM4.out.o3 hl.out.2.2 hX
          go_wp2_with fail
          go_roundw
          case rel => exact ⟨k + 1, v', vs', W, Bg, En.set X k, by omega, by go_num, hI, HV2, Lib.hid (hM4.out.set3 X k)⟩
          case measure => simp [intOf]; omega
        · obtain ⟨⟨o6, o7⟩, o8, o9⟩ := o5 rfl
          obtain ⟨Z, rfl⟩ : ∃ Z : Nat, z = (Z : Int) := ⟨z.toNat, by omega⟩
          have hZ : Z < 4 := by omega
          have i3 : decide ((Z : Int) < 0) = false := by simp
          have i4 : decide ((3 : Int) < (Z : Int)) = false := by simp; omega
          have hcu : u = 1 ∨ u = 0 := by omega
          rcases hcu with rfl | rfl
          · have HV2 := Lib.hid (show Vw.VF v' (k + 1) (W.set X (W.getD X 0 ||| 2 ^ Z)) Bg En from HVF.out)
            obtain ⟨p1, p2⟩ := own_cell hM4.out.o1 hl.out.1 hX
            have hset := Lib.hid ((hM4.out.set1 X (W.getD X 0 ||| 2 ^ Z)).drew)
            obtain ⟨wx, hwx⟩ : ∃ wx, wx = W.getD X 0 := ⟨_, rfl⟩
            rw [← hwx] at p1 hw16 hset HV2
            have hwi := Lib.hid fun w5 : World => (with_any wx Z w5 (by have := hw16.out; omega) (by omega)).mono (R' := fun e w' => e = .returned (nv (wx ||| 2 ^ Z)) ∧ w' = w5) fun _ _ ⟨a, b⟩ => ⟨a, b.symm⟩
            obtain ⟨nx, hnx⟩ : ∃ nx, nx = wx ||| 2 ^ Z := ⟨_, rfl⟩
            rw [← hnx] at hwi hset HV2
            clear hwx hnx
            go_wp2_with fail
            refine wp_region_still_tail 12 (by kernel_rfl) (by kernel_rfl) ?_
            simp only [List.take_succ_cons, List.take_zero, List.drop_succ_cons, List.drop_zero]
            repeat (first | still_step | still_call (hwi.out _))
            refine wpStill_nil ?_
            go_wp2_with fail
            go_roundw
            case rel => exact ⟨k + 1, v', vs', W.set X nx, Bg, En, by omega, by go_num, hI, HV2, hset⟩
            case measure => simp [intOf]; omega
          · have HV2 := Lib.hid (show Vw.VF v' (k + 1) W Bg En from HVF.out)
            go_wp2_with fail
            go_roundw
            case rel => exact ⟨k + 1, v', vs', W, Bg, En, by omega, by go_num, hI, HV2, hM4⟩
            case measure => simp [intOf]; omega
      · have HV2 := Lib.hid (hV.out.2 hc)
        rw [errw_ne hc] at hev
        subst hev
        clear hV
        go_wp2_with fail
        go_roundw
        case rel => exact ⟨k + 1, v', vs', W, Bg, En, by omega, by go_num, hI, HV2, hM4⟩
        case measure => simp [intOf]; omega
    · have hend : ∀ (P : Prop), (k = s.length → P) → (k < s.length → ¬ k < 60 → P) → P := fun P h1 h2 => by
        by_cases h : k < s.length
        · exact h2 h (fun h' => hkl ⟨h, h'⟩)
        · exact h1 (by omega)
      clear hkl
      have HC := Lib.hid (vcommitted_calls v b vs wr hM.out.st)
      have HCM := Lib.hid (show Vw.com v < 32 from Vw.comTo_lt v 5)
      have HBT := Lib.hid fun (x : Nat) => (show (Vw.com v).testBit x = true → x < 5 → True from fun _ _ => trivial)
      clear HBT
      have HBT := Lib.hid fun (x : Nat) => (show ((Vw.com v).testBit x = true → (Vw.tx v x).ph = 2) ∧ True from ⟨fun h => by
        unfold Vw.com at h
        rw [Vw.testBit_comTo, Bool.and_eq_true, decide_eq_true_eq, decide_eq_true_eq] at h
        exact h.2, trivial⟩)
      obtain ⟨cm, hcm⟩ : ∃ cm, cm = Vw.com v := ⟨_, rfl⟩
      rw [← hcm] at HC HCM HBT
      have e1 : decide ((cm : Int) < 0) = false := by simp
      have e2 : decide ((31 : Int) < (cm : Int)) = false := by have := HCM.out; simp; omega
      clear hcm
      refine hend _ (fun hk' => ?_) (fun hk' hk2 => ?_)
      · subst hk'
        clear hend hk
        go_wp2_with fail
        (with_reducible refine HC.out.mono ?_)
        rintro e w5 ⟨rfl, hb5⟩
        have hM5 := Lib.hid (hM.out.below hb5)
        clear HC hb5 hM
        go_wp2_with fail
        go_loopw [13] (fun i wr => ∃ a : Nat, a ≤ 5 ∧ i = nv a ∧ Hid (Mem3 w wr b v vs g W Bg En)) (fun i _ => 5 - (intOf i).toNat)
        case atStart => exact ⟨0, by omega, rfl, hM5⟩
        case round =>
          clear hM5
          obtain ⟨a, ha, rfl, hM⟩ := hrel
          by_cases ha5 : a < 5
          · have ia : (a : Int) < 5 := by omega
            go_wp2_with fail
            go_loopw [14] (fun i wr => ∃ c : Nat, c ≤ a ∧ i = nv c ∧ Hid (Mem3 w wr b v vs g W Bg En)) (fun i _ => a - (intOf i).toNat)
            case atStart => exact ⟨0, by omega, rfl, hM⟩
            case round =>
              clear hM
              obtain ⟨c, hc, rfl, hM⟩ := hrel
              by_cases hca : c < a
              · have ic : (c : Int) < (a : Int) := by omega
                have ic5 : (c : Int) < 5 := by omega
                obtain ⟨p1, -⟩ := own_cell hM.out.o1 hvf.out.lw (k := a) ha5
                obtain ⟨p2, -⟩ := own_cell hM.out.o1 hvf.out.lw (k := c) (by omega)
                obtain ⟨p3, -⟩ := own_cell hM.out.o2 hvf.out.lb (k := a) ha5
                obtain ⟨p4, -⟩ := own_cell hM.out.o2 hvf.out.lb (k := c) (by omega)
                obtain ⟨p5, -⟩ := own_cell hM.out.o3 hvf.out.le (k := a) ha5
                obtain ⟨p6, -⟩ := own_cell hM.out.o3 hvf.out.le (k := c) (by omega)
                have l1 : W.getD a 0 < 16 := by rw [hvf.out.wr a ha5]; exact hinv.out.wlt a
                have l2 : W.getD c 0 < 16 := by rw [hvf.out.wr c (by omega)]; exact hinv.out.wlt c
                have hB1 := Lib.hid fun (w5 : World) => (bit_calls cm a w5 (by have := HCM.out; omega) (by omega)).mono (R' := fun e w' => e = .returned (.bool (cm.testBit a)) ∧ w' = w5) fun _ _ ⟨a, b⟩ => ⟨a, b.symm⟩
                have hB2 := Lib.hid fun (w5 : World) => (bit_calls cm c w5 (by have := HCM.out; omega) (by omega)).mono (R' := fun e w' => e = .returned (.bool (cm.testBit c)) ∧ w' = w5) fun _ _ ⟨a, b⟩ => ⟨a, b.symm⟩
                have hB3 := Lib.hid fun (w5 : World) => (both_calls (W.getD a 0) (W.getD c 0) w5 (by omega) (by omega)).mono (R' := fun e w' => e = .returned (nv (W.getD a 0 &&& W.getD c 0)) ∧ w' = w5) fun _ _ ⟨a, b⟩ => ⟨a, b.symm⟩
                have HFI := Lib.hid fun (h1 : (Vw.tx v a).ph = 2) (h2 : (Vw.tx v c).ph = 2) => hvf.out.first hinv.out ha5 (by omega) (by omega) h1 h2
                have HT1 := Lib.hid (HBT.out a)
                have HT2 := Lib.hid (HBT.out c)
                generalize W.getD a 0 = wa at *
                generalize W.getD c 0 = wc at *
                generalize Bg.getD a 0 = ba at *
                generalize Bg.getD c 0 = bc at *
                generalize En.getD a 0 = ea at *
                generalize En.getD c 0 = ec at *
                cases h1 : cm.testBit a with
                | false =>
                  rw [h1] at hB1
                  clear h1
                  go_wp2_with fail
                  refine wp_region_still_tail 41 (by kernel_rfl) (by kernel_rfl) ?_
                  simp only [List.take_succ_cons, List.take_zero, List.drop_succ_cons, List.drop_zero]
                  repeat ((with_reducible refine wpStill_step (fun K hK => ?_)); go_simp; (first | refine hK _ ?_ | (with_reducible refine ⟨_, hB1.out _, hK _ ?_⟩)); clear hK K)
                  (with_reducible refine wpStill_nil ?_)
                  go_wp2_with fail
                  go_roundw
                  case rel => exact ⟨c + 1, by omega, by go_num, Lib.hid hM.out.drew⟩
                  case measure => simp [intOf]; omega
                | true =>
                  rw [h1] at hB1
                  cases h2 : cm.testBit c with
                  | false =>
                    rw [h2] at hB2
                    clear h1 h2
                    go_wp2_with fail
                    refine wp_region_still_tail 41 (by kernel_rfl) (by kernel_rfl) ?_
                    simp only [List.take_succ_cons, List.take_zero, List.drop_succ_cons, List.drop_zero]
                    repeat ((with_reducible refine wpStill_step (fun K hK => ?_)); go_simp; (first | refine hK _ ?_ | (with_reducible refine ⟨_, hB1.out _, hK _ ?_⟩) | (with_reducible refine ⟨_, hB2.out _, hK _ ?_⟩)); clear hK K)
                    (with_reducible refine wpStill_nil ?_)
                    go_wp2_with fail
                    go_roundw
                    case rel => exact ⟨c + 1, by omega, by go_num, Lib.hid hM.out.drew⟩
                    case measure => simp [intOf]; omega
                  | true =>
                    rw [h2] at hB2
                    have HF2 := Lib.hid (HFI.out (HT1.out.1 h1) (HT2.out.1 h2))
                    clear h1 h2 HFI HT1 HT2
                    by_cases h3 : wa &&& wc = 0
                    · rw [h3] at hB3
                      clear h3
                      go_wp2_with fail
                      refine wp_region_still_tail 41 (by kernel_rfl) (by kernel_rfl) ?_
                      simp only [List.take_succ_cons, List.take_zero, List.drop_succ_cons, List.drop_zero]
                      repeat ((with_reducible refine wpStill_step (fun K hK => ?_)); go_simp; (first | refine hK _ ?_ | (with_reducible refine ⟨_, hB1.out _, hK _ ?_⟩) | (with_reducible refine ⟨_, hB2.out _, hK _ ?_⟩) | (with_reducible refine ⟨_, hB3.out _, hK _ ?_⟩)); clear hK K)
                      (with_reducible refine wpStill_nil ?_)
                      go_wp2_with fail
                      go_roundw
                      case rel => exact ⟨c + 1, by omega, by go_num, Lib.hid hM.out.drew⟩
                      case measure => simp [intOf]; omega
                    · have HF3 := Lib.hid (HF2.out h3)
                      obtain ⟨bo, hbo⟩ : ∃ bo, bo = wa &&& wc := ⟨_, rfl⟩
                      rw [← hbo] at hB3 h3
                      have t1 : ((bo : Int) != 0) = true := by simp; omega
                      clear hbo h3 HF2
                      by_cases h4 : ba < ec
                      · have h5 : ¬ bc < ea := fun h => HF3.out h4 h
                        have t2 : decide ((ba : Int) < (ec : Int)) = true := by simp; omega
                        have t2n : decide (ba < ec) = true := by simp; omega
                        have t3 : decide ((bc : Int) < (ea : Int)) = false := by simp; omega
                        have t3n : decide (bc < ea) = false := by simp; omega
                        clear h4 h5
                        go_wp2_with fail
                        refine wp_region_still_tail 41 (by kernel_rfl) (by kernel_rfl) ?_
                        simp only [List.take_succ_cons, List.take_zero, List.drop_succ_cons, List.drop_zero]
                        repeat ((with_reducible refine wpStill_step (fun K hK => ?_)); go_simp; (first | refine hK _ ?_ | (with_reducible refine ⟨_, hB1.out _, hK _ ?_⟩) | (with_reducible refine ⟨_, hB2.out _, hK _ ?_⟩) | (with_reducible refine ⟨_, hB3.out _, hK _ ?_⟩)); clear hK K)
                        (with_reducible refine wpStill_nil ?_)
                        go_wp2_with fail
                        go_roundw
                        case rel => exact ⟨c + 1, by omega, by go_num, Lib.hid hM.out.drew⟩
                        case measure => simp [intOf]; omega
                      · have t2 : decide ((ba : Int) < (ec : Int)) = false := by simp; omega
                        have t2n : decide (ba < ec) = false := by simp; omega
                        clear h4
                        go_wp2_with fail
                        refine wp_region_still_tail 41 (by kernel_rfl) (by kernel_rfl) ?_
                        simp only [List.take_succ_cons, List.take_zero, List.drop_succ_cons, List.drop_zero]
                        repeat ((with_reducible refine wpStill_step (fun K hK => ?_)); go_simp; (first | refine hK _ ?_ | (with_reducible refine ⟨_, hB1.out _, hK _ ?_⟩) | (with_reducible refine ⟨_, hB2.out _, hK _ ?_⟩) | (with_reducible refine ⟨_, hB3.out _, hK _ ?_⟩)); clear hK K)
                        (with_reducible refine wpStill_nil ?_)
                        go_wp2_with fail
                        go_roundw
                        case rel => exact ⟨c + 1, by omega, by go_num, Lib.hid hM.out.drew⟩
                        case measure => simp [intOf]; omega
              · obtain rfl : c = a := by omega
                go_wp2_with fail
                go_roundw
                case rel => exact ⟨c + 1, by omega, by go_num, hM⟩
                case measure => simp [intOf]; omega
          · obtain rfl : a = 5 := by omega
            go_wp2_with fail
            go_ret
            exact ⟨rfl, hM.out.bw⟩
      · have t3 : decide ((k : Int) < 60) = false := by simp; omega
        clear hend hk hk2
        go_wp2_with fail
        (with_reducible refine HC.out.mono ?_)
        rintro e w5 ⟨rfl, hb5⟩
        have hM5 := Lib.hid (hM.out.below hb5)
        clear HC hb5 hM
        go_wp2_with fail
        go_loopw [13] (fun i wr => ∃ a : Nat, a ≤ 5 ∧ i = nv a ∧ Hid (Mem3 w wr b v vs g W Bg En)) (fun i _ => 5 - (intOf i).toNat)
        case atStart => exact ⟨0, by omega, rfl, hM5⟩
        case round =>
          clear hM5
          obtain ⟨a, ha, rfl, hM⟩ := hrel
          by_cases ha5 : a < 5
          · have ia : (a : Int) < 5 := by omega
            go_wp2_with fail
            go_loopw [14] (fun i wr => ∃ c : Nat, c ≤ a ∧ i = nv c ∧ Hid (Mem3 w wr b v vs g W Bg En)) (fun i _ => a - (intOf i).toNat)
            case atStart => exact ⟨0, by omega, rfl, hM⟩
            case round =>
              clear hM
              obtain ⟨c, hc, rfl, hM⟩ := hrel
              by_cases hca : c < a
              · have ic : (c : Int) < (a : Int) := by omega
                have ic5 : (c : Int) < 5 := by omega
                obtain ⟨p1, -⟩ := own_cell hM.out.o1 hvf.out.lw (k := a) ha5
                obtain ⟨p2, -⟩ := own_cell hM.out.o1 hvf.out.lw (k := c) (by omega)
                obtain ⟨p3, -⟩ := own_cell hM.out.o2 hvf.out.lb (k := a) ha5
                obtain ⟨p4, -⟩ := own_cell hM.out.o2 hvf.out.lb (k := c) (by omega)
                obtain ⟨p5, -⟩ := own_cell hM.out.o3 hvf.out.le (k := a) ha5
                obtain ⟨p6, -⟩ := own_cell hM.out.o3 hvf.out.le (k := c) (by omega)
                have l1 : W.getD a 0 < 16 := by rw [hvf.out.wr a ha5]; exact hinv.out.wlt a
                have l2 : W.getD c 0 < 16 := by rw [hvf.out.wr c (by omega)]; exact hinv.out.wlt c
                have hB1 := Lib.hid fun (w5 : World) => (bit_calls cm a w5 (by have := HCM.out; omega) (by omega)).mono (R' := fun e w' => e = .returned (.bool (cm.testBit a)) ∧ w' = w5) fun _ _ ⟨a, b⟩ => ⟨a, b.symm⟩
                have hB2 := Lib.hid fun (w5 : World) => (bit_calls cm c w5 (by have := HCM.out; omega) (by omega)).mono (R' := fun e w' => e = .returned (.bool (cm.testBit c)) ∧ w' = w5) fun _ _ ⟨a, b⟩ => ⟨a, b.symm⟩
                have hB3 := Lib.hid fun (w5 : World) => (both_calls (W.getD a 0) (W.getD c 0) w5 (by omega) (by omega)).mono (R' := fun e w' => e = .returned (nv (W.getD a 0 &&& W.getD c 0)) ∧ w' = w5) fun _ _ ⟨a, b⟩ => ⟨a, b.symm⟩
                have HFI := Lib.hid fun (h1 : (Vw.tx v a).ph = 2) (h2 : (Vw.tx v c).ph = 2) => hvf.out.first hinv.out ha5 (by omega) (by omega) h1 h2
                have HT1 := Lib.hid (HBT.out a)
                have HT2 := Lib.hid (HBT.out c)
                generalize W.getD a 0 = wa at *
                generalize W.getD c 0 = wc at *
                generalize Bg.getD a 0 = ba at *
                generalize Bg.getD c 0 = bc at *
                generalize En.getD a 0 = ea at *
                generalize En.getD c 0 = ec at *
                cases h1 : cm.testBit a with
                | false =>
                  rw [h1] at hB1
                  clear h1
                  go_wp2_with fail
                  refine wp_region_still_tail 41 (by kernel_rfl) (by kernel_rfl) ?_
                  simp only [List.take_succ_cons, List.take_zero, List.drop_succ_cons, List.drop_zero]
                  repeat ((with_reducible refine wpStill_step (fun K hK => ?_)); go_simp; (first | refine hK _ ?_ | (with_reducible refine ⟨_, hB1.out _, hK _ ?_⟩)); clear hK K)
                  (with_reducible refine wpStill_nil ?_)
                  go_wp2_with fail
                  go_roundw
                  case rel => exact ⟨c + 1, by omega, by go_num, Lib.hid hM.out.drew⟩
                  case measure => simp [intOf]; omega
                | true =>
                  rw [h1] at hB1
                  cases h2 : cm.testBit c with
                  | false =>
                    rw [h2] at hB2
                    clear h1 h2
                    go_wp2_with fail
                    refine wp_region_still_tail 41 (by kernel_rfl) (by kernel_rfl) ?_
                    simp only [List.take_succ_cons, List.take_zero, List.drop_succ_cons, List.drop_zero]
                    repeat ((with_reducible refine wpStill_step (fun K hK => ?_)); go_simp; (first | refine hK _ ?_ | (with_reducible refine ⟨_, hB1.out _, hK _ ?_⟩) | (with_reducible refine ⟨_, hB2.out _, hK _ ?_⟩)); clear hK K)
                    (with_reducible refine wpStill_nil ?_)
                    go_wp2_with fail
                    go_roundw
                    case rel => exact ⟨c + 1, by omega, by go_num, Lib.hid hM.out.drew⟩
                    case measure => simp [intOf]; omega
                  | true =>
                    rw [h2] at hB2
                    have HF2 := Lib.hid (HFI.out (HT1.out.1 h1) (HT2.out.1 h2))
                    clear h1 h2 HFI HT1 HT2
                    by_cases h3 : wa &&& wc = 0
                    · rw [h3] at hB3
                      clear h3
                      go_wp2_with fail
                      refine wp_region_still_tail 41 (by kernel_rfl) (by kernel_rfl) ?_
                      simp only [List.take_succ_cons, List.take_zero, List.drop_succ_cons, List.drop_zero]
                      repeat ((with_reducible refine wpStill_step (fun K hK => ?_)); go_simp; (first | refine hK _ ?_ | (with_reducible refine ⟨_, hB1.out _, hK _ ?_⟩) | (with_reducible refine ⟨_, hB2.out _, hK _ ?_⟩) | (with_reducible refine ⟨_, hB3.out _, hK _ ?_⟩)); clear hK K)
                      (with_reducible refine wpStill_nil ?_)
                      go_wp2_with fail
                      go_roundw
                      case rel => exact ⟨c + 1, by omega, by go_num, Lib.hid hM.out.drew⟩
                      case measure => simp [intOf]; omega
                    · have HF3 := Lib.hid (HF2.out h3)
                      obtain ⟨bo, hbo⟩ : ∃ bo, bo = wa &&& wc := ⟨_, rfl⟩
                      rw [← hbo] at hB3 h3
                      have t1 : ((bo : Int) != 0) = true := by simp; omega
                      clear hbo h3 HF2
                      by_cases h4 : ba < ec
                      · have h5 : ¬ bc < ea := fun h => HF3.out h4 h
                        have t2 : decide ((ba : Int) < (ec : Int)) = true := by simp; omega
                        have t2n : decide (ba < ec) = true := by simp; omega
                        have t3 : decide ((bc : Int) < (ea : Int)) = false := by simp; omega
                        have t3n : decide (bc < ea) = false := by simp; omega
                        clear h4 h5
                        go_wp2_with fail
                        refine wp_region_still_tail 41 (by kernel_rfl) (by kernel_rfl) ?_
                        simp only [List.take_succ_cons, List.take_zero, List.drop_succ_cons, List.drop_zero]
                        repeat ((with_reducible refine wpStill_step (fun K hK => ?_)); go_simp; (first | refine hK _ ?_ | (with_reducible refine ⟨_, hB1.out _, hK _ ?_⟩) | (with_reducible refine ⟨_, hB2.out _, hK _ ?_⟩) | (with_reducible refine ⟨_, hB3.out _, hK _ ?_⟩)); clear hK K)
                        (with_reducible refine wpStill_nil ?_)
                        go_wp2_with fail
                        go_roundw
                        case rel => exact ⟨c + 1, by omega, by go_num, Lib.hid hM.out.drew⟩
                        case measure => simp [intOf]; omega
                      · have t2 : decide ((ba : Int) < (ec : Int)) = false := by simp; omega
                        have t2n : decide (ba < ec) = false := by simp; omega
                        clear h4
                        go_wp2_with fail
                        refine wp_region_still_tail 41 (by kernel_rfl) (by kernel_rfl) ?_
                        simp only [List.take_succ_cons, List.take_zero, List.drop_succ_cons, List.drop_zero]
                        repeat ((with_reducible refine wpStill_step (fun K hK => ?_)); go_simp; (first | refine hK _ ?_ | (with_reducible refine ⟨_, hB1.out _, hK _ ?_⟩) | (with_reducible refine ⟨_, hB2.out _, hK _ ?_⟩) | (with_reducible refine ⟨_, hB3.out _, hK _ ?_⟩)); clear hK K)
                        (with_reducible refine wpStill_nil ?_)
                        go_wp2_with fail
                        go_roundw
                        case rel => exact ⟨c + 1, by omega, by go_num, Lib.hid hM.out.drew⟩
                        case measure => simp [intOf]; omega
              · obtain rfl : c = a := by omega
                go_wp2_with fail
                go_roundw
                case rel => exact ⟨c + 1, by omega, by go_num, hM⟩
                case measure => simp [intOf]; omega
          · obtain rfl : a = 5 := by omega
            go_wp2_with fail
            go_ret
            exact ⟨rfl, hM.out.bw⟩
/-- the law at every input -/
theorem vfir_calls (v : Value) (recs : List (List Int)) (w : World) (hr : Rd w w.heap.size 4 v recs.length (recs.flatMap fun r => r.map iv)) (hl : ∀ r ∈ recs, r.length = 4) (hT : Tab w) :
    Calls Tryd.prog 7 #[v] w fun e w' => e = .returned (.bool true) ∧ Below w.heap.size w w' := by
  obtain ⟨s, hs⟩ := vdeeds_of_recs hr hl
  exact vfir_ok s v w hs hT
end Go.Proofs.YtkindaadadggoaaDoor
