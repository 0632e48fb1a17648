/- The walk of the statement ViewRow: at every input it returns true. Conditions: none beyond the handle's. (Printed by wip/gen/vrow.py.) -/
import Derived.Test.YtkindaadadggoaaDoorVMemR
import Derived.StillTailTactics
namespace Go.Proofs.YtkindaadadggoaaDoor
open Go.RowKit

theorem errw_ne {n : Nat} (h : n ≠ 0) : errw n = .iface 93 (nv n) := if_neg h
theorem vr_stepI {v : Vw.V} {W : List Nat} {R : List Vw.R3} (hI : Vw.Inv v) (h : Vw.VR v W R) (d : Deed4V) :
    ((vstepI v d).2.2 = 0 → vokI d ∧ Vw.VR (vstepI v d).1 (Vw.fW (natD d) W) (Vw.fR (natD d) (vstepI v d).2.1 W R) ∧ ((natD d).1 = 3 → (natD d).2.2.2 ≠ 1 → (W.getD (natD d).2.1 0).testBit (natD d).2.2.1 = true → (vstepI v d).2.1 = ((natD d).2.1 : Int))) ∧ ((vstepI v d).2.2 ≠ 0 → Vw.VR (vstepI v d).1 W R) := by
  unfold vstepI
  by_cases hok : vokI d
  · rw [if_pos hok]
    obtain ⟨h1, h2⟩ := h.step hI (okD_nat hok)
    exact ⟨fun hh => ⟨hok, h1 hh⟩, h2⟩
  · rw [if_neg hok]
    exact ⟨fun hh => (by cases hh), fun _ => h⟩
section
variable {w0 w : World} {b g : Nat} {v : Vw.V} {vs : Nat → Value} {W : List Nat} {rv : Value} {bs : List Nat} {R : List Vw.R3}
theorem MemR.fresh (h : MemR w0 w b v vs g W rv bs R) (X Z : Nat) (c : Int) {o1 : Obj} (h1 : o1 = .cells #[.int .i64 (X : Int), .int .i64 (Z : Int), .int .i64 c] 3) {o : Obj} (h2 : o = .cells #[sl3 w.heap.size] 26) : MemR w0 ((w.alloc o1).alloc o) b v vs g W rv bs R ∧
    (b < w.heap.size ∧ w.heap.size ≠ g ∧ w.heap.size < ((w.alloc o1).alloc o).heap.size ∧ rv.ownBlock ≠ some w.heap.size ∧ w.heap.size ∉ bs ∧ ¬ FootV b vs w.heap.size) ∧
    (((w.alloc o1).alloc o).cell? ⟨w.heap.size, 0, none⟩ = some (nv X) ∧ ((w.alloc o1).alloc o).cell? ⟨w.heap.size, 1, none⟩ = some (nv Z) ∧ ((w.alloc o1).alloc o).cell? ⟨w.heap.size, 2, none⟩ = some (iv c)) ∧
    ((w.alloc o1).alloc o).cell? ⟨w.heap.size + 1, 0, none⟩ = some (sl3 w.heap.size) := by
  have hb := h.hb
  have hgl := h.gl
  have hf := h.st.foot
  have e1 : (w.alloc o1).heap.size = w.heap.size + 1 := by simp
  have hB := (Below.refl (w.alloc o1).heap.size (w.alloc o1)).alloc (Nat.le_refl _) o
  have hc : ∀ j, ((w.alloc o1).alloc o).cell? ⟨w.heap.size, j, none⟩ = (w.alloc o1).cell? ⟨w.heap.size, j, none⟩ := fun j => hB.cell (p := ⟨w.heap.size, j, none⟩) (by show w.heap.size < _; omega)
  have hc2 : ((w.alloc o1).alloc o).cell? ⟨w.heap.size + 1, 0, none⟩ = some (sl3 w.heap.size) := by
    rw [← e1, h2, World.cell?_alloc_new]; rfl
  refine ⟨(h.alloc _).alloc _, ⟨by omega, by omega, by simp; omega, fun e => ?_, fun e => ?_, fun e => ?_⟩, ⟨?_, ?_, ?_⟩, hc2⟩
  · have := (row_lt h.rr _ e).2; omega
  · have := (h.rb _ e).2.2.1; omega
  · have := (hf _ e).2; omega
  · rw [hc, h1, World.cell?_alloc_new]; rfl
  · rw [hc, h1, World.cell?_alloc_new]; rfl
  · rw [hc, h1, World.cell?_alloc_new]; rfl
theorem cell_drew {w : World} {p : Addr} {x : Option Value} (h : w.cell? p = x) : w.drew.cell? p = x := h
theorem own_drewN {w : World} {base : Nat} {v : Value} {l : List Int} (h : Own w base v l) (n : Nat) : Own (w.drewN n) base v l := h
theorem own_cellc {base gg n c k : Nat} {l : List Nat} (h : Own w base (.slice (some ⟨gg, 0, none⟩) n c) (zs l)) (hl : l.length = n) (hk : k < n) : w.cell? ⟨gg, k, none⟩ = some (nv (l.getD k 0)) := by
  have := h.lit.2.2.1 k (by rw [length_zs, hl]; exact hk)
  rw [zs_getElem] at this
  exact this
theorem MemR.rr' (h : MemR w0 w b v vs g W rv bs R) : w.ownsRow b 26 1 rv (bs.map sl3).length (bs.map sl3) := by
  rw [List.length_map, h.rl]; exact h.rr
end
set_option maxRecDepth 20000 in
set_option maxHeartbeats 8000000 in
theorem vrow_ok (s : List Deed4V) (v : Value) (w : World) (hr : VDeeds w w.heap.size v s) (hT : Tab w) :
    Calls Tryd.prog 6 #[v] w fun e w' => e = .returned (.bool true) ∧ Below w.heap.size w w' := by
  have hf := Lib.hid (viewFact_calls w hT)
  have HR := Lib.hid hr
  have HT := Lib.hid hT
  obtain ⟨A, cap, rfl⟩ := Rd.val hr
  clear hr hT
  go_enter Tryd.func6, Tryd.ntmps6
  go_wp2_with fail
  (with_reducible refine hf.out.mono ?_)
  rintro e w1 ⟨rfl, hb1⟩
  have hn := Lib.hid (vnew_calls w1)
  clear hf
  go_wp2_with fail
  (with_reducible refine hn.out.mono ?_)
  rintro e w2 ⟨rfl, ⟨vs0, hs0, -⟩, hb2⟩
  have hM0 := Lib.hid (memR_laid hs0 (hb1.trans (hb2.mono hb1.size)) hb1.size)
  have hmk := run_make5
  obtain ⟨b, hbq⟩ : ∃ b, b = w1.heap.size := ⟨_, rfl⟩
  rw [← hbq] at hM0 ⊢
  clear hn hb1 hb2 hs0 hbq
  go_wp2_with fail
  clear hmk
  obtain ⟨g, hg⟩ : ∃ g, g = w2.heap.size := ⟨_, rfl⟩
  rw [← hg] at hM0 ⊢
  obtain ⟨w3, hw3⟩ : ∃ w3, w2.alloc z5 = w3 := ⟨_, rfl⟩
  rw [hw3] at hM0 ⊢
  clear hw3 hg
  go_loopw [6, 7] (fun lv i wr => ∃ (rv : Value) (k : Nat) (v : Vw.V) (vs : Nat → Value) (W bs : List Nat) (R : List Vw.R3), k ≤ s.length ∧ k ≤ 60 ∧ R.length ≤ k ∧ rv = lv ∧ i = nv k ∧ Hid (Vw.Inv v) ∧ Hid (Vw.VR v W R) ∧ Hid (MemR w wr b v vs g W rv bs R)) (fun _ i _ => s.length - (intOf i).toNat)
  case atStart => exact ⟨_, 0, Vw.v0, vs0, _, _, _, Nat.zero_le _, Nat.zero_le _, Nat.zero_le _, rfl, rfl, Lib.hid Vw.inv0, Lib.hid Vw.vr0, hM0⟩
  case round =>
    clear hM0
    obtain ⟨rv, k, v, vs, W, bs, R, hk, hk60, hRk, rfl, rfl, hinv, hvr, hM⟩ := hrel
    by_cases hkl : k < s.length ∧ k < 60
    ·
      obtain ⟨hk1, hk2⟩ := hkl
      obtain ⟨b1, off, cap', he, -, d0, d1, d2, d3⟩ := VDeeds.at_ (Rd.below HR.out hM.out.bw) hk1
      cases he
      generalize hsk : s[k] = a at *
      clear hsk
      have hcall := Lib.hid fun (w5 : World) (h5 : StAt w5 b v vs) (hT5 : Tab w5) => vdo_calls v a b vs w5 h5 hinv.out hT5 (by have := hM.out.hb; have := HT.out.lt; omega)
      have hI := Lib.hid (Vw.Inv.stepI hinv.out a)
      have hV := Lib.hid (vr_stepI hinv.out hvr.out a)
      obtain ⟨x, y, z, u⟩ := a
      simp only at d0 d1 d2 d3 hcall
      rw [show dval (iv x) (iv y) (iv z) (iv u) = .agg #[.int .i64 x, .int .i64 y, .int .i64 z, .int .i64 u] from rfl] at hcall
      generalize (vstepI v (x, y, z, u)).2.1 = c1 at *
      generalize (vstepI v (x, y, z, u)).2.2 = c2 at *
      generalize (vstepI v (x, y, z, u)).1 = v' at *
      obtain ⟨ev, hev⟩ : ∃ ev, ev = errw c2 := ⟨_, rfl⟩
      rw [← hev] at hcall
      go_wp2_with fail
      (with_reducible refine (hcall.out _ (hM.out.alloc _).st (HT.out.below (hM.out.alloc _).bw)).mono ?_)
      rintro e w4 ⟨rfl, ht⟩
      obtain ⟨vs', hm4⟩ := (hM.out.alloc _).to ht
      have hfo := (hM.out.st.foot)
      obtain ⟨-, -, ho, -⟩ := ht
      obtain ⟨D, hD⟩ : ∃ D, D = wr.heap.size := ⟨_, rfl⟩
      have hbox : ∀ j, w4.cell? ⟨D, j, none⟩ = (wr.alloc (.cells #[.int .i64 x, .int .i64 y, .int .i64 z, .int .i64 u] 49)).cell? ⟨D, j, none⟩ := fun j =>
        World.cell?_of_block (ho.block D (by rw [hD]; simp) (fun q => by have := (hfo D q).2; omega))
      have q0 : w4.cell? ⟨D, 0, none⟩ = some (.int .i64 x) := by rw [hbox, hD, World.cell?_alloc_new]; rfl
      have q1 : w4.cell? ⟨D, 1, none⟩ = some (.int .i64 y) := by rw [hbox, hD, World.cell?_alloc_new]; rfl
      have q2 : w4.cell? ⟨D, 2, none⟩ = some (.int .i64 z) := by rw [hbox, hD, World.cell?_alloc_new]; rfl
      have q3 : w4.cell? ⟨D, 3, none⟩ = some (.int .i64 u) := by rw [hbox, hD, World.cell?_alloc_new]; rfl
      rw [← hD]
      have hM4 := Lib.hid hm4
      clear hcall ho hfo hbox hm4 hM hD d0 d1 d2 d3
      by_cases hc : c2 = 0
      · subst hc
        obtain ⟨hok, hvr', hown⟩ := hV.out.1 rfl
        rw [show errw 0 = .nilIface from rfl] at hev
        subst hev
        obtain ⟨⟨o1, o2⟩, ⟨o3, o4⟩, o5⟩ := hok
        simp only at o1 o2 o3 o4 o5
        obtain ⟨X, rfl⟩ : ∃ X : Nat, y = (X : Int) := ⟨y.toNat, by omega⟩
        have hX : X < 5 := by omega
        have i0 : decide ((X : Int) < 0) = false := by simp
        have i1 : decide ((4 : Int) < (X : Int)) = false := by simp; omega
        have i2 : (X : Int) < 5 := by omega
        have HVR := Lib.hid hvr'
        have HOW := Lib.hid hown
        have hl := Lib.hid hvr.out.lw
        have hw16 := Lib.hid (show W.getD X 0 < 16 by rw [hvr.out.wr X hX]; exact hinv.out.wlt X)
        clear hV hvr' hown
        have hcase : x = 4 ∨ x = 5 ∨ x = 3 := by omega
        rcases hcase with rfl | rfl | rfl
        · have HV2 := Lib.hid (show Vw.VR v' W R from HVR.out)
          go_wp2_with fail
          go_roundw
          case rel => exact ⟨rv, k + 1, v', vs', W, bs, R, by omega, by omega, by omega, rfl, by go_num, hI, HV2, hM4⟩
          case measure => simp [intOf]; omega
        · have HV2 := Lib.hid (show Vw.VR v' W R from HVR.out)
          go_wp2_with fail
          go_roundw
          case rel => exact ⟨rv, k + 1, v', vs', W, bs, R, by omega, by omega, by omega, rfl, by go_num, hI, HV2, hM4⟩
          case measure => simp [intOf]; omega
        · obtain ⟨⟨o6, o7⟩, o8, o9⟩ := o5 rfl
          obtain ⟨Z, rfl⟩ : ∃ Z : Nat, z = (Z : Int) := ⟨z.toNat, by omega⟩
          have hZ : Z < 4 := by omega
          have i3 : decide ((Z : Int) < 0) = false := by simp
          have i4 : decide ((3 : Int) < (Z : Int)) = false := by simp; omega
          obtain ⟨p1, p2⟩ := own_cell hM4.out.o1 hl.out hX
          have hcu : u = 1 ∨ u = 0 := by omega
          rcases hcu with rfl | rfl
          · have HV2 := Lib.hid (show Vw.VR v' (W.set X (W.getD X 0 ||| 2 ^ Z)) R from HVR.out)
            have hset := Lib.hid ((hM4.out.set1 X (W.getD X 0 ||| 2 ^ Z)).drew)
            obtain ⟨wx, hwx⟩ : ∃ wx, wx = W.getD X 0 := ⟨_, rfl⟩
            rw [← hwx] at p1 hw16 hset HV2
            have hwi := Lib.hid fun w5 : World => (with_any wx Z w5 (by have := hw16.out; omega) (by omega)).mono (R' := fun e w' => e = .returned (nv (wx ||| 2 ^ Z)) ∧ w' = w5) fun _ _ ⟨a, b⟩ => ⟨a, b.symm⟩
            obtain ⟨nx, hnx⟩ : ∃ nx, nx = wx ||| 2 ^ Z := ⟨_, rfl⟩
            rw [← hnx] at hwi hset HV2
            clear hwx hnx
            go_wp2_with fail
            refine wp_region_still_tail 12 (by kernel_rfl) (by kernel_rfl) ?_
            simp only [List.take_succ_cons, List.take_zero, List.drop_succ_cons, List.drop_zero]
            repeat (first | still_step | still_call (hwi.out _))
            refine wpStill_nil ?_
            go_wp2_with fail
            go_roundw
            case rel => exact ⟨rv, k + 1, v', vs', W.set X nx, bs, R, by omega, by omega, by omega, rfl, by go_num, hI, HV2, hset⟩
            case measure => simp [intOf]; omega
          · have HV2 := Lib.hid (show Vw.VR v' W (if (3 : Nat) = 3 ∧ (0 : Nat) ≠ 1 ∧ (W.getD X 0).testBit Z = false then R ++ [(X, Z, c1)] else R) from HVR.out)
            have HO2 := Lib.hid (show (W.getD X 0).testBit Z = true → c1 = (X : Int) from HOW.out rfl (show (0 : Nat) ≠ 1 by decide))
            obtain ⟨wx, hwx⟩ : ∃ wx, wx = W.getD X 0 := ⟨_, rfl⟩
            rw [← hwx] at p1 hw16 HO2 HV2
            have hB1 := Lib.hid fun (n : Nat) (w5 : World) => Calls.quiet_of_same ((bit_calls wx Z (w5.drewN n) (by have := hw16.out; omega) (by omega)).mono fun _ _ ⟨a, b⟩ => ⟨a, b.symm⟩)
            clear hwx HVR HOW
            cases hbit : wx.testBit Z with
            | true =>
              rw [hbit] at hB1 HO2 HV2
              have HV3 := Lib.hid (show Vw.VR v' W R by have := HV2.out; rw [if_neg (fun q => by cases q.2.2)] at this; exact this)
              obtain rfl := HO2.out rfl
              have e1 : ((X : Int) != (X : Int)) = false := by simp
              clear hbit HV2 HO2
              go_wp2_with fail
              go_quiet (first | (go_at_call 29; exact hB1.out _ _))
              go_wp2_with fail
              go_roundw
              case rel => exact ⟨rv, k + 1, v', vs', W, bs, R, by omega, by omega, by omega, rfl, by go_num, hI, HV3, Lib.hid (hM4.out.drewN _)⟩
              case measure => simp [intOf]; omega
            | false =>
              rw [hbit] at hB1 HO2 HV2
              have HV3 := Lib.hid (show Vw.VR v' W (R ++ [(X, Z, c1)]) by have := HV2.out; rw [if_pos ⟨rfl, by decide, rfl⟩] at this; exact this)
              clear hbit HV2 HO2
              go_wp2_with fail
              go_quiet (first | (go_at_call 29; exact hB1.out _ _))
              have hfr := Lib.hid ((hM4.out.drewN nq).fresh X Z c1 rfl rfl)
              go_wp2_with (at_builtin; refine append_row_at rfl _ _ rfl b rv (bs.map sl3) rfl hfr.out.1.rr' _ rfl _ hfr.out.2.2.2 (by have := hM4.out.rl; rw [List.length_map]; omega) (Nat.le_of_lt (Nat.lt_trans hM4.out.hb.2 hfr.out.1.gl)) ?_; intro rv' w5 hrow hgr hbn; have HM5 := Lib.hid (hfr.out.1.more (p := (X, Z, c1)) hfr.out.2.1 hfr.out.2.2.1 hrow hgr hbn); clear hfr hrow hgr hbn)
              go_roundw
              case rel => exact ⟨_, k + 1, v', vs', W, _, _, by omega, by omega, by rw [List.length_append]; show _ + 1 ≤ _; omega, rfl, by go_num, hI, HV3, HM5⟩
              case measure => simp [intOf]; omega
      · have HV2 := Lib.hid (hV.out.2 hc)
        rw [errw_ne hc] at hev
        subst hev
        clear hV
        go_wp2_with fail
        go_roundw
        case rel => exact ⟨rv, k + 1, v', vs', W, bs, R, by omega, by omega, by omega, rfl, by go_num, hI, HV2, hM4⟩
        case measure => simp [intOf]; omega
    · have hend : ∀ (P : Prop), (k = s.length → P) → (k < s.length → ¬ k < 60 → P) → P := fun P h1 h2 => by
        by_cases h : k < s.length
        · exact h2 h (fun h' => hkl ⟨h, h'⟩)
        · exact h1 (by omega)
      clear hkl
      have HS := Lib.hid (vserial_calls v b vs wr hM.out.st hinv.out (HT.out.below hM.out.bw))
      have HC := Lib.hid fun (w5 : World) (h5 : Below wr.heap.size wr w5) => vcommitted_calls v b vs w5 (hM.out.st.below h5)
      have HCM := Lib.hid (show Vw.com v < 32 from Vw.comTo_lt v 5)
      have HBT : ∀ x, x < 5 → (Vw.com v).testBit x = decide ((Vw.tx v x).ph = 2) := fun x hx => by
        unfold Vw.com
        rw [Vw.testBit_comTo, decide_eq_true hx, Bool.true_and]
      obtain ⟨cm, hcm⟩ : ∃ cm, cm = Vw.com v := ⟨_, rfl⟩
      rw [← hcm] at HC HCM HBT
      have e1 : decide ((cm : Int) < 0) = false := by simp
      have e2 : decide ((31 : Int) < (cm : Int)) = false := by have := HCM.out; simp; omega
      clear hcm
      cases hrow : Rw.row (Vw.ed v).1 with
      | none =>
        have HS2 := Lib.hid (HS.out.mono (R' := fun e w' => e = .returned (.tuple #[.bool false, .slice none 0 0]) ∧ Below wr.heap.size wr w') (fun e w' ⟨hb, hh⟩ => by
          rcases hh with ⟨_, h2⟩ | ⟨out, v', h2, _⟩
          · exact ⟨h2, hb⟩
          · rw [hrow] at h2; cases h2))
        clear HS HBT hrow
        refine hend _ (fun hk' => ?_) (fun hk' hk2 => ?_)
        · subst hk'
          clear hend hk
          go_wp2_with fail
          (with_reducible refine HS2.out.mono ?_)
          rintro e w5 ⟨rfl, hb5⟩
          have HC2 := Lib.hid (HC.out w5 hb5)
          have HBF := Lib.hid (hM.out.bw.trans (hb5.mono hM.out.bw.size))
          clear HS2 HC hb5 hM
          go_wp2_with fail
          (with_reducible refine HC2.out.mono ?_)
          rintro e w6 ⟨rfl, hb6⟩
          have HBG := Lib.hid (HBF.out.trans (hb6.mono HBF.out.size))
          clear HC2 hb6
          go_wp2_with fail
          go_ret
          exact ⟨rfl, HBG.out⟩
        · have t3 : decide ((k : Int) < 60) = false := by simp; omega
          clear hend hk hk2
          go_wp2_with fail
          (with_reducible refine HS2.out.mono ?_)
          rintro e w5 ⟨rfl, hb5⟩
          have HC2 := Lib.hid (HC.out w5 hb5)
          have HBF := Lib.hid (hM.out.bw.trans (hb5.mono hM.out.bw.size))
          clear HS2 HC hb5 hM
          go_wp2_with fail
          (with_reducible refine HC2.out.mono ?_)
          rintro e w6 ⟨rfl, hb6⟩
          have HBG := Lib.hid (HBF.out.trans (hb6.mono HBF.out.size))
          clear HC2 hb6
          go_wp2_with fail
          go_ret
          exact ⟨rfl, HBG.out⟩
      | some out =>
        have H5 := Lib.hid (Vw.row5 hinv.out hrow)
        have HLAW := Lib.hid (show ∀ j, j < R.length → (R.getD j r0).1 < 5 ∧ (R.getD j r0).2.1 < 4 ∧ (cm.testBit (R.getD j r0).1 = true → ∀ q, q < 5 → out.getD q 0 = (R.getD j r0).1 → Vw.lastTo (fun x => cm.testBit x && (W.getD x 0).testBit (R.getD j r0).2.1) out q = (R.getD j r0).2.2) from fun j hj => by
          have hmem : R.getD j r0 ∈ R := by
            rw [List.getD_eq_getElem?_getD, List.getElem?_eq_getElem hj]; exact List.getElem_mem hj
          obtain ⟨h1, h2, -, -⟩ := hvr.out.rd _ hmem
          exact ⟨h1, h2, fun hc q hq hqt => hvr.out.law hinv.out hrow HBT hmem hc hq hqt⟩)
        have HVW := Lib.hid (show W.length = 5 ∧ ∀ x, x < 5 → W.getD x 0 < 16 from ⟨hvr.out.lw, fun x hx => by rw [hvr.out.wr x hx]; exact hinv.out.wlt x⟩)
        obtain ⟨wz, hwz⟩ : ∃ wz, wz = wr.heap.size := ⟨_, rfl⟩
        have HS2 := Lib.hid (HS.out.mono (R' := fun e w' => ∃ gl capl, e = .returned (.tuple #[.bool true, .slice (some ⟨gl, 0, none⟩) 5 capl]) ∧ Own w' wz (.slice (some ⟨gl, 0, none⟩) 5 capl) (zs out) ∧ Below wr.heap.size wr w') (fun e w' ⟨hb, hh⟩ => by
          rcases hh with ⟨h2, _⟩ | ⟨out', v', h2, h3, h4⟩
          · rw [hrow] at h2; cases h2
          · rw [hrow] at h2
            injection h2 with h2
            subst h2
            obtain ⟨gl, capl, e, -⟩ := Own.shape h4 (by rw [length_zs, H5.out.len]; decide)
            rw [length_zs, H5.out.len] at e
            subst e
            exact ⟨gl, capl, h3, by rw [hwz]; exact h4, hb⟩))
        clear HS HBT hrow hwz hvr hinv
        refine hend _ (fun hk' => ?_) (fun hk' hk2 => ?_)
        · subst hk'
          clear hend hk
          go_wp2_with fail
          (with_reducible refine HS2.out.mono ?_)
          rintro e w5 ⟨gl, capl, rfl, hown, hb5⟩
          have HC2 := Lib.hid (HC.out w5 hb5)
          have hM5 := Lib.hid (hM.out.below hb5)
          clear HS2 HC hb5 hM
          go_wp2_with fail
          (with_reducible refine HC2.out.mono ?_)
          rintro e w6 ⟨rfl, hb6⟩
          have hM6 := Lib.hid (hM5.out.below hb6)
          have hO6 := Lib.hid (hown.kept hb6)
          clear HC2 hb6 hM5 hown
          obtain ⟨A, capr, rfl⟩ := hM6.out.val
          go_wp2_with fail
          go_loopw [14] (fun i wr => ∃ k : Nat, k ≤ R.length ∧ i = nv k ∧ Hid (MemR w wr b v vs g W (.slice A R.length capr) bs R) ∧ Hid (Own wr wz (.slice (some ⟨gl, 0, none⟩) 5 capl) (zs out))) (fun i _ => R.length - (intOf i).toNat)
          case atStart => exact ⟨0, Nat.zero_le _, rfl, hM6, hO6⟩
          case round =>
            clear hM6 hO6
            obtain ⟨k, hk, rfl, hM, hO⟩ := hrel
            by_cases hkR : k < R.length
            · have ik : (k : Int) < (R.length : Int) := by omega
              obtain ⟨q, cq, he, hq⟩ := hM.out.row hkR
              cases he
              obtain ⟨r1, r2, r3⟩ := hM.out.rc k hkR
              have HLW := Lib.hid (HLAW.out k hkR)
              generalize R.getD k r0 = p at *
              generalize bs.getD k 0 = u at *
              obtain ⟨t, i, n⟩ := p
              rw [show sl3 u = .slice (some ⟨u, 0, none⟩) 3 3 from rfl] at hq
              simp only at r1 r2 r3 HLW
              obtain ⟨ht5, hi4, hlaw⟩ := HLW.out
              have hB1 := Lib.hid fun (w5 : World) => bit_calls cm t w5 (by have := HCM.out; omega) (by omega)
              cases hct : cm.testBit t with
              | false =>
                rw [hct] at hB1
                go_wp2_with (go_at_call 29; (with_reducible refine (hB1.out _).mono ?_); rintro e w' ⟨rfl, rfl⟩)
                go_roundw
                case rel => exact ⟨k + 1, by omega, by go_num, hM, hO⟩
                case measure => simp [intOf]; omega
              | true =>
                rw [hct] at hB1
                obtain ⟨qq, hqq, hqt, hqn⟩ := H5.out.at_ t ht5
                have HEQ := Lib.hid (hlaw hct qq hqq hqt)
                have HQ := Lib.hid (And.intro hqt hqn)
                obtain ⟨F, hF⟩ : ∃ F : Nat → Bool, F = fun x => cm.testBit x && (W.getD x 0).testBit i := ⟨_, rfl⟩
                rw [← hF] at HEQ
                have HF := Lib.hid hF
                clear hF hlaw HLW hct hqt hqn
                go_wp2_with (go_at_call 29; (with_reducible refine (hB1.out _).mono ?_); rintro e w' ⟨rfl, rfl⟩)
                clear hB1
                go_loopw [15, 16] (fun lv pv wr => ∃ pp : Nat, pp ≤ qq ∧ lv = iv (Vw.lastTo F out pp) ∧ pv = nv pp ∧ Hid (MemR w wr b v vs g W (.slice (some ⟨q, 0, none⟩) R.length capr) bs R ∧ wr.cell? ⟨q, k, none⟩ = some (.slice (some ⟨u, 0, none⟩) 3 3) ∧ wr.cell? ⟨u, 0, none⟩ = some (nv t) ∧ wr.cell? ⟨u, 1, none⟩ = some (nv i) ∧ wr.cell? ⟨u, 2, none⟩ = some (iv n)) ∧ Hid (Own wr wz (.slice (some ⟨gl, 0, none⟩) 5 capl) (zs out))) (fun _ pv _ => qq - (intOf pv).toNat)
                case atStart => exact ⟨0, Nat.zero_le _, rfl, rfl, Lib.hid ⟨hM.out, hq, r1, r2, r3⟩, hO⟩
                case round =>
                  clear hM hO hq r1 r2 r3
                  obtain ⟨pp, hpp, rfl, rfl, hMM, hO⟩ := hrel
                  obtain ⟨hM, hq, r1, r2, r3⟩ := hMM.out
                  have hM' := Lib.hid hM
                  clear hM
                  have ip : (pp : Int) < 5 := by omega
                  have c1 := own_cellc hO.out H5.out.len (k := pp) (by omega)
                  by_cases hpq : pp < qq
                  · have hx5 := H5.out.lt pp
                    have hne := HQ.out.2 pp hpq
                    have HST := Lib.hid (show Vw.lastTo F out (pp + 1) = if F (out.getD pp 0) = true then ((out.getD pp 0 : Nat) : Int) else Vw.lastTo F out pp from rfl)
                    generalize out.getD pp 0 = x at *
                    have n1 : ((x : Int) != (t : Int)) = true := by simp; omega
                    have i5 : decide ((x : Int) < 0) = false := by simp
                    have i6 : decide ((4 : Int) < (x : Int)) = false := by simp; omega
                    have ix5 : (x : Int) < 5 := by omega
                    obtain ⟨c2, -⟩ := own_cell hM'.out.o1 HVW.out.1 hx5
                    have l2 := HVW.out.2 x hx5
                    have hB2 := Lib.hid fun (w5 : World) => (bit_calls cm x w5 (by have := HCM.out; omega) (by omega)).mono (R' := fun e w' => e = .returned (.bool (cm.testBit x)) ∧ w' = w5) fun _ _ ⟨a, b⟩ => ⟨a, b.symm⟩
                    have hB3 := Lib.hid fun (w5 : World) => (bit_calls (W.getD x 0) i w5 (by omega) (by omega)).mono (R' := fun e w' => e = .returned (.bool ((W.getD x 0).testBit i)) ∧ w' = w5) fun _ _ ⟨a, b⟩ => ⟨a, b.symm⟩
                    have HFX := Lib.hid (show F x = (cm.testBit x && (W.getD x 0).testBit i) by rw [HF.out])
                    generalize W.getD x 0 = wx at *
                    clear hne
                    go_wp2_with fail
                    go_quiet (fail)
                    go_wp2_with fail
                    have K : MemR w (wr.drewN nq) b v vs g W (.slice (some ⟨q, 0, none⟩) R.length capr) bs R ∧ Own (wr.drewN nq) wz (.slice (some ⟨gl, 0, none⟩) 5 capl) (zs out) ∧ (wr.drewN nq).cell? ⟨q, k, none⟩ = some (.slice (some ⟨u, 0, none⟩) 3 3) ∧ (wr.drewN nq).cell? ⟨u, 0, none⟩ = some (nv t) ∧ (wr.drewN nq).cell? ⟨u, 1, none⟩ = some (nv i) ∧ (wr.drewN nq).cell? ⟨u, 2, none⟩ = some (iv n) ∧ (wr.drewN nq).cell? ⟨gl, pp, none⟩ = some (nv x) ∧ (wr.drewN nq).cell? ⟨g, x, none⟩ = some (nv wx) := ⟨hM'.out.drewN nq, hO.out, hq, r1, r2, r3, c1, c2⟩
                    clear hM' hO hMM hq r1 r2 r3 c1 c2
                    generalize wr.drewN nq = w7 at *
                    obtain ⟨hM7, hO7, hq, r1, r2, r3, c1, c2⟩ := K
                    have hM' := Lib.hid hM7
                    have hO := Lib.hid hO7
                    clear hM7 hO7
                    cases hb2 : cm.testBit x with
                    | false =>
                      rw [hb2] at hB2 HFX
                      have HSN := Lib.hid (show Vw.lastTo F out (pp + 1) = Vw.lastTo F out pp by rw [HST.out, HFX.out]; rfl)
                      clear hb2 HST HFX
                      refine wp_region_still_tail 21 (by kernel_rfl) (by kernel_rfl) ?_
                      simp only [List.take_succ_cons, List.take_zero, List.drop_succ_cons, List.drop_zero]
                      repeat ((with_reducible refine wpStill_step (fun K hK => ?_)); go_simp; (first | refine hK _ ?_ | (with_reducible refine ⟨_, hB2.out _, hK _ ?_⟩)); clear hK K)
                      (with_reducible refine wpStill_nil ?_)
                      go_wp2_with fail
                      go_roundw
                      case rel => exact ⟨pp + 1, by omega, by rw [HSN.out], by go_num, Lib.hid ⟨hM'.out.drew, cell_drew hq, cell_drew r1, cell_drew r2, cell_drew r3⟩, Lib.hid hO.out.drew⟩
                      case measure => simp [intOf]; omega
                    | true =>
                      rw [hb2] at hB2 HFX
                      cases hb3 : wx.testBit i with
                      | false =>
                        rw [hb3] at hB3 HFX
                        have HSN := Lib.hid (show Vw.lastTo F out (pp + 1) = Vw.lastTo F out pp by rw [HST.out, HFX.out]; rfl)
                        clear hb2 hb3 HST HFX
                        refine wp_region_still_tail 21 (by kernel_rfl) (by kernel_rfl) ?_
                        simp only [List.take_succ_cons, List.take_zero, List.drop_succ_cons, List.drop_zero]
                        repeat ((with_reducible refine wpStill_step (fun K hK => ?_)); go_simp; (first | refine hK _ ?_ | (with_reducible refine ⟨_, hB2.out _, hK _ ?_⟩) | (with_reducible refine ⟨_, hB3.out _, hK _ ?_⟩)); clear hK K)
                        (with_reducible refine wpStill_nil ?_)
                        go_wp2_with fail
                        go_roundw
                        case rel => exact ⟨pp + 1, by omega, by rw [HSN.out], by go_num, Lib.hid ⟨hM'.out.drew, cell_drew hq, cell_drew r1, cell_drew r2, cell_drew r3⟩, Lib.hid hO.out.drew⟩
                        case measure => simp [intOf]; omega
                      | true =>
                        rw [hb3] at hB3 HFX
                        have HSN := Lib.hid (show Vw.lastTo F out (pp + 1) = (x : Int) by rw [HST.out, HFX.out]; rfl)
                        clear hb2 hb3 HST HFX
                        refine wp_region_still_tail 21 (by kernel_rfl) (by kernel_rfl) ?_
                        simp only [List.take_succ_cons, List.take_zero, List.drop_succ_cons, List.drop_zero]
                        repeat ((with_reducible refine wpStill_step (fun K hK => ?_)); go_simp; (first | refine hK _ ?_ | (with_reducible refine ⟨_, hB2.out _, hK _ ?_⟩) | (with_reducible refine ⟨_, hB3.out _, hK _ ?_⟩)); clear hK K)
                        (with_reducible refine wpStill_nil ?_)
                        go_wp2_with fail
                        go_roundw
                        case rel => exact ⟨pp + 1, by omega, by rw [HSN.out], by go_num, Lib.hid ⟨hM'.out.drew, cell_drew hq, cell_drew r1, cell_drew r2, cell_drew r3⟩, Lib.hid hO.out.drew⟩
                        case measure => simp [intOf]; omega
                  · obtain rfl : pp = qq := by omega
                    rw [HQ.out.1] at c1
                    rw [HEQ.out]
                    have n1 : ((t : Int) != (t : Int)) = false := by simp
                    have n2 : (n != n) = false := by simp
                    go_wp2_with fail
                    go_quiet (fail)
                    go_wp2_with fail
                    go_roundw
                    case rel => exact ⟨k + 1, by omega, by go_num, Lib.hid (hM'.out.drewN nq), Lib.hid (own_drewN hO.out nq)⟩
                    case measure => simp [intOf]; omega
            · obtain rfl : k = R.length := by omega
              go_wp2_with fail
              go_ret
              exact ⟨rfl, hM.out.bw⟩
        · have t3 : decide ((k : Int) < 60) = false := by simp; omega
          clear hend hk hk2
          go_wp2_with fail
          (with_reducible refine HS2.out.mono ?_)
          rintro e w5 ⟨gl, capl, rfl, hown, hb5⟩
          have HC2 := Lib.hid (HC.out w5 hb5)
          have hM5 := Lib.hid (hM.out.below hb5)
          clear HS2 HC hb5 hM
          go_wp2_with fail
          (with_reducible refine HC2.out.mono ?_)
          rintro e w6 ⟨rfl, hb6⟩
          have hM6 := Lib.hid (hM5.out.below hb6)
          have hO6 := Lib.hid (hown.kept hb6)
          clear HC2 hb6 hM5 hown
          obtain ⟨A, capr, rfl⟩ := hM6.out.val
          go_wp2_with fail
          go_loopw [14] (fun i wr => ∃ k : Nat, k ≤ R.length ∧ i = nv k ∧ Hid (MemR w wr b v vs g W (.slice A R.length capr) bs R) ∧ Hid (Own wr wz (.slice (some ⟨gl, 0, none⟩) 5 capl) (zs out))) (fun i _ => R.length - (intOf i).toNat)
          case atStart => exact ⟨0, Nat.zero_le _, rfl, hM6, hO6⟩
          case round =>
            clear hM6 hO6
            obtain ⟨k, hk, rfl, hM, hO⟩ := hrel
            by_cases hkR : k < R.length
            · have ik : (k : Int) < (R.length : Int) := by omega
              obtain ⟨q, cq, he, hq⟩ := hM.out.row hkR
              cases he
              obtain ⟨r1, r2, r3⟩ := hM.out.rc k hkR
              have HLW := Lib.hid (HLAW.out k hkR)
              generalize R.getD k r0 = p at *
              generalize bs.getD k 0 = u at *
              obtain ⟨t, i, n⟩ := p
              rw [show sl3 u = .slice (some ⟨u, 0, none⟩) 3 3 from rfl] at hq
              simp only at r1 r2 r3 HLW
              obtain ⟨ht5, hi4, hlaw⟩ := HLW.out
              have hB1 := Lib.hid fun (w5 : World) => bit_calls cm t w5 (by have := HCM.out; omega) (by omega)
              cases hct : cm.testBit t with
              | false =>
                rw [hct] at hB1
                go_wp2_with (go_at_call 29; (with_reducible refine (hB1.out _).mono ?_); rintro e w' ⟨rfl, rfl⟩)
                go_roundw
                case rel => exact ⟨k + 1, by omega, by go_num, hM, hO⟩
                case measure => simp [intOf]; omega
              | true =>
                rw [hct] at hB1
                obtain ⟨qq, hqq, hqt, hqn⟩ := H5.out.at_ t ht5
                have HEQ := Lib.hid (hlaw hct qq hqq hqt)
                have HQ := Lib.hid (And.intro hqt hqn)
                obtain ⟨F, hF⟩ : ∃ F : Nat → Bool, F = fun x => cm.testBit x && (W.getD x 0).testBit i := ⟨_, rfl⟩
                rw [← hF] at HEQ
                have HF := Lib.hid hF
                clear hF hlaw HLW hct hqt hqn
                go_wp2_with (go_at_call 29; (with_reducible refine (hB1.out _).mono ?_); rintro e w' ⟨rfl, rfl⟩)
                clear hB1
                go_loopw [15, 16] (fun lv pv wr => ∃ pp : Nat, pp ≤ qq ∧ lv = iv (Vw.lastTo F out pp) ∧ pv = nv pp ∧ Hid (MemR w wr b v vs g W (.slice (some ⟨q, 0, none⟩) R.length capr) bs R ∧ wr.cell? ⟨q, k, none⟩ = some (.slice (some ⟨u, 0, none⟩) 3 3) ∧ wr.cell? ⟨u, 0, none⟩ = some (nv t) ∧ wr.cell? ⟨u, 1, none⟩ = some (nv i) ∧ wr.cell? ⟨u, 2, none⟩ = some (iv n)) ∧ Hid (Own wr wz (.slice (some ⟨gl, 0, none⟩) 5 capl) (zs out))) (fun _ pv _ => qq - (intOf pv).toNat)
                case atStart => exact ⟨0, Nat.zero_le _, rfl, rfl, Lib.hid ⟨hM.out, hq, r1, r2, r3⟩, hO⟩
                case round =>
                  clear hM hO hq r1 r2 r3
                  obtain ⟨pp, hpp, rfl, rfl, hMM, hO⟩ := hrel
                  obtain ⟨hM, hq, r1, r2, r3⟩ := hMM.out
                  have hM' := Lib.hid hM
                  clear hM
                  have ip : (pp : Int) < 5 := by omega
                  have c1 := own_cellc hO.out H5.out.len (k := pp) (by omega)
                  by_cases hpq : pp < qq
                  · have hx5 := H5.out.lt pp
                    have hne := HQ.out.2 pp hpq
                    have HST := Lib.hid (show Vw.lastTo F out (pp + 1) = if F (out.getD pp 0) = true then ((out.getD pp 0 : Nat) : Int) else Vw.lastTo F out pp from rfl)
                    generalize out.getD pp 0 = x at *
                    have n1 : ((x : Int) != (t : Int)) = true := by simp; omega
                    have i5 : decide ((x : Int) < 0) = false := by simp
                    have i6 : decide ((4 : Int) < (x : Int)) = false := by simp; omega
                    have ix5 : (x : Int) < 5 := by omega
                    obtain ⟨c2, -⟩ := own_cell hM'.out.o1 HVW.out.1 hx5
                    have l2 := HVW.out.2 x hx5
                    have hB2 := Lib.hid fun (w5 : World) => (bit_calls cm x w5 (by have := HCM.out; omega) (by omega)).mono (R' := fun e w' => e = .returned (.bool (cm.testBit x)) ∧ w' = w5) fun _ _ ⟨a, b⟩ => ⟨a, b.symm⟩
                    have hB3 := Lib.hid fun (w5 : World) => (bit_calls (W.getD x 0) i w5 (by omega) (by omega)).mono (R' := fun e w' => e = .returned (.bool ((W.getD x 0).testBit i)) ∧ w' = w5) fun _ _ ⟨a, b⟩ => ⟨a, b.symm⟩
                    have HFX := Lib.hid (show F x = (cm.testBit x && (W.getD x 0).testBit i) by rw [HF.out])
                    generalize W.getD x 0 = wx at *
                    clear hne
                    go_wp2_with fail
                    go_quiet (fail)
                    go_wp2_with fail
                    have K : MemR w (wr.drewN nq) b v vs g W (.slice (some ⟨q, 0, none⟩) R.length capr) bs R ∧ Own (wr.drewN nq) wz (.slice (some ⟨gl, 0, none⟩) 5 capl) (zs out) ∧ (wr.drewN nq).cell? ⟨q, k, none⟩ = some (.slice (some ⟨u, 0, none⟩) 3 3) ∧ (wr.drewN nq).cell? ⟨u, 0, none⟩ = some (nv t) ∧ (wr.drewN nq).cell? ⟨u, 1, none⟩ = some (nv i) ∧ (wr.drewN nq).cell? ⟨u, 2, none⟩ = some (iv n) ∧ (wr.drewN nq).cell? ⟨gl, pp, none⟩ = some (nv x) ∧ (wr.drewN nq).cell? ⟨g, x, none⟩ = some (nv wx) := ⟨hM'.out.drewN nq, hO.out, hq, r1, r2, r3, c1, c2⟩
                    clear hM' hO hMM hq r1 r2 r3 c1 c2
                    generalize wr.drewN nq = w7 at *
                    obtain ⟨hM7, hO7, hq, r1, r2, r3, c1, c2⟩ := K
                    have hM' := Lib.hid hM7
                    have hO := Lib.hid hO7
                    clear hM7 hO7
                    cases hb2 : cm.testBit x with
                    | false =>
                      rw [hb2] at hB2 HFX
                      have HSN := Lib.hid (show Vw.lastTo F out (pp + 1) = Vw.lastTo F out pp by rw [HST.out, HFX.out]; rfl)
                      clear hb2 HST HFX
                      refine wp_region_still_tail 21 (by kernel_rfl) (by kernel_rfl) ?_
                      simp only [List.take_succ_cons, List.take_zero, List.drop_succ_cons, List.drop_zero]
                      repeat ((with_reducible refine wpStill_step (fun K hK => ?_)); go_simp; (first | refine hK _ ?_ | (with_reducible refine ⟨_, hB2.out _, hK _ ?_⟩)); clear hK K)
                      (with_reducible refine wpStill_nil ?_)
                      go_wp2_with fail
                      go_roundw
                      case rel => exact ⟨pp + 1, by omega, by rw [HSN.out], by go_num, Lib.hid ⟨hM'.out.drew, cell_drew hq, cell_drew r1, cell_drew r2, cell_drew r3⟩, Lib.hid hO.out.drew⟩
                      case measure => simp [intOf]; omega
                    | true =>
                      rw [hb2] at hB2 HFX
                      cases hb3 : wx.testBit i with
                      | false =>
                        rw [hb3] at hB3 HFX
                        have HSN := Lib.hid (show Vw.lastTo F out (pp + 1) = Vw.lastTo F out pp by rw [HST.out, HFX.out]; rfl)
                        clear hb2 hb3 HST HFX
                        refine wp_region_still_tail 21 (by kernel_rfl) (by kernel_rfl) ?_
                        simp only [List.take_succ_cons, List.take_zero, List.drop_succ_cons, List.drop_zero]
                        repeat ((with_reducible refine wpStill_step (fun K hK => ?_)); go_simp; (first | refine hK _ ?_ | (with_reducible refine ⟨_, hB2.out _, hK _ ?_⟩) | (with_reducible refine ⟨_, hB3.out _, hK _ ?_⟩)); clear hK K)
                        (with_reducible refine wpStill_nil ?_)
                        go_wp2_with fail
                        go_roundw
                        case rel => exact ⟨pp + 1, by omega, by rw [HSN.out], by go_num, Lib.hid ⟨hM'.out.drew, cell_drew hq, cell_drew r1, cell_drew r2, cell_drew r3⟩, Lib.hid hO.out.drew⟩
                        case measure => simp [intOf]; omega
                      | true =>
                        rw [hb3] at hB3 HFX
                        have HSN := Lib.hid (show Vw.lastTo F out (pp + 1) = (x : Int) by rw [HST.out, HFX.out]; rfl)
                        clear hb2 hb3 HST HFX
                        refine wp_region_still_tail 21 (by kernel_rfl) (by kernel_rfl) ?_
                        simp only [List.take_succ_cons, List.take_zero, List.drop_succ_cons, List.drop_zero]
                        repeat ((with_reducible refine wpStill_step (fun K hK => ?_)); go_simp; (first | refine hK _ ?_ | (with_reducible refine ⟨_, hB2.out _, hK _ ?_⟩) | (with_reducible refine ⟨_, hB3.out _, hK _ ?_⟩)); clear hK K)
                        (with_reducible refine wpStill_nil ?_)
                        go_wp2_with fail
                        go_roundw
                        case rel => exact ⟨pp + 1, by omega, by rw [HSN.out], by go_num, Lib.hid ⟨hM'.out.drew, cell_drew hq, cell_drew r1, cell_drew r2, cell_drew r3⟩, Lib.hid hO.out.drew⟩
                        case measure => simp [intOf]; omega
                  · obtain rfl : pp = qq := by omega
                    rw [HQ.out.1] at c1
                    rw [HEQ.out]
                    have n1 : ((t : Int) != (t : Int)) = false := by simp
                    have n2 : (n != n) = false := by simp
                    go_wp2_with fail
                    go_quiet (fail)
                    go_wp2_with fail
                    go_roundw
                    case rel => exact ⟨k + 1, by omega, by go_num, Lib.hid (hM'.out.drewN nq), Lib.hid (own_drewN hO.out nq)⟩
                    case measure => simp [intOf]; omega
            · obtain rfl : k = R.length := by omega
              go_wp2_with fail
              go_ret
              exact ⟨rfl, hM.out.bw⟩
/-- the law at every input -/
theorem vrow_calls (v : Value) (recs : List (List Int)) (w : World) (hr : Rd w w.heap.size 4 v recs.length (recs.flatMap fun r => r.map iv)) (hl : ∀ r ∈ recs, r.length = 4) (hT : Tab w) :
    Calls Tryd.prog 6 #[v] w fun e w' => e = .returned (.bool true) ∧ Below w.heap.size w w' := by
  obtain ⟨s, hs⟩ := vdeeds_of_recs hr hl
  exact vrow_ok s v w hs hT
end Go.Proofs.YtkindaadadggoaaDoor
