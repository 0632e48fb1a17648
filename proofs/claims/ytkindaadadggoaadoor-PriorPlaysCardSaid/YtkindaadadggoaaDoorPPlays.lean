/- The walk of the statement PriorPlays: at every input it returns true. Conditions: none beyond the handle's. -/
import Derived.Test.YtkindaadadggoaaDoorRPassX
import Derived.Deep.RegionHeld3
import Derived.Handy
namespace Go.Proofs.YtkindaadadggoaaDoor
open Go.RowKit

theorem perrorv (c : Nat) (w : World) (hg : ErrTy w) : Calls Tryd.prog 20 #[errv c, nv c] w fun e w' => e = .returned (.bool true) ∧ Below w.heap.size w w' := by
  have h := error_calls c (c : Int) w hg
  rw [decide_eq_true rfl] at h
  exact h

/-- the reference's step, its own writes behind it -/
theorem PM.pass2 {w w' : World} {b q : Nat} {sk : Bool} {g g' d : Gt.G} {vg v2 v2' : Value} (h : PM w b q sk g vg d v2) (hb : Below w.heap.size w w') (hres : (v2' = v2 ∧ g'.acts = d.acts) ∨ OwnA w' w.heap.size v2' (Sch.zacts g'.acts)) :
    PM (((w'.setCell ⟨q, 0, none⟩ (.bool sk)).setCell ⟨q, 1, none⟩ (nv g'.dead)).setCell ⟨q, 2, none⟩ v2') b q sk g vg g' v2' := by
  have h1 := h.below hb
  have ho : Only (fun k => k = q) w' (((w'.setCell ⟨q, 0, none⟩ (.bool sk)).setCell ⟨q, 1, none⟩ (nv g'.dead)).setCell ⟨q, 2, none⟩ v2') :=
    (((Only.refl (fun k => k = q) w').setCell (p := ⟨q, 0, none⟩) (.inl rfl) _).setCell (p := ⟨q, 1, none⟩) (.inl rfl) _).setCell (p := ⟨q, 2, none⟩) (.inl rfl) _
  have hq := h1.lq
  have hqw := h.lq
  have k0 := h1.c0
  have k1 := h1.c1
  have k2 := h1.c2
  have l0 := h1.f0
  have l1 := h1.f1
  have l2 := h1.f2
  refine ⟨h1.gate.only ho (fun k hk => (h.sep k hk).1), Nat.lt_of_lt_of_le hq ho.size, ?_, ?_, ?_, ?_, ?_, ?_, ?_, fun k hk => ⟨(h.sep k hk).1, ?_⟩⟩
  · simp [go_sem, k0]
  · simp [go_sem, k1]
  · simp [go_sem, k2]
  · simp [go_sem, l0]
  · simp [go_sem, l1]
  · simp [go_sem, l2]
  · rcases hres with ⟨rfl, he⟩ | hown
    · rw [he]
      exact h1.own.only ho (fun k hk hs => by have := (row_lt h1.own k hk).1; have hs' : k = q := hs; omega)
    · exact (hown.only ho (fun k hk hs => by have := (row_lt hown k hk).1; have hs' : k = q := hs; omega)).down (by omega)
  · rcases hres with ⟨rfl, he⟩ | hown
    · exact (h.sep k hk).2
    · intro e
      have := (row_lt hown k e).1
      have := (h.gate.foot k hk).2
      omega
theorem rpass_s (sk : Bool) (g : Gt.G) (a : Act3) (A : Option Addr) (c : Nat) (w : World) (hr : Acts w w.heap.size (.slice A g.acts.length c) (Sch.zacts g.acts)) (hI : Gt.Inv g) :
    Calls Tryd.prog 19 #[.agg #[.bool sk, nv g.dead, .slice A g.acts.length c], .agg #[iv a.1, iv a.2.1, iv a.2.2]] w fun e w' =>
      ∃ A' n' c', e = .returned (.tuple #[.agg #[.bool sk, nv (passI sk g a).1.dead, .slice A' n' c'], .bool (passI sk g a).2.1, nv (passI sk g a).2.2]) ∧
        ((Value.slice A' n' c' = .slice A g.acts.length c ∧ (passI sk g a).1.acts = g.acts) ∨ OwnA w' w.heap.size (.slice A' n' c') (Sch.zacts (passI sk g a).1.acts)) ∧ Below w.heap.size w w' := by
  refine (rpass_calls sk g a A c w hr hI).mono ?_
  rintro e w' ⟨v', h1, ⟨rfl, h2⟩ | h2, h3⟩
  · exact ⟨_, _, _, h1, .inl ⟨rfl, h2⟩, h3⟩
  · obtain ⟨A', c', rfl⟩ := Rd.val h2.acts
    exact ⟨_, _, _, h1, .inr h2, h3⟩
set_option maxRecDepth 20000 in
set_option maxHeartbeats 8000000 in
theorem pplays_ok (sk : Bool) (s : List Act3) (v : Value) (w : World) (hr : Acts w w.heap.size v s) (hE : ErrTy w) :
    Calls Tryd.prog 4 #[.bool sk, v] w fun e w' => e = .returned (.bool true) ∧ Below w.heap.size w w' := by
  have HR := Lib.hid hr
  have HE := Lib.hid hE
  obtain ⟨A, cap, rfl⟩ := Rd.val hr
  have hn := Lib.hid (gnew_calls sk w)
  clear hr hE
  go_enter Tryd.func4, Tryd.ntmps4
  go_wp2_with fail
  (with_reducible refine hn.out.mono ?_)
  rintro e w2 ⟨rfl, hg2, hb2, hs2⟩
  have hga0 := Lib.hid hg2
  have HQ := Lib.hid (show w.heap.size ≤ w2.heap.size by omega)
  have HM0 := Lib.hid (show PM (w2.alloc (.cells #[.bool sk, .int .i64 0, .slice none 0 0] 36)) w.heap.size w2.heap.size sk Gt.g0 (.slice none 0 0) Gt.g0 (.slice none 0 0) from
    ⟨hg2.alloc _, by simp, by rw [World.cell?_alloc_new]; rfl, by rw [World.cell?_alloc_new]; rfl, by rw [World.cell?_alloc_new]; rfl, World.frozen?_alloc_new .., World.frozen?_alloc_new .., World.frozen?_alloc_new .., OwnA.nil _ _, fun k hk => ⟨by have := (hg2.foot k hk).2; omega, by simp [Value.ownBlock]⟩⟩)
  have HB0 := Lib.hid (hb2.alloc hb2.size (.cells #[.bool sk, .int .i64 0, .slice none 0 0] 36))
  clear hn hb2 hs2 hg2 hga0
  go_wp2_with fail
  go_loopw [7] (fun i wr => ∃ (k : Nat) (g : Gt.G) (vg v2 : Value), k ≤ s.length ∧ i = nv k ∧ Hid (Gt.Inv g) ∧ Hid (PM wr w.heap.size w2.heap.size sk g vg g v2) ∧ Hid (Below w.heap.size w wr)) (fun i _ => s.length - (intOf i).toNat)
  case atStart => exact ⟨0, Gt.g0, _, _, Nat.zero_le _, rfl, Lib.hid Gt.inv0, HM0, HB0⟩
  case round =>
    clear HM0 HB0
    obtain ⟨k, g, vg, v2, hk, rfl, hinv, hm, hb⟩ := hrel
    have hsz := hb.out.size
    by_cases hkl : k < s.length ∧ k < 60
    · obtain ⟨hk1, hk2⟩ := hkl
      obtain ⟨A2, cp2, he2⟩ := Rd.val hm.out.own.acts
      rw [Sch.length_zacts] at he2
      subst he2
      obtain ⟨b1, off, cap', he, _, _, hbb, d0, d1, d2⟩ := Acts.at_ (Rd.below HR.out hb.out) hk1
      cases he
      generalize hsk : s[k] = a at *
      have HSK := Lib.hid hsk
      clear hsk
      have hp := Lib.hid fun (w5 : World) (h5 : Below wr.heap.size wr w5) => rpass_s sk g a A2 cp2 w5 (hm.out.below h5).own.acts hinv.out
      have hI := Lib.hid (Gt.Inv.passI (skips := sk) hinv.out a)
      have hac := Lib.hid hI.out.2.2.2.2.2.1
      have hdo := Lib.hid fun (w5 : World) (vg' : Value) (h5 : GateAt w5 w.heap.size sk g vg') => gdo_calls sk g a w.heap.size vg' w5 h5 hinv.out
      obtain ⟨x, y, z⟩ := a
      simp only at d0 d1 d2 hp hdo
      generalize (passI sk g (x, y, z)).2.1 = did at *
      generalize (passI sk g (x, y, z)).2.2 = c at *
      generalize (passI sk g (x, y, z)).1 = g' at *
      obtain ⟨_, hq, c0, c1, c2, f0, f1, f2, _, _⟩ := hm.out
      have hbw : b1 < wr.heap.size := by omega
      have HBX := Lib.hid hb.out
      have HM := Lib.hid hm.out
      have HSZ := Lib.hid hsz
      clear hm hb
      generalize w2.heap.size = q at *
      go_wp2_with fail
      go_region_held3 (fun w' => w'.cell? ⟨q, 0, none⟩ = some (.bool sk) ∧ w'.cell? ⟨q, 1, none⟩ = some (nv g.dead) ∧ w'.cell? ⟨q, 2, none⟩ = some (.slice A2 g.acts.length cp2) ∧ w'.cell? ⟨b1, off + k * 3, none⟩ = some (.int .i64 x) ∧ w'.cell? ⟨b1, off + k * 3 + 1, none⟩ = some (.int .i64 y) ∧ w'.cell? ⟨b1, off + k * 3 + 2, none⟩ = some (.int .i64 z) ∧ Below wr.heap.size wr w')
        (first | exact ⟨c0, c1, c2, d0, d1, d2, (Below.refl _ _).drew⟩ | (refine ⟨(Below.cell (w := wr) (B := wr.heap.size) ?_ hq).trans c0, (Below.cell (w := wr) (B := wr.heap.size) ?_ hq).trans c1, (Below.cell (w := wr) (B := wr.heap.size) ?_ hq).trans c2, (Below.cell (w := wr) (B := wr.heap.size) ?_ hbw).trans d0, (Below.cell (w := wr) (B := wr.heap.size) ?_ hbw).trans d1, (Below.cell (w := wr) (B := wr.heap.size) ?_ hbw).trans d2, ?_⟩ <;> go_grown))
        (first | (go_at_call 19; refine (hp.out wr.drew (Below.refl _ _).drew).mono ?_; rintro e w1 ⟨A3, n3, cp3, rfl, hres, hbl⟩; have hbz : Below wr.heap.size wr w1 := (Below.refl _ _).drew.trans hbl; have hsz1 : wr.heap.size ≤ w1.heap.size := hbz.size) | (go_at_call 19; refine (hp.out (wr.drew.alloc (.cells #[.bool false, .int .i64 0, .slice none 0 0] 36)) ((Below.refl _ _).drew.alloc (Nat.le_refl _) _)).mono ?_; rintro e w1 ⟨A3, n3, cp3, rfl, hres, hbl⟩; have hbz : Below wr.heap.size wr w1 := ((Below.refl wr.heap.size wr).drew.alloc (Nat.le_refl _) _).trans (hbl.mono (by simp)); have hsz1 : wr.heap.size ≤ w1.heap.size := hbz.size; have y0 : w1.cell? ⟨wr.heap.size, 0, none⟩ = some (.bool false) := (hbl.cell (p := ⟨wr.heap.size, 0, none⟩) (by simp)).trans (by rw [show wr.heap.size = wr.drew.heap.size from rfl, World.cell?_alloc_new]; rfl); have z0 : w1.frozen? ⟨wr.heap.size, 0, none⟩ = false := (World.frozen?_of_block (hbl.block wr.heap.size (by simp))).trans (World.frozen?_alloc_new ..); have y1 : w1.cell? ⟨wr.heap.size, 1, none⟩ = some (.int .i64 0) := (hbl.cell (p := ⟨wr.heap.size, 1, none⟩) (by simp)).trans (by rw [show wr.heap.size = wr.drew.heap.size from rfl, World.cell?_alloc_new]; rfl); have z1 : w1.frozen? ⟨wr.heap.size, 1, none⟩ = false := (World.frozen?_of_block (hbl.block wr.heap.size (by simp))).trans (World.frozen?_alloc_new ..); have y2 : w1.cell? ⟨wr.heap.size, 2, none⟩ = some (.slice none 0 0) := (hbl.cell (p := ⟨wr.heap.size, 2, none⟩) (by simp)).trans (by rw [show wr.heap.size = wr.drew.heap.size from rfl, World.cell?_alloc_new]; rfl); have z2 : w1.frozen? ⟨wr.heap.size, 2, none⟩ = false := (World.frozen?_of_block (hbl.block wr.heap.size (by simp))).trans (World.frozen?_alloc_new ..); have hY := Lib.hid hbl))
      · have hbW := hbz.alloc hsz1 (.cells #[.bool sk, .int .i64 (g'.dead : Int), .slice A3 n3 cp3] 36)
        have hrW : (Value.slice A3 n3 cp3 = .slice A2 g.acts.length cp2 ∧ g'.acts = g.acts) ∨ OwnA (w1.alloc (.cells #[.bool sk, .int .i64 (g'.dead : Int), .slice A3 n3 cp3] 36)) wr.heap.size (.slice A3 n3 cp3) (Sch.zacts g'.acts) := hres.imp id (fun h => OwnA.alloc h _)
        have y0 : (w1.alloc (.cells #[.bool sk, .int .i64 (g'.dead : Int), .slice A3 n3 cp3] 36)).cell? ⟨w1.heap.size, 0, none⟩ = some (.bool sk) := by rw [World.cell?_alloc_new]; rfl
        have y1 : (w1.alloc (.cells #[.bool sk, .int .i64 (g'.dead : Int), .slice A3 n3 cp3] 36)).cell? ⟨w1.heap.size, 1, none⟩ = some (nv g'.dead) := by rw [World.cell?_alloc_new]; rfl
        have y2 : (w1.alloc (.cells #[.bool sk, .int .i64 (g'.dead : Int), .slice A3 n3 cp3] 36)).cell? ⟨w1.heap.size, 2, none⟩ = some (.slice A3 n3 cp3) := by rw [World.cell?_alloc_new]; rfl
        clear hres hbl hbz
        generalize w1.heap.size = yb at *
        generalize w1.alloc _ = WW at *
        have HM1 := Lib.hid (HM.out.below hbW)
        have HM7 := Lib.hid (HM.out.pass2 hbW hrW)
        have hb6 := Lib.hid (HBX.out.trans (hbW.mono HSZ.out))
        obtain ⟨_, _, c0, c1, c2, f0, f1, f2, _, _⟩ := HM1.out
        have hne : ∀ j j', (⟨q, j, none⟩ : Addr) ≠ ⟨b1, j', none⟩ := fun j j' e => by
          have h1 : q = b1 := congrArg Addr.block e
          have := HQ.out
          omega
        have e0 : (((WW.setCell ⟨q, 0, none⟩ (.bool sk)).setCell ⟨q, 1, none⟩ (.int .i64 (g'.dead : Int))).setCell ⟨q, 2, none⟩ (.slice A3 n3 cp3)).cell? ⟨b1, off + k * 3, none⟩ = some (.int .i64 x) := by rw [World.cell?_setCell_other (h := hne _ _), World.cell?_setCell_other (h := hne _ _), World.cell?_setCell_other (h := hne _ _)]; exact (hbW.cell hbw).trans d0
        have e1 : (((WW.setCell ⟨q, 0, none⟩ (.bool sk)).setCell ⟨q, 1, none⟩ (.int .i64 (g'.dead : Int))).setCell ⟨q, 2, none⟩ (.slice A3 n3 cp3)).cell? ⟨b1, off + k * 3 + 1, none⟩ = some (.int .i64 y) := by rw [World.cell?_setCell_other (h := hne _ _), World.cell?_setCell_other (h := hne _ _), World.cell?_setCell_other (h := hne _ _)]; exact (hbW.cell hbw).trans d1
        have e2 : (((WW.setCell ⟨q, 0, none⟩ (.bool sk)).setCell ⟨q, 1, none⟩ (.int .i64 (g'.dead : Int))).setCell ⟨q, 2, none⟩ (.slice A3 n3 cp3)).cell? ⟨b1, off + k * 3 + 2, none⟩ = some (.int .i64 z) := by rw [World.cell?_setCell_other (h := hne _ _), World.cell?_setCell_other (h := hne _ _), World.cell?_setCell_other (h := hne _ _)]; exact (hbW.cell hbw).trans d2
        have hb7 := Lib.hid (((hb6.out.setCell (p := ⟨q, 0, none⟩) HQ.out (.bool sk)).setCell (p := ⟨q, 1, none⟩) HQ.out (nv g'.dead)).setCell (p := ⟨q, 2, none⟩) HQ.out (.slice A3 n3 cp3))
        clear hne hbW hrW
        go_wp2_with fail
        (with_reducible refine (hdo.out _ _ HM7.out.gate).mono ?_)
        rintro e w8 ⟨rfl, ht⟩
        obtain ⟨vg', hm8⟩ := HM7.out.did ht
        have HM8 := Lib.hid hm8
        have HB8 := Lib.hid (ht.below hb7.out HM7.out.gate (Nat.le_refl _))
        have her := Lib.hid fun (w5 : World) (h5 : Below w8.heap.size w8 w5) => perrorv c w5 (HE.out.below (HB8.out.trans (h5.mono HB8.out.size)))
        have hga := Lib.hid fun (w5 : World) (h5 : Below w8.heap.size w8 w5) => gacts_calls sk g' w.heap.size vg' w5 (HM8.out.below h5).gate hac.out
        have heq := Lib.hid fun (v5 : Value) (w5 : World) (bb : Nat) (ho : OwnA w5 bb v5 (Sch.zacts g'.acts)) (h5 : Below w8.heap.size w8 w5) => acts_eq_calls v5 (.slice A3 n3 cp3) g'.acts g'.acts w5.heap.size w5 (Nat.le_refl _) ho.acts (HM8.out.below h5).own.acts
        simp only [decide_true] at heq
        have hgd := Lib.hid fun (w5 : World) (h5 : Below w8.heap.size w8 w5) => gdead_calls sk g' w.heap.size vg' w5 (HM8.out.below h5).gate
        clear ht hm8 HM7 hb7 hb6 HM1 hdo hp HM HBX HSZ e0 e1 e2 d0 d1 d2 c0 c1 c2 f0 f1 f2
        obtain ⟨_, hq8, _, c1, c2, _, _, _, _, _⟩ := HM8.out
        generalize errv c = ev at *
        go_wp2_with fail
        go_region_held3 (fun w' => w'.cell? ⟨q, 1, none⟩ = some (nv g'.dead) ∧ w'.cell? ⟨q, 2, none⟩ = some (.slice A3 n3 cp3) ∧ Below w8.heap.size w8 w')
          (first | exact ⟨c1, c2, (Below.refl _ _).drew⟩ | (refine ⟨(Below.cell (w := w8) (B := w8.heap.size) ?_ hq8).trans c1, (Below.cell (w := w8) (B := w8.heap.size) ?_ hq8).trans c2, ?_⟩ <;> go_grown))
          (first | (go_at_call 20; refine (her.out w8.drew (Below.refl _ _).drew).mono ?_; rintro e w9 ⟨rfl, hbl9⟩; have hb9 : Below w8.heap.size w8 w9 := (Below.refl _ _).drew.trans hbl9) | (go_at_call 18; refine (hga.out w9 hb9).mono ?_; rintro e w10 ⟨v5, rfl, ho5, hbl10⟩; have hb10 : Below w8.heap.size w8 w10 := hb9.trans (hbl10.mono hb9.size)) | (go_at_call 21; refine (heq.out v5 w10 _ ho5 hb10).mono ?_; rintro e w11 ⟨rfl, hbl11⟩; have hb11 : Below w8.heap.size w8 w11 := hb10.trans (hbl11.mono hb10.size)) | (go_at_call 22; refine (hgd.out w11 hb11).mono ?_; rintro e w12 ⟨rfl, rfl⟩))
        have HM11 := Lib.hid (HM8.out.below hb11)
        have HB11 := Lib.hid (HB8.out.trans (hb11.mono HB8.out.size))
        clear her hga heq hgd
        go_wp2_with fail
        go_roundw
        case rel => exact ⟨k + 1, g', vg', _, by omega, by go_num, hI, HM11, HB11⟩
        case measure => simp [intOf]; omega
      · have hbW : Below wr.heap.size wr (((w1.setCell ⟨wr.heap.size, 0, none⟩ (.bool sk)).setCell ⟨wr.heap.size, 1, none⟩ (.int .i64 (g'.dead : Int))).setCell ⟨wr.heap.size, 2, none⟩ (.slice A3 n3 cp3)) := ((hbz.setCell (p := ⟨wr.heap.size, 0, none⟩) (Nat.le_refl _) _).setCell (p := ⟨wr.heap.size, 1, none⟩) (Nat.le_refl _) _).setCell (p := ⟨wr.heap.size, 2, none⟩) (Nat.le_refl _) _
        have hrW : (Value.slice A3 n3 cp3 = .slice A2 g.acts.length cp2 ∧ g'.acts = g.acts) ∨ OwnA (((w1.setCell ⟨wr.heap.size, 0, none⟩ (.bool sk)).setCell ⟨wr.heap.size, 1, none⟩ (.int .i64 (g'.dead : Int))).setCell ⟨wr.heap.size, 2, none⟩ (.slice A3 n3 cp3)) wr.heap.size (.slice A3 n3 cp3) (Sch.zacts g'.acts) := hres.imp id (fun h => by
          have ho := (((Only.refl (fun k => k = wr.heap.size) w1).setCell (p := ⟨wr.heap.size, 0, none⟩) (.inl rfl) (.bool sk)).setCell (p := ⟨wr.heap.size, 1, none⟩) (.inl rfl) (.int .i64 (g'.dead : Int))).setCell (p := ⟨wr.heap.size, 2, none⟩) (.inl rfl) (.slice A3 n3 cp3)
          exact (h.only ho (fun k hk hs => by have := (row_lt h k hk).1; have hs' : k = wr.heap.size := hs; simp at this; omega)).down (by simp))
        have x0 : (((w1.setCell ⟨wr.heap.size, 0, none⟩ (.bool sk)).setCell ⟨wr.heap.size, 1, none⟩ (.int .i64 (g'.dead : Int))).setCell ⟨wr.heap.size, 2, none⟩ (.slice A3 n3 cp3)).cell? ⟨wr.heap.size, 0, none⟩ = some (.bool sk) := by simp [go_sem, y0]
        have x1 : (((w1.setCell ⟨wr.heap.size, 0, none⟩ (.bool sk)).setCell ⟨wr.heap.size, 1, none⟩ (.int .i64 (g'.dead : Int))).setCell ⟨wr.heap.size, 2, none⟩ (.slice A3 n3 cp3)).cell? ⟨wr.heap.size, 1, none⟩ = some (nv g'.dead) := by simp [go_sem, y1]
        have x2 : (((w1.setCell ⟨wr.heap.size, 0, none⟩ (.bool sk)).setCell ⟨wr.heap.size, 1, none⟩ (.int .i64 (g'.dead : Int))).setCell ⟨wr.heap.size, 2, none⟩ (.slice A3 n3 cp3)).cell? ⟨wr.heap.size, 2, none⟩ = some (.slice A3 n3 cp3) := by simp [go_sem, y2]
        clear hres hbl hbz y0 y1 y2 z0 z1 z2 hY
        generalize hWW : ((w1.setCell ⟨wr.heap.size, 0, none⟩ (.bool sk)).setCell ⟨wr.heap.size, 1, none⟩ (.int .i64 (g'.dead : Int))).setCell ⟨wr.heap.size, 2, none⟩ (.slice A3 n3 cp3) = WW at *
        clear hWW
        have HM1 := Lib.hid (HM.out.below hbW)
        have HM7 := Lib.hid (HM.out.pass2 hbW hrW)
        have hb6 := Lib.hid (HBX.out.trans (hbW.mono HSZ.out))
        obtain ⟨_, _, c0, c1, c2, f0, f1, f2, _, _⟩ := HM1.out
        have hne : ∀ j j', (⟨q, j, none⟩ : Addr) ≠ ⟨b1, j', none⟩ := fun j j' e => by
          have h1 : q = b1 := congrArg Addr.block e
          have := HQ.out
          omega
        have e0 : (((WW.setCell ⟨q, 0, none⟩ (.bool sk)).setCell ⟨q, 1, none⟩ (.int .i64 (g'.dead : Int))).setCell ⟨q, 2, none⟩ (.slice A3 n3 cp3)).cell? ⟨b1, off + k * 3, none⟩ = some (.int .i64 x) := by rw [World.cell?_setCell_other (h := hne _ _), World.cell?_setCell_other (h := hne _ _), World.cell?_setCell_other (h := hne _ _)]; exact (hbW.cell hbw).trans d0
        have e1 : (((WW.setCell ⟨q, 0, none⟩ (.bool sk)).setCell ⟨q, 1, none⟩ (.int .i64 (g'.dead : Int))).setCell ⟨q, 2, none⟩ (.slice A3 n3 cp3)).cell? ⟨b1, off + k * 3 + 1, none⟩ = some (.int .i64 y) := by rw [World.cell?_setCell_other (h := hne _ _), World.cell?_setCell_other (h := hne _ _), World.cell?_setCell_other (h := hne _ _)]; exact (hbW.cell hbw).trans d1
        have e2 : (((WW.setCell ⟨q, 0, none⟩ (.bool sk)).setCell ⟨q, 1, none⟩ (.int .i64 (g'.dead : Int))).setCell ⟨q, 2, none⟩ (.slice A3 n3 cp3)).cell? ⟨b1, off + k * 3 + 2, none⟩ = some (.int .i64 z) := by rw [World.cell?_setCell_other (h := hne _ _), World.cell?_setCell_other (h := hne _ _), World.cell?_setCell_other (h := hne _ _)]; exact (hbW.cell hbw).trans d2
        have hb7 := Lib.hid (((hb6.out.setCell (p := ⟨q, 0, none⟩) HQ.out (.bool sk)).setCell (p := ⟨q, 1, none⟩) HQ.out (nv g'.dead)).setCell (p := ⟨q, 2, none⟩) HQ.out (.slice A3 n3 cp3))
        clear hne hbW hrW
        go_wp2_with fail
        (with_reducible refine (hdo.out _ _ HM7.out.gate).mono ?_)
        rintro e w8 ⟨rfl, ht⟩
        obtain ⟨vg', hm8⟩ := HM7.out.did ht
        have HM8 := Lib.hid hm8
        have HB8 := Lib.hid (ht.below hb7.out HM7.out.gate (Nat.le_refl _))
        have her := Lib.hid fun (w5 : World) (h5 : Below w8.heap.size w8 w5) => perrorv c w5 (HE.out.below (HB8.out.trans (h5.mono HB8.out.size)))
        have hga := Lib.hid fun (w5 : World) (h5 : Below w8.heap.size w8 w5) => gacts_calls sk g' w.heap.size vg' w5 (HM8.out.below h5).gate hac.out
        have heq := Lib.hid fun (v5 : Value) (w5 : World) (bb : Nat) (ho : OwnA w5 bb v5 (Sch.zacts g'.acts)) (h5 : Below w8.heap.size w8 w5) => acts_eq_calls v5 (.slice A3 n3 cp3) g'.acts g'.acts w5.heap.size w5 (Nat.le_refl _) ho.acts (HM8.out.below h5).own.acts
        simp only [decide_true] at heq
        have hgd := Lib.hid fun (w5 : World) (h5 : Below w8.heap.size w8 w5) => gdead_calls sk g' w.heap.size vg' w5 (HM8.out.below h5).gate
        clear ht hm8 HM7 hb7 hb6 HM1 hdo hp HM HBX HSZ e0 e1 e2 d0 d1 d2 c0 c1 c2 f0 f1 f2
        obtain ⟨_, hq8, _, c1, c2, _, _, _, _, _⟩ := HM8.out
        generalize errv c = ev at *
        go_wp2_with fail
        go_region_held3 (fun w' => w'.cell? ⟨q, 1, none⟩ = some (nv g'.dead) ∧ w'.cell? ⟨q, 2, none⟩ = some (.slice A3 n3 cp3) ∧ Below w8.heap.size w8 w')
          (first | exact ⟨c1, c2, (Below.refl _ _).drew⟩ | (refine ⟨(Below.cell (w := w8) (B := w8.heap.size) ?_ hq8).trans c1, (Below.cell (w := w8) (B := w8.heap.size) ?_ hq8).trans c2, ?_⟩ <;> go_grown))
          (first | (go_at_call 20; refine (her.out w8.drew (Below.refl _ _).drew).mono ?_; rintro e w9 ⟨rfl, hbl9⟩; have hb9 : Below w8.heap.size w8 w9 := (Below.refl _ _).drew.trans hbl9) | (go_at_call 18; refine (hga.out w9 hb9).mono ?_; rintro e w10 ⟨v5, rfl, ho5, hbl10⟩; have hb10 : Below w8.heap.size w8 w10 := hb9.trans (hbl10.mono hb9.size)) | (go_at_call 21; refine (heq.out v5 w10 _ ho5 hb10).mono ?_; rintro e w11 ⟨rfl, hbl11⟩; have hb11 : Below w8.heap.size w8 w11 := hb10.trans (hbl11.mono hb10.size)) | (go_at_call 22; refine (hgd.out w11 hb11).mono ?_; rintro e w12 ⟨rfl, rfl⟩))
        have HM11 := Lib.hid (HM8.out.below hb11)
        have HB11 := Lib.hid (HB8.out.trans (hb11.mono HB8.out.size))
        clear her hga heq hgd
        go_wp2_with fail
        go_roundw
        case rel => exact ⟨k + 1, g', vg', _, by omega, by go_num, hI, HM11, HB11⟩
        case measure => simp [intOf]; omega
    · have hend : (((k : Int) < (s.length : Int)) ∧ decide ((k : Int) < 60) = false) ∨ ¬ k < s.length := by
        by_cases h : k < s.length
        · exact .inl ⟨by omega, by simp; omega⟩
        · exact .inr h
      clear hkl
      rcases hend with ⟨t1, t2⟩ | hkk
      · have t1' : k < s.length := by omega
        go_wp2_with fail
        go_ret
        exact ⟨rfl, hb.out⟩
      · go_wp2_with fail
        go_ret
        exact ⟨rfl, hb.out⟩
/-- the law at every input -/
theorem pplays_calls (sk : Bool) (v : Value) (recs : List (List Int)) (w : World) (hr : Rd w w.heap.size 3 v recs.length (recs.flatMap fun r => r.map iv)) (hl : ∀ r ∈ recs, r.length = 3) (hE : ErrTy w) :
    Calls Tryd.prog 4 #[.bool sk, v] w fun e w' => e = .returned (.bool true) ∧ Below w.heap.size w w' := by
  obtain ⟨s, hs⟩ := acts_of_recs hr hl
  exact pplays_ok sk s v w hs hE
end Go.Proofs.YtkindaadadggoaaDoor
