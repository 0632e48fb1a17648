/- Contracts of lock's Do: freeing a lock. Conditions: each contract's own premises. (Printed by wip/gen/lockdo.py.) -/
import Derived.Test.YtkindaadadggoaaDoorTabE
import Derived.Deep.RegionLaw
import Derived.Deep.AppendLies
namespace Go.Proofs.YtkindaadadggoaaDoor
open Go.RowKit

set_option maxRecDepth 20000 in
set_option maxHeartbeats 2000000 in
theorem ldo_free_no (l : Lk.L) (tx it : Nat) (wt : Int) (b : Nat) (v : Value) (w : World) (h : TabAt w b l v) (hI : Lk.Inv l) (a1 : tx < 5) (a2 : it < 4) (hs : (l.rdr.getD it 0).testBit tx = false) (hmn : l.wtr.getD it 0 ≠ tx + 1) :
    Calls Tryd.prog 34 #[.pointer (some ⟨b, 0, none⟩), .agg #[.int .i64 2, nv tx, nv it, iv wt]] w fun e w' => e = .returned (.iface 93 (.int .i64 5)) ∧ TabTo w b v l w' := by
  have hr32 : l.rdr.getD it 0 < 32 := hI.2.2.2.2.1 it
  have hw5 : l.wtr.getD it 0 ≤ 5 := hI.2.2.2.2.2.1 it
  have hs32 : l.shr < 32 := hI.2.2.2.1
  have hl24 : l.acts.length ≤ 24 := hI.2.2.2.2.2.2.1
  obtain ⟨A, cap, rfl⟩ := Rd.val h.2.acts
  rw [Sch.length_zacts] at h ⊢
  have H := Lib.hid h
  have HB := h.1.lt
  have h0 := (h.alloc (.cells #[.int .i64 2, nv tx, nv it, iv wt] 49)).alloc (.cells #[.int .i64 2, nv tx, nv it, iv wt] 49)
  have hin := Lib.hid fun w5 => (show Calls Tryd.prog 67 #[.agg #[.int .i64 2, nv tx, nv it, iv wt]] w5 (fun e w' => e = .returned (.bool true) ∧ w5.alloc (.cells #[.int .i64 2, nv tx, nv it, iv wt] 49) = w') from in_any 2 tx it wt w5 (by decide) (by omega) (by omega) (fun h => absurd h (by decide)))
  have i1 : (0 : Int) ≤ (tx : Int) := by omega
  have i2 : (tx : Int) < 5 := by omega
  have i3 : (0 : Int) ≤ (it : Int) := by omega
  have i4 : (it : Int) < 4 := by omega
  have g1 := h0.shr
  have g2 := h0.acts
  have g3 := h0.wr a2
  have g4 := h0.rd a2
  have HM := Lib.hid fun n => mid_of h (Only.refl _ w) rfl 49 (.cells #[.int .i64 2, nv tx, nv it, iv wt] 49) n (d0 := .int .i64 2) (d1 := nv tx) (d2 := nv it) (d3 := iv wt)
  have hand := bits_and_shl (l.rdr.getD it 0) tx (by omega) (by omega)
  rw [and_pow, hs, if_neg (by decide)] at hand
  have hp : 0 < 2 ^ tx := Nat.two_pow_pos tx
  have hp2 : (((2 ^ tx : Nat) : Int) == 0) = false := by generalize 2 ^ tx = p at *; simp; omega
  have hdf := bits_andNot_shl (l.rdr.getD it 0) tx (by omega) (by omega)
  have hor := bits_or_shl l.shr tx (by omega) (by omega)
  have hI1 := hI.1
  have hI2 := hI.2.1
  have t1 : (((l.wtr.getD it 0 : Nat) : Int) == (tx : Int) + 1) = false := beq_eq_false_iff_ne.2 (by omega)
  have t2 : (((l.wtr.getD it 0 : Nat) : Int) != (tx : Int) + 1) = true := bne_iff_ne.2 (by omega)
  have HRD := Lib.hid (show l.rdr.getD it 0 = l.rdr.getD it 0 from rfl)
  generalize hrv : l.rdr.getD it 0 = rv at *
  generalize hwv : l.wtr.getD it 0 = wv at *
  generalize hsh : l.shr = sh at *
  have HRV := Lib.hid hrv
  have HWV := Lib.hid hwv
  have HSH := Lib.hid hsh
  generalize hdd : Odr.diff rv (2 ^ tx) = dv at *
  generalize sh ||| 2 ^ tx = sv at *
  generalize hpp : 2 ^ tx = p at *
  have e1 : IntKind.i64.wrap ((tx : Int) + 1) = (tx : Int) + 1 := IntWalk.i64_in _ (by constructor <;> omega)
  clear h h0 hI hs hrv hwv hsh hdd hpp HRD hmn
  go_enter Tryd.func34, Tryd.ntmps34
  go_wp2_with fail
  (with_reducible refine (hin.out _).mono ?_)
  rintro e w5 ⟨rfl, rfl⟩
  clear hin
  go_wp2_with fail
  go_quiet (fail)
  clear e1
  go_wp2_with fail
  go_ret
  exact ⟨rfl, by first | exact TabTo.same H.out _ _ 0 | exact TabTo.same H.out _ _ _⟩

set_option maxRecDepth 20000 in
set_option maxHeartbeats 2000000 in
theorem ldo_free_r (l : Lk.L) (tx it : Nat) (wt : Int) (b : Nat) (v : Value) (w : World) (h : TabAt w b l v) (hI : Lk.Inv l) (a1 : tx < 5) (a2 : it < 4) (hs : (l.rdr.getD it 0).testBit tx = true) (hmn : l.wtr.getD it 0 ≠ tx + 1) :
    Calls Tryd.prog 34 #[.pointer (some ⟨b, 0, none⟩), .agg #[.int .i64 2, nv tx, nv it, iv wt]] w fun e w' => e = .returned .nilIface ∧ TabTo w b v { l with rdr := l.rdr.set it (Odr.diff (l.rdr.getD it 0) (2 ^ tx)), shr := l.shr ||| 2 ^ tx } w' := by
  have hr32 : l.rdr.getD it 0 < 32 := hI.2.2.2.2.1 it
  have hw5 : l.wtr.getD it 0 ≤ 5 := hI.2.2.2.2.2.1 it
  have hs32 : l.shr < 32 := hI.2.2.2.1
  have hl24 : l.acts.length ≤ 24 := hI.2.2.2.2.2.2.1
  obtain ⟨A, cap, rfl⟩ := Rd.val h.2.acts
  rw [Sch.length_zacts] at h ⊢
  have H := Lib.hid h
  have HB := h.1.lt
  have h0 := (h.alloc (.cells #[.int .i64 2, nv tx, nv it, iv wt] 49)).alloc (.cells #[.int .i64 2, nv tx, nv it, iv wt] 49)
  have hin := Lib.hid fun w5 => (show Calls Tryd.prog 67 #[.agg #[.int .i64 2, nv tx, nv it, iv wt]] w5 (fun e w' => e = .returned (.bool true) ∧ w5.alloc (.cells #[.int .i64 2, nv tx, nv it, iv wt] 49) = w') from in_any 2 tx it wt w5 (by decide) (by omega) (by omega) (fun h => absurd h (by decide)))
  have i1 : (0 : Int) ≤ (tx : Int) := by omega
  have i2 : (tx : Int) < 5 := by omega
  have i3 : (0 : Int) ≤ (it : Int) := by omega
  have i4 : (it : Int) < 4 := by omega
  have g1 := h0.shr
  have g2 := h0.acts
  have g3 := h0.wr a2
  have g4 := h0.rd a2
  have HM := Lib.hid fun n => mid_of h (Only.refl _ w) rfl 49 (.cells #[.int .i64 2, nv tx, nv it, iv wt] 49) n (d0 := .int .i64 2) (d1 := nv tx) (d2 := nv it) (d3 := iv wt)
  have hand := bits_and_shl (l.rdr.getD it 0) tx (by omega) (by omega)
  rw [and_pow, hs, if_pos rfl] at hand
  have hp : 0 < 2 ^ tx := Nat.two_pow_pos tx
  have hp2 : (((2 ^ tx : Nat) : Int) == 0) = false := by generalize 2 ^ tx = p at *; simp; omega
  have hdf := bits_andNot_shl (l.rdr.getD it 0) tx (by omega) (by omega)
  have hor := bits_or_shl l.shr tx (by omega) (by omega)
  have hI1 := hI.1
  have hI2 := hI.2.1
  have t1 : (((l.wtr.getD it 0 : Nat) : Int) == (tx : Int) + 1) = false := beq_eq_false_iff_ne.2 (by omega)
  have t2 : (((l.wtr.getD it 0 : Nat) : Int) != (tx : Int) + 1) = true := bne_iff_ne.2 (by omega)
  have HRD := Lib.hid (show l.rdr.getD it 0 = l.rdr.getD it 0 from rfl)
  generalize hrv : l.rdr.getD it 0 = rv at *
  generalize hwv : l.wtr.getD it 0 = wv at *
  generalize hsh : l.shr = sh at *
  have HRV := Lib.hid hrv
  have HWV := Lib.hid hwv
  have HSH := Lib.hid hsh
  generalize hdd : Odr.diff rv (2 ^ tx) = dv at *
  generalize sh ||| 2 ^ tx = sv at *
  generalize hpp : 2 ^ tx = p at *
  have e1 : IntKind.i64.wrap ((tx : Int) + 1) = (tx : Int) + 1 := IntWalk.i64_in _ (by constructor <;> omega)
  clear h h0 hI hs hrv hwv hsh hdd hpp HRD hmn
  go_enter Tryd.func34, Tryd.ntmps34
  go_wp2_with fail
  (with_reducible refine (hin.out _).mono ?_)
  rintro e w5 ⟨rfl, rfl⟩
  clear hin
  go_wp2_with fail
  go_quiet (fail)
  have HMX := Lib.hid (HM.out nq)
  generalize (((w.alloc (.cells #[.int .i64 2, nv tx, nv it, iv wt] 49)).alloc (.cells #[.int .i64 2, nv tx, nv it, iv wt] 49))).drewN nq = wX at *
  clear HM g1 g2 g3 g4
  obtain ⟨m1, m2, m3, m4, m5, m6, m7⟩ := HMX.out
  have r1 : wX.cell? ⟨b, it, none⟩ = some (nv rv) := by rw [← HRV.out]; exact m1.rd a2
  have s1 := m1.1.frozen it
  have HMY := Lib.hid (show Mid w b { l with rdr := l.rdr.set it dv } (.slice A l.acts.length cap) (.int .i64 2) (nv tx) (nv it) (iv wt) (wX.setCell ⟨b, it, none⟩ (nv dv)).drew from HMX.out.st (m1.rdSet hI1 a2 dv) ((Only.refl (fun k => k = b) wX).setCell (.inl rfl) _).drew HB)
  clear m1 m2 m3
  go_wp2_with fail
  go_region
  generalize (wX.setCell ⟨b, it, none⟩ (.int .i64 (dv : Int))).drew = wY at *
  clear m4 m5 m6 m7 r1 s1 HMX
  obtain ⟨m1, m2, m3, m4, m5, m6, m7⟩ := HMY.out
  have r2 : wY.cell? ⟨b, 4 + it, none⟩ = some (nv wv) := by have := m1.wr a2; rw [show ({ l with rdr := l.rdr.set it dv } : Lk.L).wtr.getD it 0 = wv from HWV.out] at this; exact this
  have HMZ := Lib.hid fun n => HMY.out.st (m1.drewN n) ((Only.refl (fun k => k = b) wY).drewN n) HB
  clear m1 m2 m3
  go_wp2_with fail
  have e1 : IntKind.i64.wrap ((tx : Int) + 1) = (tx : Int) + 1 := IntWalk.i64_in _ (by constructor <;> omega)
  go_quiet (fail)
  clear e1
  have HMW := Lib.hid (HMZ.out nq)
  generalize wY.drewN nq = wZ at *
  clear m4 m5 m6 m7 r2 HMY HMZ
  obtain ⟨m1, m2, m3, m4, m5, m6, m7⟩ := HMW.out
  have r4 : wZ.cell? ⟨b, 8, none⟩ = some (nv sh) := by rw [← HSH.out]; exact m1.shr
  have s4 := m1.1.frozen 8
  have HF := Lib.hid (show TabTo w b (.slice A l.acts.length cap) { l with rdr := l.rdr.set it dv, shr := sv } (wZ.setCell ⟨b, 8, none⟩ (nv sv)) from (HMW.out.st (m1.shrSet sv) ((Only.refl (fun k => k = b) wZ).setCell (.inl rfl) _) HB).to)
  clear m1 m2 m3
  go_wp2_with fail

  go_ret
  exact ⟨rfl, HF.out⟩

set_option maxRecDepth 20000 in
set_option maxHeartbeats 2000000 in
theorem ldo_free_w (l : Lk.L) (tx it : Nat) (wt : Int) (b : Nat) (v : Value) (w : World) (h : TabAt w b l v) (hI : Lk.Inv l) (a1 : tx < 5) (a2 : it < 4) (hs : (l.rdr.getD it 0).testBit tx = false) (hmn : l.wtr.getD it 0 = tx + 1) :
    Calls Tryd.prog 34 #[.pointer (some ⟨b, 0, none⟩), .agg #[.int .i64 2, nv tx, nv it, iv wt]] w fun e w' => e = .returned .nilIface ∧ TabTo w b v { l with rdr := l.rdr.set it (Odr.diff (l.rdr.getD it 0) (2 ^ tx)), wtr := l.wtr.set it 0, shr := l.shr ||| 2 ^ tx } w' := by
  have hr32 : l.rdr.getD it 0 < 32 := hI.2.2.2.2.1 it
  have hw5 : l.wtr.getD it 0 ≤ 5 := hI.2.2.2.2.2.1 it
  have hs32 : l.shr < 32 := hI.2.2.2.1
  have hl24 : l.acts.length ≤ 24 := hI.2.2.2.2.2.2.1
  obtain ⟨A, cap, rfl⟩ := Rd.val h.2.acts
  rw [Sch.length_zacts] at h ⊢
  have H := Lib.hid h
  have HB := h.1.lt
  have h0 := (h.alloc (.cells #[.int .i64 2, nv tx, nv it, iv wt] 49)).alloc (.cells #[.int .i64 2, nv tx, nv it, iv wt] 49)
  have hin := Lib.hid fun w5 => (show Calls Tryd.prog 67 #[.agg #[.int .i64 2, nv tx, nv it, iv wt]] w5 (fun e w' => e = .returned (.bool true) ∧ w5.alloc (.cells #[.int .i64 2, nv tx, nv it, iv wt] 49) = w') from in_any 2 tx it wt w5 (by decide) (by omega) (by omega) (fun h => absurd h (by decide)))
  have i1 : (0 : Int) ≤ (tx : Int) := by omega
  have i2 : (tx : Int) < 5 := by omega
  have i3 : (0 : Int) ≤ (it : Int) := by omega
  have i4 : (it : Int) < 4 := by omega
  have g1 := h0.shr
  have g2 := h0.acts
  have g3 := h0.wr a2
  have g4 := h0.rd a2
  have HM := Lib.hid fun n => mid_of h (Only.refl _ w) rfl 49 (.cells #[.int .i64 2, nv tx, nv it, iv wt] 49) n (d0 := .int .i64 2) (d1 := nv tx) (d2 := nv it) (d3 := iv wt)
  have hand := bits_and_shl (l.rdr.getD it 0) tx (by omega) (by omega)
  rw [and_pow, hs, if_neg (by decide)] at hand
  have hp : 0 < 2 ^ tx := Nat.two_pow_pos tx
  have hp2 : (((2 ^ tx : Nat) : Int) == 0) = false := by generalize 2 ^ tx = p at *; simp; omega
  have hdf := bits_andNot_shl (l.rdr.getD it 0) tx (by omega) (by omega)
  have hor := bits_or_shl l.shr tx (by omega) (by omega)
  have hI1 := hI.1
  have hI2 := hI.2.1
  have hw : l.wtr.getD it 0 = tx + 1 := hmn
  have t1 : ((tx : Int) + 1 == (tx : Int) + 1) = true := by simp
  have g3' := g3
  rw [hw, show nv (tx + 1) = .int .i64 ((tx : Int) + 1) from rfl] at g3
  have HRD := Lib.hid (show l.rdr.getD it 0 = l.rdr.getD it 0 from rfl)
  generalize hrv : l.rdr.getD it 0 = rv at *
  generalize hwv : l.wtr.getD it 0 = wv at *
  generalize hsh : l.shr = sh at *
  have HRV := Lib.hid hrv
  have HWV := Lib.hid hwv
  have HSH := Lib.hid hsh
  generalize hdd : Odr.diff rv (2 ^ tx) = dv at *
  generalize sh ||| 2 ^ tx = sv at *
  generalize hpp : 2 ^ tx = p at *
  have e1 : IntKind.i64.wrap ((tx : Int) + 1) = (tx : Int) + 1 := IntWalk.i64_in _ (by constructor <;> omega)
  have HW := Lib.hid (show wv = tx + 1 from hmn)
  clear h h0 hI hs hrv hwv hsh hdd hpp HRD hw hmn g3'
  go_enter Tryd.func34, Tryd.ntmps34
  go_wp2_with fail
  (with_reducible refine (hin.out _).mono ?_)
  rintro e w5 ⟨rfl, rfl⟩
  clear hin
  go_wp2_with fail
  go_quiet (fail)
  have HMX := Lib.hid (HM.out nq)
  generalize (((w.alloc (.cells #[.int .i64 2, nv tx, nv it, iv wt] 49)).alloc (.cells #[.int .i64 2, nv tx, nv it, iv wt] 49))).drewN nq = wX at *
  clear HM g1 g2 g3 g4
  obtain ⟨m1, m2, m3, m4, m5, m6, m7⟩ := HMX.out
  have r1 : wX.cell? ⟨b, it, none⟩ = some (nv rv) := by rw [← HRV.out]; exact m1.rd a2
  have s1 := m1.1.frozen it
  have HMY := Lib.hid (show Mid w b { l with rdr := l.rdr.set it dv } (.slice A l.acts.length cap) (.int .i64 2) (nv tx) (nv it) (iv wt) (wX.setCell ⟨b, it, none⟩ (nv dv)).drew from HMX.out.st (m1.rdSet hI1 a2 dv) ((Only.refl (fun k => k = b) wX).setCell (.inl rfl) _).drew HB)
  clear m1 m2 m3
  go_wp2_with fail
  go_region
  generalize (wX.setCell ⟨b, it, none⟩ (.int .i64 (dv : Int))).drew = wY at *
  clear m4 m5 m6 m7 r1 s1 HMX
  obtain ⟨m1, m2, m3, m4, m5, m6, m7⟩ := HMY.out
  have r2 : wY.cell? ⟨b, 4 + it, none⟩ = some (.int .i64 ((tx : Int) + 1)) := by have := m1.wr a2; rw [show ({ l with rdr := l.rdr.set it dv } : Lk.L).wtr.getD it 0 = tx + 1 from HWV.out.trans HW.out] at this; exact this
  have HMZ := Lib.hid fun n => HMY.out.st (m1.drewN n) ((Only.refl (fun k => k = b) wY).drewN n) HB
  clear m1 m2 m3
  go_wp2_with fail
  have e1 : IntKind.i64.wrap ((tx : Int) + 1) = (tx : Int) + 1 := IntWalk.i64_in _ (by constructor <;> omega)
  go_quiet (fail)
  clear e1
  have HMW := Lib.hid (HMZ.out nq)
  generalize wY.drewN nq = wZ at *
  clear m4 m5 m6 m7 r2 HMY HMZ
  obtain ⟨m1, m2, m3, m4, m5, m6, m7⟩ := HMW.out
  have r3 := m1.wr a2
  generalize nv (Lk.L.wtr { l with rdr := l.rdr.set it dv } |>.getD it 0) = old at *
  have s3 := m1.1.frozen (4 + it)
  have HMU := Lib.hid (show Mid w b { l with rdr := l.rdr.set it dv, wtr := l.wtr.set it 0 } (.slice A l.acts.length cap) (.int .i64 2) (nv tx) (nv it) (iv wt) (wZ.setCell ⟨b, 4 + it, none⟩ (nv 0)).drew from HMW.out.st (m1.wrSet hI2 a2 0) ((Only.refl (fun k => k = b) wZ).setCell (.inl rfl) _).drew HB)
  clear m1 m2 m3
  go_wp2_with fail
  go_region
  generalize (wZ.setCell ⟨b, 4 + it, none⟩ (.int .i64 0)).drew = wU at *
  clear m4 m5 m6 m7 r3 s3 HMW
  obtain ⟨m1, m2, m3, m4, m5, m6, m7⟩ := HMU.out
  have r4 : wU.cell? ⟨b, 8, none⟩ = some (nv sh) := by rw [← HSH.out]; exact m1.shr
  have s4 := m1.1.frozen 8
  have HF := Lib.hid (show TabTo w b (.slice A l.acts.length cap) { l with rdr := l.rdr.set it dv, wtr := l.wtr.set it 0, shr := sv } (wU.setCell ⟨b, 8, none⟩ (nv sv)) from (HMU.out.st (m1.shrSet sv) ((Only.refl (fun k => k = b) wU).setCell (.inl rfl) _) HB).to)
  clear m1 m2 m3
  go_wp2_with fail

  go_ret
  exact ⟨rfl, HF.out⟩

set_option maxRecDepth 20000 in
set_option maxHeartbeats 2000000 in
theorem ldo_free_rw (l : Lk.L) (tx it : Nat) (wt : Int) (b : Nat) (v : Value) (w : World) (h : TabAt w b l v) (hI : Lk.Inv l) (a1 : tx < 5) (a2 : it < 4) (hs : (l.rdr.getD it 0).testBit tx = true) (hmn : l.wtr.getD it 0 = tx + 1) :
    Calls Tryd.prog 34 #[.pointer (some ⟨b, 0, none⟩), .agg #[.int .i64 2, nv tx, nv it, iv wt]] w fun e w' => e = .returned .nilIface ∧ TabTo w b v { l with rdr := l.rdr.set it (Odr.diff (l.rdr.getD it 0) (2 ^ tx)), wtr := l.wtr.set it 0, shr := l.shr ||| 2 ^ tx } w' := by
  have hr32 : l.rdr.getD it 0 < 32 := hI.2.2.2.2.1 it
  have hw5 : l.wtr.getD it 0 ≤ 5 := hI.2.2.2.2.2.1 it
  have hs32 : l.shr < 32 := hI.2.2.2.1
  have hl24 : l.acts.length ≤ 24 := hI.2.2.2.2.2.2.1
  obtain ⟨A, cap, rfl⟩ := Rd.val h.2.acts
  rw [Sch.length_zacts] at h ⊢
  have H := Lib.hid h
  have HB := h.1.lt
  have h0 := (h.alloc (.cells #[.int .i64 2, nv tx, nv it, iv wt] 49)).alloc (.cells #[.int .i64 2, nv tx, nv it, iv wt] 49)
  have hin := Lib.hid fun w5 => (show Calls Tryd.prog 67 #[.agg #[.int .i64 2, nv tx, nv it, iv wt]] w5 (fun e w' => e = .returned (.bool true) ∧ w5.alloc (.cells #[.int .i64 2, nv tx, nv it, iv wt] 49) = w') from in_any 2 tx it wt w5 (by decide) (by omega) (by omega) (fun h => absurd h (by decide)))
  have i1 : (0 : Int) ≤ (tx : Int) := by omega
  have i2 : (tx : Int) < 5 := by omega
  have i3 : (0 : Int) ≤ (it : Int) := by omega
  have i4 : (it : Int) < 4 := by omega
  have g1 := h0.shr
  have g2 := h0.acts
  have g3 := h0.wr a2
  have g4 := h0.rd a2
  have HM := Lib.hid fun n => mid_of h (Only.refl _ w) rfl 49 (.cells #[.int .i64 2, nv tx, nv it, iv wt] 49) n (d0 := .int .i64 2) (d1 := nv tx) (d2 := nv it) (d3 := iv wt)
  have hand := bits_and_shl (l.rdr.getD it 0) tx (by omega) (by omega)
  rw [and_pow, hs, if_pos rfl] at hand
  have hp : 0 < 2 ^ tx := Nat.two_pow_pos tx
  have hp2 : (((2 ^ tx : Nat) : Int) == 0) = false := by generalize 2 ^ tx = p at *; simp; omega
  have hdf := bits_andNot_shl (l.rdr.getD it 0) tx (by omega) (by omega)
  have hor := bits_or_shl l.shr tx (by omega) (by omega)
  have hI1 := hI.1
  have hI2 := hI.2.1
  have hw : l.wtr.getD it 0 = tx + 1 := hmn
  have t1 : ((tx : Int) + 1 == (tx : Int) + 1) = true := by simp
  have g3' := g3
  rw [hw, show nv (tx + 1) = .int .i64 ((tx : Int) + 1) from rfl] at g3
  have HRD := Lib.hid (show l.rdr.getD it 0 = l.rdr.getD it 0 from rfl)
  generalize hrv : l.rdr.getD it 0 = rv at *
  generalize hwv : l.wtr.getD it 0 = wv at *
  generalize hsh : l.shr = sh at *
  have HRV := Lib.hid hrv
  have HWV := Lib.hid hwv
  have HSH := Lib.hid hsh
  generalize hdd : Odr.diff rv (2 ^ tx) = dv at *
  generalize sh ||| 2 ^ tx = sv at *
  generalize hpp : 2 ^ tx = p at *
  have e1 : IntKind.i64.wrap ((tx : Int) + 1) = (tx : Int) + 1 := IntWalk.i64_in _ (by constructor <;> omega)
  have HW := Lib.hid (show wv = tx + 1 from hmn)
  clear h h0 hI hs hrv hwv hsh hdd hpp HRD hw hmn g3'
  go_enter Tryd.func34, Tryd.ntmps34
  go_wp2_with fail
  (with_reducible refine (hin.out _).mono ?_)
  rintro e w5 ⟨rfl, rfl⟩
  clear hin
  go_wp2_with fail
  go_quiet (fail)
  have HMX := Lib.hid (HM.out nq)
  generalize (((w.alloc (.cells #[.int .i64 2, nv tx, nv it, iv wt] 49)).alloc (.cells #[.int .i64 2, nv tx, nv it, iv wt] 49))).drewN nq = wX at *
  clear HM g1 g2 g3 g4
  obtain ⟨m1, m2, m3, m4, m5, m6, m7⟩ := HMX.out
  have r1 : wX.cell? ⟨b, it, none⟩ = some (nv rv) := by rw [← HRV.out]; exact m1.rd a2
  have s1 := m1.1.frozen it
  have HMY := Lib.hid (show Mid w b { l with rdr := l.rdr.set it dv } (.slice A l.acts.length cap) (.int .i64 2) (nv tx) (nv it) (iv wt) (wX.setCell ⟨b, it, none⟩ (nv dv)).drew from HMX.out.st (m1.rdSet hI1 a2 dv) ((Only.refl (fun k => k = b) wX).setCell (.inl rfl) _).drew HB)
  clear m1 m2 m3
  go_wp2_with fail
  go_region
  generalize (wX.setCell ⟨b, it, none⟩ (.int .i64 (dv : Int))).drew = wY at *
  clear m4 m5 m6 m7 r1 s1 HMX
  obtain ⟨m1, m2, m3, m4, m5, m6, m7⟩ := HMY.out
  have r2 : wY.cell? ⟨b, 4 + it, none⟩ = some (.int .i64 ((tx : Int) + 1)) := by have := m1.wr a2; rw [show ({ l with rdr := l.rdr.set it dv } : Lk.L).wtr.getD it 0 = tx + 1 from HWV.out.trans HW.out] at this; exact this
  have HMZ := Lib.hid fun n => HMY.out.st (m1.drewN n) ((Only.refl (fun k => k = b) wY).drewN n) HB
  clear m1 m2 m3
  go_wp2_with fail
  have e1 : IntKind.i64.wrap ((tx : Int) + 1) = (tx : Int) + 1 := IntWalk.i64_in _ (by constructor <;> omega)
  go_quiet (fail)
  clear e1
  have HMW := Lib.hid (HMZ.out nq)
  generalize wY.drewN nq = wZ at *
  clear m4 m5 m6 m7 r2 HMY HMZ
  obtain ⟨m1, m2, m3, m4, m5, m6, m7⟩ := HMW.out
  have r3 := m1.wr a2
  generalize nv (Lk.L.wtr { l with rdr := l.rdr.set it dv } |>.getD it 0) = old at *
  have s3 := m1.1.frozen (4 + it)
  have HMU := Lib.hid (show Mid w b { l with rdr := l.rdr.set it dv, wtr := l.wtr.set it 0 } (.slice A l.acts.length cap) (.int .i64 2) (nv tx) (nv it) (iv wt) (wZ.setCell ⟨b, 4 + it, none⟩ (nv 0)).drew from HMW.out.st (m1.wrSet hI2 a2 0) ((Only.refl (fun k => k = b) wZ).setCell (.inl rfl) _).drew HB)
  clear m1 m2 m3
  go_wp2_with fail
  go_region
  generalize (wZ.setCell ⟨b, 4 + it, none⟩ (.int .i64 0)).drew = wU at *
  clear m4 m5 m6 m7 r3 s3 HMW
  obtain ⟨m1, m2, m3, m4, m5, m6, m7⟩ := HMU.out
  have r4 : wU.cell? ⟨b, 8, none⟩ = some (nv sh) := by rw [← HSH.out]; exact m1.shr
  have s4 := m1.1.frozen 8
  have HF := Lib.hid (show TabTo w b (.slice A l.acts.length cap) { l with rdr := l.rdr.set it dv, wtr := l.wtr.set it 0, shr := sv } (wU.setCell ⟨b, 8, none⟩ (nv sv)) from (HMU.out.st (m1.shrSet sv) ((Only.refl (fun k => k = b) wU).setCell (.inl rfl) _) HB).to)
  clear m1 m2 m3
  go_wp2_with fail

  go_ret
  exact ⟨rfl, HF.out⟩

end Go.Proofs.YtkindaadadggoaaDoor
