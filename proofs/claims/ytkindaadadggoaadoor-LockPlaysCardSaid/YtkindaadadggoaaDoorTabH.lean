/- Contracts of lock's Do: an act that is done. Conditions: each contract's own premises. (Printed by wip/gen/lockdo.py.) -/
import Derived.Test.YtkindaadadggoaaDoorTabG
import Derived.Deep.RegionLaw
import Derived.Deep.AppendLies
namespace Go.Proofs.YtkindaadadggoaaDoor
open Go.RowKit

attribute [-go_sem] Builtin.append_
set_option maxRecDepth 20000 in
set_option maxHeartbeats 2000000 in
theorem ldo_do_m (l : Lk.L) (tx it wt : Nat) (b : Nat) (v : Value) (w : World) (h : TabAt w b l v) (hI : Lk.Inv l) (a1 : tx < 5) (a2 : it < 4) (hmn : l.wtr.getD it 0 = tx + 1) (hwt : wt < 2) (hl : l.acts.length < 24) :
    Calls Tryd.prog 34 #[.pointer (some ⟨b, 0, none⟩), .agg #[.int .i64 3, nv tx, nv it, nv wt]] w fun e w' => e = .returned .nilIface ∧ TabTo w b v { l with acts := l.acts ++ [(tx, it, wt)] } w' := by
  have hr32 : l.rdr.getD it 0 < 32 := hI.2.2.2.2.1 it
  have hw5 : l.wtr.getD it 0 ≤ 5 := hI.2.2.2.2.2.1 it
  have hs32 : l.shr < 32 := hI.2.2.2.1
  have hl24 : l.acts.length ≤ 24 := hI.2.2.2.2.2.2.1
  obtain ⟨A, cap, rfl⟩ := Rd.val h.2.acts
  rw [Sch.length_zacts] at h ⊢
  have H := Lib.hid h
  have HB := h.1.lt
  have h0 := (h.alloc (.cells #[.int .i64 3, nv tx, nv it, nv wt] 49)).alloc (.cells #[.int .i64 3, nv tx, nv it, nv wt] 49)
  have hin := Lib.hid fun w5 => (show Calls Tryd.prog 67 #[.agg #[.int .i64 3, nv tx, nv it, nv wt]] w5 (fun e w' => e = .returned (.bool true) ∧ w5.alloc (.cells #[.int .i64 3, nv tx, nv it, nv wt] 49) = w') from in_ok 3 tx it wt w5 (by decide) a1 a2 (by omega))
  have i1 : (0 : Int) ≤ (tx : Int) := by omega
  have i2 : (tx : Int) < 5 := by omega
  have i3 : (0 : Int) ≤ (it : Int) := by omega
  have i4 : (it : Int) < 4 := by omega
  have g1 := h0.shr
  have g2 := h0.acts
  have g3 := h0.wr a2
  have g4 := h0.rd a2
  have hown0 := Lib.hid (show (Value.slice A l.acts.length cap).ownBlock ≠ some w.heap.size from fun e => by have := (h.own _ e).2; omega)
  have HM := Lib.hid fun n => mid_of h (Only.refl _ w) rfl 49 (.cells #[.int .i64 3, nv tx, nv it, nv wt] 49) n (d0 := .int .i64 3) (d1 := nv tx) (d2 := nv it) (d3 := nv wt)
  have t1 : ((tx : Int) + 1 == (tx : Int) + 1) = true := by simp
  rw [hmn, show nv (tx + 1) = .int .i64 ((tx : Int) + 1) from rfl] at g3
  have t3 : ((l.acts.length : Int) == 24) = false := beq_eq_false_iff_ne.2 (by omega)
  generalize hrv : l.rdr.getD it 0 = rv at *
  generalize hwv : l.wtr.getD it 0 = wv at *
  generalize hnn : l.acts.length = n at *
  have HN := Lib.hid hnn
  have e1 : IntKind.i64.wrap ((tx : Int) + 1) = (tx : Int) + 1 := IntWalk.i64_in _ (by constructor <;> omega)
  clear h h0 hI hrv hwv hnn hmn hl
  go_enter Tryd.func34, Tryd.ntmps34
  go_wp2_with fail
  (with_reducible refine (hin.out _).mono ?_)
  rintro e w5 ⟨rfl, rfl⟩
  clear hin
  go_wp2_with fail
  go_quiet (fail)
  clear e1
  have HM0 := Lib.hid (HM.out nq)
  generalize (((w.alloc (.cells #[.int .i64 3, nv tx, nv it, nv wt] 49)).alloc (.cells #[.int .i64 3, nv tx, nv it, nv wt] 49))).drewN nq = w0 at *
  clear HM g1 g2 g3 g4
  obtain ⟨m1, m2, m3, m4, m5, m6, m7⟩ := HM0.out
  have HMX := Lib.hid fun n => HM0.out.st (m1.drewN n) ((Only.refl (fun k => k = b) w0).drewN n) HB
  clear m1 m2 m3
  go_wp2_with fail
  go_quiet (fail)
  have HMX := Lib.hid (HMX.out nq)
  generalize w0.drewN nq = wX at *
  clear m4 m5 m6 m7 HM0
  obtain ⟨m1, m2, m3, m4, m5, m6, m7⟩ := HMX.out
  have r1 := m1.acts
  have HO := Lib.hid (show wX.ownsRow (b + 1) 28 3 (.slice A n cap) n (acells (Sch.zacts l.acts)) from by
    have := m1.2
    unfold OwnA at this
    rw [Sch.length_zacts, HN.out] at this
    exact this)
  have HR := Lib.hid m1.1
  have HC := Lib.hid (show ∀ o, (wX.alloc o).drew.cell? ⟨b, 24, none⟩ = some (.slice A n cap) from fun o => (m1.alloc o).acts)
  have ag : (Value.slice A n cap).ownBlock ≠ some b := fun e => by have := (m1.own b e).1; omega
  have HB2 := m1.1.lt
  have hbw : b ≠ w.heap.size := by omega
  have hwb : w.heap.size ≠ b := by omega
  have aw : (Value.slice A n cap).ownBlock ≠ some w.heap.size := fun e => hown0.out e
  obtain ⟨i0, hi0, hz0, hz1, hz2⟩ := info_parts Tryd.infoAct
  clear m1 m2
  go_wp2_with fail
  obtain ⟨gg, cap2, w1, hrun, hown1, hgrow, hat, hlt1⟩ := run_append_lies (P := Tryd.prog) ((wX.alloc (.cells #[nv tx, nv it, nv wt] 28)).drew) 22 22 (b + 1) 28 i0 _ 3 24 Tryd.underlying22 hi0 hz0 hz1 hz2 rfl (by omega) (.slice A n cap) n (acells (Sch.zacts l.acts)) (World.ownsRow.drew (HO.out.alloc _)) ⟨wX.heap.size, 0, none⟩ 1 1 [nv tx, nv it, nv wt] (by rfl) (World.news_of_block (cs := #[nv tx, nv it, nv wt]) (t := 28) (fr := (0, 0)) (heap_new' _ _ _ rfl)) (by simp [Value.oneCell']) (by omega) (by unfold maxLen; omega) (by omega) (by simp; omega) (wX.heap.size + 1) (by simp)
  have hfz : w1.frozen? ⟨b, 24, none⟩ = false := (hgrow.frozen_far _ (by simp; omega) (Ne.symm ag)).trans ((HR.out.alloc _).drew.frozen 24)
  have hc10 : w1.cell? ⟨b, 24, none⟩ = some (.slice A n cap) := (hgrow.cell_far _ (by simp; omega) (Ne.symm ag)).trans (HC.out _)
  have HF := Lib.hid (tab_done (a := (tx, it, wt)) HMX.out HN.out hgrow hown1 hat)
  clear hown1 hgrow hat hlt1 hz0 hz1 hz2 hi0
  go_region
  all_goals
    go_wp2_with fail
    go_ret
    exact ⟨rfl, HF.out⟩

set_option maxRecDepth 20000 in
set_option maxHeartbeats 2000000 in
theorem ldo_do_r (l : Lk.L) (tx it : Nat) (b : Nat) (v : Value) (w : World) (h : TabAt w b l v) (hI : Lk.Inv l) (a1 : tx < 5) (a2 : it < 4) (hs : (l.rdr.getD it 0).testBit tx = true) (hmn : l.wtr.getD it 0 ≠ tx + 1) (hl : l.acts.length < 24) :
    Calls Tryd.prog 34 #[.pointer (some ⟨b, 0, none⟩), .agg #[.int .i64 3, nv tx, nv it, .int .i64 0]] w fun e w' => e = .returned .nilIface ∧ TabTo w b v { l with acts := l.acts ++ [(tx, it, 0)] } w' := by
  have hr32 : l.rdr.getD it 0 < 32 := hI.2.2.2.2.1 it
  have hw5 : l.wtr.getD it 0 ≤ 5 := hI.2.2.2.2.2.1 it
  have hs32 : l.shr < 32 := hI.2.2.2.1
  have hl24 : l.acts.length ≤ 24 := hI.2.2.2.2.2.2.1
  obtain ⟨A, cap, rfl⟩ := Rd.val h.2.acts
  rw [Sch.length_zacts] at h ⊢
  have H := Lib.hid h
  have HB := h.1.lt
  have h0 := (h.alloc (.cells #[.int .i64 3, nv tx, nv it, .int .i64 0] 49)).alloc (.cells #[.int .i64 3, nv tx, nv it, .int .i64 0] 49)
  have hin := Lib.hid fun w5 => (show Calls Tryd.prog 67 #[.agg #[.int .i64 3, nv tx, nv it, .int .i64 0]] w5 (fun e w' => e = .returned (.bool true) ∧ w5.alloc (.cells #[.int .i64 3, nv tx, nv it, .int .i64 0] 49) = w') from in_ok 3 tx it 0 w5 (by decide) a1 a2 (by omega))
  have i1 : (0 : Int) ≤ (tx : Int) := by omega
  have i2 : (tx : Int) < 5 := by omega
  have i3 : (0 : Int) ≤ (it : Int) := by omega
  have i4 : (it : Int) < 4 := by omega
  have g1 := h0.shr
  have g2 := h0.acts
  have g3 := h0.wr a2
  have g4 := h0.rd a2
  have hown0 := Lib.hid (show (Value.slice A l.acts.length cap).ownBlock ≠ some w.heap.size from fun e => by have := (h.own _ e).2; omega)
  have HM := Lib.hid fun n => mid_of h (Only.refl _ w) rfl 49 (.cells #[.int .i64 3, nv tx, nv it, .int .i64 0] 49) n (d0 := .int .i64 3) (d1 := nv tx) (d2 := nv it) (d3 := .int .i64 0)
  have hand := bits_and_shl (l.rdr.getD it 0) tx (by omega) (by omega)
  rw [and_pow, hs, if_pos rfl] at hand
  have hp : 0 < 2 ^ tx := Nat.two_pow_pos tx
  have hp2 : (((2 ^ tx : Nat) : Int) == 0) = false := by generalize 2 ^ tx = p at *; simp; omega
  have t1 : (((l.wtr.getD it 0 : Nat) : Int) == (tx : Int) + 1) = false := beq_eq_false_iff_ne.2 (by omega)
  have t3 : ((l.acts.length : Int) == 24) = false := beq_eq_false_iff_ne.2 (by omega)
  generalize hrv : l.rdr.getD it 0 = rv at *
  generalize hwv : l.wtr.getD it 0 = wv at *
  generalize hpp : 2 ^ tx = p at *
  generalize hnn : l.acts.length = n at *
  have HN := Lib.hid hnn
  have HRV := Lib.hid hrv
  have e1 : IntKind.i64.wrap ((tx : Int) + 1) = (tx : Int) + 1 := IntWalk.i64_in _ (by constructor <;> omega)
  clear h h0 hI hrv hwv hnn hmn hs hpp hl
  go_enter Tryd.func34, Tryd.ntmps34
  go_wp2_with fail
  (with_reducible refine (hin.out _).mono ?_)
  rintro e w5 ⟨rfl, rfl⟩
  clear hin
  go_wp2_with fail
  go_quiet (fail)
  clear e1
  have HM0 := Lib.hid (HM.out nq)
  generalize (((w.alloc (.cells #[.int .i64 3, nv tx, nv it, .int .i64 0] 49)).alloc (.cells #[.int .i64 3, nv tx, nv it, .int .i64 0] 49))).drewN nq = w0 at *
  clear HM g1 g2 g3 g4
  obtain ⟨m1, m2, m3, m4, m5, m6, m7⟩ := HM0.out
  have r0 : w0.cell? ⟨b, it, none⟩ = some (nv rv) := by rw [← HRV.out]; exact m1.rd a2
  have HMX := Lib.hid fun n => HM0.out.st (m1.drewN n) ((Only.refl (fun k => k = b) w0).drewN n) HB
  clear m1 m2 m3
  go_wp2_with fail
  go_quiet (fail)
  have HMX := Lib.hid (HMX.out nq)
  generalize w0.drewN nq = wX at *
  clear m4 m5 m6 m7 HM0 r0
  obtain ⟨m1, m2, m3, m4, m5, m6, m7⟩ := HMX.out
  have r1 := m1.acts
  have HO := Lib.hid (show wX.ownsRow (b + 1) 28 3 (.slice A n cap) n (acells (Sch.zacts l.acts)) from by
    have := m1.2
    unfold OwnA at this
    rw [Sch.length_zacts, HN.out] at this
    exact this)
  have HR := Lib.hid m1.1
  have HC := Lib.hid (show ∀ o, (wX.alloc o).drew.cell? ⟨b, 24, none⟩ = some (.slice A n cap) from fun o => (m1.alloc o).acts)
  have ag : (Value.slice A n cap).ownBlock ≠ some b := fun e => by have := (m1.own b e).1; omega
  have HB2 := m1.1.lt
  have hbw : b ≠ w.heap.size := by omega
  have hwb : w.heap.size ≠ b := by omega
  have aw : (Value.slice A n cap).ownBlock ≠ some w.heap.size := fun e => hown0.out e
  obtain ⟨i0, hi0, hz0, hz1, hz2⟩ := info_parts Tryd.infoAct
  clear m1 m2
  go_wp2_with fail
  obtain ⟨gg, cap2, w1, hrun, hown1, hgrow, hat, hlt1⟩ := run_append_lies (P := Tryd.prog) ((wX.alloc (.cells #[nv tx, nv it, .int .i64 0] 28)).drew) 22 22 (b + 1) 28 i0 _ 3 24 Tryd.underlying22 hi0 hz0 hz1 hz2 rfl (by omega) (.slice A n cap) n (acells (Sch.zacts l.acts)) (World.ownsRow.drew (HO.out.alloc _)) ⟨wX.heap.size, 0, none⟩ 1 1 [nv tx, nv it, .int .i64 0] (by rfl) (World.news_of_block (cs := #[nv tx, nv it, .int .i64 0]) (t := 28) (fr := (0, 0)) (heap_new' _ _ _ rfl)) (by simp [Value.oneCell']) (by omega) (by unfold maxLen; omega) (by omega) (by simp; omega) (wX.heap.size + 1) (by simp)
  have hfz : w1.frozen? ⟨b, 24, none⟩ = false := (hgrow.frozen_far _ (by simp; omega) (Ne.symm ag)).trans ((HR.out.alloc _).drew.frozen 24)
  have hc10 : w1.cell? ⟨b, 24, none⟩ = some (.slice A n cap) := (hgrow.cell_far _ (by simp; omega) (Ne.symm ag)).trans (HC.out _)
  have HF := Lib.hid (tab_done (a := (tx, it, 0)) HMX.out HN.out hgrow hown1 hat)
  clear hown1 hgrow hat hlt1 hz0 hz1 hz2 hi0
  go_region
  all_goals
    go_wp2_with fail
    go_ret
    exact ⟨rfl, HF.out⟩

end Go.Proofs.YtkindaadadggoaaDoor
