/- Contracts of lock's Do: a lock that is had. Conditions: each contract's own premises. (Printed by wip/gen/lockdo.py.) -/
import Derived.Test.YtkindaadadggoaaDoorTabD
import Derived.Deep.RegionLaw
import Derived.Deep.AppendLies
namespace Go.Proofs.YtkindaadadggoaaDoor
open Go.RowKit

/-- amid a deed: the table, the deed's own cells, and all else as it was -/
def Mid (w : World) (b : Nat) (l : Lk.L) (v : Value) (d0 d1 d2 d3 : Value) (wX : World) : Prop := TabAt wX b l v ∧ Only (Foot b v) w wX ∧ w.heap.size < wX.heap.size ∧
  wX.cell? ⟨w.heap.size, 0, none⟩ = some d0 ∧ wX.cell? ⟨w.heap.size, 1, none⟩ = some d1 ∧ wX.cell? ⟨w.heap.size, 2, none⟩ = some d2 ∧ wX.cell? ⟨w.heap.size, 3, none⟩ = some d3
theorem mid_of {w w3 : World} {b : Nat} {l : Lk.L} {v d0 d1 d2 d3 : Value} (h : TabAt w3 b l v) (ho : Only (Foot b v) w w3) (hs : w3.heap.size = w.heap.size) (t : TypeId) (o : Obj) (n : Nat) : Mid w b l v d0 d1 d2 d3 (((w3.alloc (.cells #[d0, d1, d2, d3] t)).alloc o).drewN n) := by
  refine ⟨((h.alloc _).alloc _).drewN n, ((ho.alloc _).alloc _).drewN n, by simp [hs]; omega, ?_, ?_, ?_, ?_⟩
  all_goals
    show ((w3.alloc (.cells #[d0, d1, d2, d3] t)).alloc o).cell? _ = _
    rw [World.cell?_alloc_lt _ _ _ (by simp [hs]), ← hs, World.cell?_alloc_new]
    rfl
theorem Mid.st {w wX wY : World} {b : Nat} {l l' : Lk.L} {v d0 d1 d2 d3 : Value} (h : Mid w b l v d0 d1 d2 d3 wX) (h' : TabAt wY b l' v) (ho : Only (fun k => k = b) wX wY) (hb : b < w.heap.size) : Mid w b l' v d0 d1 d2 d3 wY := by
  obtain ⟨h1, h2, h3, h4, h5, h6, h7⟩ := h
  have hn : ∀ j, wY.cell? ⟨w.heap.size, j, none⟩ = wX.cell? ⟨w.heap.size, j, none⟩ := fun j => ho.cell (p := ⟨w.heap.size, j, none⟩) h3 (by show w.heap.size ≠ b; omega)
  exact ⟨h', h2.trans ho (fun k hk => .inl (.inl hk)), Nat.lt_of_lt_of_le h3 ho.size, (hn 0).trans h4, (hn 1).trans h5, (hn 2).trans h6, (hn 3).trans h7⟩
theorem Mid.to {w wX : World} {b : Nat} {l : Lk.L} {v d0 d1 d2 d3 : Value} (h : Mid w b l v d0 d1 d2 d3 wX) : TabTo w b v l wX := ⟨v, h.1, h.2.1, fun _ hk => .inl hk⟩

set_option maxRecDepth 20000 in
set_option maxHeartbeats 2000000 in
theorem ldo_share_yes (l : Lk.L) (tx it : Nat) (wt : Int) (b : Nat) (v : Value) (w : World) (h : TabAt w b l v) (hI : Lk.Inv l) (a1 : tx < 5) (a2 : it < 4) (hs : l.shr.testBit tx = false) (hb : Lk.blk l tx it 0 = 0) :
    Calls Tryd.prog 34 #[.pointer (some ⟨b, 0, none⟩), .agg #[.int .i64 0, nv tx, nv it, iv wt]] w fun e w' => e = .returned .nilIface ∧ TabTo w b v { l with wants := l.wants.set tx none, rdr := l.rdr.set it (l.rdr.getD it 0 ||| 2 ^ tx) } w' := by
  have hr32 : l.rdr.getD it 0 < 32 := hI.2.2.2.2.1 it
  have hw5 : l.wtr.getD it 0 ≤ 5 := hI.2.2.2.2.2.1 it
  have hs32 : l.shr < 32 := hI.2.2.2.1
  have hl24 : l.acts.length ≤ 24 := hI.2.2.2.2.2.2.1
  obtain ⟨A, cap, rfl⟩ := Rd.val h.2.acts
  rw [Sch.length_zacts] at h ⊢
  have H := Lib.hid h
  have HB := h.1.lt
  have h0 := (h.alloc (.cells #[.int .i64 0, nv tx, nv it, iv wt] 49)).alloc (.cells #[.int .i64 0, nv tx, nv it, iv wt] 49)
  have hin := Lib.hid fun w5 => (show Calls Tryd.prog 67 #[.agg #[.int .i64 0, nv tx, nv it, iv wt]] w5 (fun e w' => e = .returned (.bool true) ∧ w5.alloc (.cells #[.int .i64 0, nv tx, nv it, iv wt] 49) = w') from in_any 0 tx it wt w5 (by decide) (by omega) (by omega) (fun h => absurd h (by decide)))
  have i1 : (0 : Int) ≤ (tx : Int) := by omega
  have i2 : (tx : Int) < 5 := by omega
  have i3 : (0 : Int) ≤ (it : Int) := by omega
  have i4 : (it : Int) < 4 := by omega
  have g1 := h0.shr
  have g2 := h0.acts
  have g3 := h0.wr a2
  have g4 := h0.rd a2
  have hand := bits_and_shl l.shr tx (by omega) (by omega)
  rw [and_pow, hs, if_neg (by decide)] at hand
  have hblk := Lib.hid fun w5 (hw5 : TabAt w5 b l (.slice A l.acts.length cap)) => (show Calls Tryd.prog 68 #[.pointer (some ⟨b, 0, none⟩), nv tx, nv it, .int .i64 0] w5 (fun e w' => e = .returned (.int .i64 0) ∧ w5 = w') from by
    have := blk_calls l b _ w5 tx it 0 hw5 hI a1 a2 (by decide)
    rw [hb] at this
    exact this)
  have HT := Lib.hid h0
  have q0 := h.want a1 (j := 0) (by decide)
  have q1 := h.want a1 (j := 1) (by decide)
  have q2 := h.want a1 (j := 2) (by decide)
  rw [Nat.add_zero] at q0
  have q0' := h0.want a1 (j := 0) (by decide)
  rw [Nat.add_zero] at q0'
  have z0 := h.1.frozen (9 + tx * 3)
  have z1 := h.1.frozen (9 + tx * 3 + 1)
  have z2 := h.1.frozen (9 + tx * 3 + 2)
  have z0' := h0.1.frozen (9 + tx * 3)
  generalize wcell (l.wants.getD tx none) 0 = v0 at *
  generalize wcell (l.wants.getD tx none) 1 = v1 at *
  generalize wcell (l.wants.getD tx none) 2 = v2 at *
  have hI1 := hI.1
  have hI2 := hI.2.1
  have HM := Lib.hid (show Mid w b { l with wants := l.wants.set tx none } (.slice A l.acts.length cap) (.int .i64 0) (nv tx) (nv it) (iv wt) (((((w.setCell ⟨b, 9 + tx * 3, none⟩ (.int .i64 0)).setCell ⟨b, 9 + tx * 3 + 1, none⟩ (.int .i64 0)).setCell ⟨b, 9 + tx * 3 + 2, none⟩ (.bool false)).alloc (.cells #[.int .i64 0, nv tx, nv it, iv wt] 49)).alloc (.cells #[.int .i64 0, nv tx, nv it, iv wt] 49)).drew from
    mid_of (h.wantSet hI.2.2.1 a1 none) ((((Only.refl _ w).setCell (.inl (.inl rfl)) _).setCell (.inl (.inl rfl)) _).setCell (.inl (.inl rfl)) _) (by simp) _ _ 1)
  have hor := bits_or_shl (l.rdr.getD it 0) tx (by omega) (by omega)
  generalize hrv : l.rdr.getD it 0 = rv at *
  have HRV := Lib.hid hrv
  clear hrv
  generalize l.shr = sh at *
  clear h h0 hI hs hb
  go_enter Tryd.func34, Tryd.ntmps34
  go_wp2_with fail
  (with_reducible refine (hin.out _).mono ?_)
  rintro e w5 ⟨rfl, rfl⟩
  clear hin
  go_wp2_with fail
  (with_reducible refine (hblk.out _ HT.out).mono ?_)
  rintro e w6 ⟨rfl, rfl⟩
  clear hblk
  go_wp2_with fail
  go_region
  generalize (((((w.setCell ⟨b, 9 + tx * 3, none⟩ (.int .i64 0)).setCell ⟨b, 9 + tx * 3 + 1, none⟩ (.int .i64 0)).setCell ⟨b, 9 + tx * 3 + 2, none⟩ (.bool false)).alloc (.cells #[.int .i64 0, nv tx, nv it, iv wt] 49)).alloc (.cells #[.int .i64 0, nv tx, nv it, iv wt] 49)).drew = wX at *
  clear q0 q1 q2 q0' z0 z1 z2 z0' g1 g2 g3 g4 HT
  obtain ⟨m1, m2, m3, m4, m5, m6, m7⟩ := HM.out
  have r1 : wX.cell? ⟨b, it, none⟩ = some (nv rv) := by rw [← HRV.out]; exact m1.rd a2
  have s1 := m1.1.frozen (it)
  have HS1 := Lib.hid fun n => HM.out.st ((m1.drewN n).rdSet hI1 a2 (rv ||| 2 ^ tx)) (((Only.refl (fun k => k = b) wX).drewN n).setCell (.inl rfl) _) HB
  clear m1 m2 m3 hI1 hI2
  go_wp2_with fail
  go_region
  all_goals
    go_wp2_with fail
    go_ret
    refine ⟨rfl, ?_⟩
    first | exact (HS1.out 1).to | exact (HS1.out 0).to | exact (HS1.out _).to | trace_state

set_option maxRecDepth 20000 in
set_option maxHeartbeats 2000000 in
theorem ldo_own_yes (l : Lk.L) (tx it : Nat) (wt : Int) (b : Nat) (v : Value) (w : World) (h : TabAt w b l v) (hI : Lk.Inv l) (a1 : tx < 5) (a2 : it < 4) (hs : l.shr.testBit tx = false) (hb : Lk.blk l tx it 1 = 0) :
    Calls Tryd.prog 34 #[.pointer (some ⟨b, 0, none⟩), .agg #[.int .i64 1, nv tx, nv it, iv wt]] w fun e w' => e = .returned .nilIface ∧ TabTo w b v { l with wants := l.wants.set tx none, wtr := l.wtr.set it (tx + 1) } w' := by
  have hr32 : l.rdr.getD it 0 < 32 := hI.2.2.2.2.1 it
  have hw5 : l.wtr.getD it 0 ≤ 5 := hI.2.2.2.2.2.1 it
  have hs32 : l.shr < 32 := hI.2.2.2.1
  have hl24 : l.acts.length ≤ 24 := hI.2.2.2.2.2.2.1
  obtain ⟨A, cap, rfl⟩ := Rd.val h.2.acts
  rw [Sch.length_zacts] at h ⊢
  have H := Lib.hid h
  have HB := h.1.lt
  have h0 := (h.alloc (.cells #[.int .i64 1, nv tx, nv it, iv wt] 49)).alloc (.cells #[.int .i64 1, nv tx, nv it, iv wt] 49)
  have hin := Lib.hid fun w5 => (show Calls Tryd.prog 67 #[.agg #[.int .i64 1, nv tx, nv it, iv wt]] w5 (fun e w' => e = .returned (.bool true) ∧ w5.alloc (.cells #[.int .i64 1, nv tx, nv it, iv wt] 49) = w') from in_any 1 tx it wt w5 (by decide) (by omega) (by omega) (fun h => absurd h (by decide)))
  have i1 : (0 : Int) ≤ (tx : Int) := by omega
  have i2 : (tx : Int) < 5 := by omega
  have i3 : (0 : Int) ≤ (it : Int) := by omega
  have i4 : (it : Int) < 4 := by omega
  have g1 := h0.shr
  have g2 := h0.acts
  have g3 := h0.wr a2
  have g4 := h0.rd a2
  have hand := bits_and_shl l.shr tx (by omega) (by omega)
  rw [and_pow, hs, if_neg (by decide)] at hand
  have hblk := Lib.hid fun w5 (hw5 : TabAt w5 b l (.slice A l.acts.length cap)) => (show Calls Tryd.prog 68 #[.pointer (some ⟨b, 0, none⟩), nv tx, nv it, .int .i64 1] w5 (fun e w' => e = .returned (.int .i64 0) ∧ w5 = w') from by
    have := blk_calls l b _ w5 tx it 1 hw5 hI a1 a2 (by decide)
    rw [hb] at this
    exact this)
  have HT := Lib.hid h0
  have q0 := h.want a1 (j := 0) (by decide)
  have q1 := h.want a1 (j := 1) (by decide)
  have q2 := h.want a1 (j := 2) (by decide)
  rw [Nat.add_zero] at q0
  have q0' := h0.want a1 (j := 0) (by decide)
  rw [Nat.add_zero] at q0'
  have z0 := h.1.frozen (9 + tx * 3)
  have z1 := h.1.frozen (9 + tx * 3 + 1)
  have z2 := h.1.frozen (9 + tx * 3 + 2)
  have z0' := h0.1.frozen (9 + tx * 3)
  generalize wcell (l.wants.getD tx none) 0 = v0 at *
  generalize wcell (l.wants.getD tx none) 1 = v1 at *
  generalize wcell (l.wants.getD tx none) 2 = v2 at *
  have hI1 := hI.1
  have hI2 := hI.2.1
  have HM := Lib.hid (show Mid w b { l with wants := l.wants.set tx none } (.slice A l.acts.length cap) (.int .i64 1) (nv tx) (nv it) (iv wt) (((((w.setCell ⟨b, 9 + tx * 3, none⟩ (.int .i64 0)).setCell ⟨b, 9 + tx * 3 + 1, none⟩ (.int .i64 0)).setCell ⟨b, 9 + tx * 3 + 2, none⟩ (.bool false)).alloc (.cells #[.int .i64 1, nv tx, nv it, iv wt] 49)).alloc (.cells #[.int .i64 1, nv tx, nv it, iv wt] 49)).drew from
    mid_of (h.wantSet hI.2.2.1 a1 none) ((((Only.refl _ w).setCell (.inl (.inl rfl)) _).setCell (.inl (.inl rfl)) _).setCell (.inl (.inl rfl)) _) (by simp) _ _ 1)
  generalize l.shr = sh at *
  clear h h0 hI hs hb
  go_enter Tryd.func34, Tryd.ntmps34
  go_wp2_with fail
  (with_reducible refine (hin.out _).mono ?_)
  rintro e w5 ⟨rfl, rfl⟩
  clear hin
  go_wp2_with fail
  (with_reducible refine (hblk.out _ HT.out).mono ?_)
  rintro e w6 ⟨rfl, rfl⟩
  clear hblk
  go_wp2_with fail
  go_region
  generalize (((((w.setCell ⟨b, 9 + tx * 3, none⟩ (.int .i64 0)).setCell ⟨b, 9 + tx * 3 + 1, none⟩ (.int .i64 0)).setCell ⟨b, 9 + tx * 3 + 2, none⟩ (.bool false)).alloc (.cells #[.int .i64 1, nv tx, nv it, iv wt] 49)).alloc (.cells #[.int .i64 1, nv tx, nv it, iv wt] 49)).drew = wX at *
  clear q0 q1 q2 q0' z0 z1 z2 z0' g1 g2 g3 g4 HT
  obtain ⟨m1, m2, m3, m4, m5, m6, m7⟩ := HM.out
  have r1 : wX.cell? ⟨b, 4 + it, none⟩ = some (nv (l.wtr.getD it 0)) := m1.wr a2
  have s1 := m1.1.frozen (4 + it)
  have HS1 := Lib.hid fun n => HM.out.st ((m1.drewN n).wrSet hI2 a2 (tx + 1)) (((Only.refl (fun k => k = b) wX).drewN n).setCell (.inl rfl) _) HB
  clear m1 m2 m3 hI1 hI2
  go_wp2_with fail
  go_region
  all_goals
    go_wp2_with fail
    go_ret
    refine ⟨rfl, ?_⟩
    first | exact (HS1.out 1).to | exact (HS1.out 0).to | exact (HS1.out _).to | trace_state

end Go.Proofs.YtkindaadadggoaaDoor
