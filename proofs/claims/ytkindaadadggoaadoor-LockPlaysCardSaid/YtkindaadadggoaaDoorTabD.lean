/- Contracts of lock's Do: a lock. Conditions: each contract's own premises. (Printed by wip/gen/lockdo.py.) -/
import Derived.Test.YtkindaadadggoaaDoorTabIn
import Derived.Deep.RegionLaw
import Derived.Deep.AppendLies
namespace Go.Proofs.YtkindaadadggoaaDoor
open Go.RowKit

set_option maxRecDepth 20000 in
set_option maxHeartbeats 2000000 in
theorem ldo_share_shr (l : Lk.L) (tx it : Nat) (wt : Int) (b : Nat) (v : Value) (w : World) (h : TabAt w b l v) (hI : Lk.Inv l) (a1 : tx < 5) (a2 : it < 4) (hs : l.shr.testBit tx = true) :
    Calls Tryd.prog 34 #[.pointer (some ⟨b, 0, none⟩), .agg #[.int .i64 0, nv tx, nv it, iv wt]] w fun e w' => e = .returned (.iface 93 (.int .i64 7)) ∧ TabTo w b v l w' := by
  have hr32 : l.rdr.getD it 0 < 32 := hI.2.2.2.2.1 it
  have hw5 : l.wtr.getD it 0 ≤ 5 := hI.2.2.2.2.2.1 it
  have hs32 : l.shr < 32 := hI.2.2.2.1
  have hl24 : l.acts.length ≤ 24 := hI.2.2.2.2.2.2.1
  obtain ⟨A, cap, rfl⟩ := Rd.val h.2.acts
  rw [Sch.length_zacts] at h ⊢
  have H := Lib.hid h
  have HB := h.1.lt
  have h0 := (h.alloc (.cells #[.int .i64 0, nv tx, nv it, iv wt] 49)).alloc (.cells #[.int .i64 0, nv tx, nv it, iv wt] 49)
  have hin := Lib.hid fun w5 => (show Calls Tryd.prog 67 #[.agg #[.int .i64 0, nv tx, nv it, iv wt]] w5 (fun e w' => e = .returned (.bool true) ∧ w5.alloc (.cells #[.int .i64 0, nv tx, nv it, iv wt] 49) = w') from in_any 0 tx it wt w5 (by decide) (by omega) (by omega) (fun h => absurd h (by decide)))
  have i1 : (0 : Int) ≤ (tx : Int) := by omega
  have i2 : (tx : Int) < 5 := by omega
  have i3 : (0 : Int) ≤ (it : Int) := by omega
  have i4 : (it : Int) < 4 := by omega
  have g1 := h0.shr
  have g2 := h0.acts
  have g3 := h0.wr a2
  have g4 := h0.rd a2
  have hand := bits_and_shl l.shr tx (by omega) (by omega)
  rw [and_pow, hs, if_pos rfl] at hand
  have hp : (((2 ^ tx : Nat) : Int) != 0) = true := by have := Nat.two_pow_pos tx; generalize 2 ^ tx = p at *; simp; omega
  generalize l.shr = sh at *
  generalize 2 ^ tx = p at *
  clear h h0 hI hs
  go_enter Tryd.func34, Tryd.ntmps34
  go_wp2_with fail
  (with_reducible refine (hin.out _).mono ?_)
  rintro e w5 ⟨rfl, rfl⟩
  clear hin
  go_wp2_with fail

  go_ret
  exact ⟨rfl, by first | exact TabTo.same H.out _ _ 0 | exact TabTo.same H.out _ _ _⟩

set_option maxRecDepth 20000 in
set_option maxHeartbeats 2000000 in
theorem ldo_share_blk (l : Lk.L) (tx it : Nat) (wt : Int) (b : Nat) (v : Value) (w : World) (h : TabAt w b l v) (hI : Lk.Inv l) (a1 : tx < 5) (a2 : it < 4) (hs : l.shr.testBit tx = false) (hb : Lk.blk l tx it 0 ≠ 0) :
    Calls Tryd.prog 34 #[.pointer (some ⟨b, 0, none⟩), .agg #[.int .i64 0, nv tx, nv it, iv wt]] w fun e w' => e = .returned (.iface 93 (.int .i64 6)) ∧ TabTo w b v { l with wants := l.wants.set tx (some (it, 0)) } w' := by
  have hr32 : l.rdr.getD it 0 < 32 := hI.2.2.2.2.1 it
  have hw5 : l.wtr.getD it 0 ≤ 5 := hI.2.2.2.2.2.1 it
  have hs32 : l.shr < 32 := hI.2.2.2.1
  have hl24 : l.acts.length ≤ 24 := hI.2.2.2.2.2.2.1
  obtain ⟨A, cap, rfl⟩ := Rd.val h.2.acts
  rw [Sch.length_zacts] at h ⊢
  have H := Lib.hid h
  have HB := h.1.lt
  have h0 := (h.alloc (.cells #[.int .i64 0, nv tx, nv it, iv wt] 49)).alloc (.cells #[.int .i64 0, nv tx, nv it, iv wt] 49)
  have hin := Lib.hid fun w5 => (show Calls Tryd.prog 67 #[.agg #[.int .i64 0, nv tx, nv it, iv wt]] w5 (fun e w' => e = .returned (.bool true) ∧ w5.alloc (.cells #[.int .i64 0, nv tx, nv it, iv wt] 49) = w') from in_any 0 tx it wt w5 (by decide) (by omega) (by omega) (fun h => absurd h (by decide)))
  have i1 : (0 : Int) ≤ (tx : Int) := by omega
  have i2 : (tx : Int) < 5 := by omega
  have i3 : (0 : Int) ≤ (it : Int) := by omega
  have i4 : (it : Int) < 4 := by omega
  have g1 := h0.shr
  have g2 := h0.acts
  have g3 := h0.wr a2
  have g4 := h0.rd a2
  have hand := bits_and_shl l.shr tx (by omega) (by omega)
  rw [and_pow, hs, if_neg (by decide)] at hand
  have hblk := Lib.hid fun w5 (hw5 : TabAt w5 b l (.slice A l.acts.length cap)) => (show Calls Tryd.prog 68 #[.pointer (some ⟨b, 0, none⟩), nv tx, nv it, .int .i64 0] w5 (fun e w' => e = .returned (nv (Lk.blk l tx it 0)) ∧ w5 = w') from blk_calls l b _ w5 tx it 0 hw5 hI a1 a2 (by decide))
  have HT := Lib.hid h0
  have hne : (((Lk.blk l tx it 0 : Nat) : Int) != 0) = true := by simpa using hb
  generalize Lk.blk l tx it 0 = bk at *
  have q0 := h.want a1 (j := 0) (by decide)
  have q1 := h.want a1 (j := 1) (by decide)
  have q2 := h.want a1 (j := 2) (by decide)
  rw [Nat.add_zero] at q0
  have q0' := h0.want a1 (j := 0) (by decide)
  rw [Nat.add_zero] at q0'
  have z0 := h.1.frozen (9 + tx * 3)
  have z1 := h.1.frozen (9 + tx * 3 + 1)
  have z2 := h.1.frozen (9 + tx * 3 + 2)
  have z0' := h0.1.frozen (9 + tx * 3)
  generalize wcell (l.wants.getD tx none) 0 = v0 at *
  generalize wcell (l.wants.getD tx none) 1 = v1 at *
  generalize wcell (l.wants.getD tx none) 2 = v2 at *
  have HS := Lib.hid (h.wantSet hI.2.2.1 a1 (some (it, 0)))
  generalize l.shr = sh at *
  clear h h0 hI hs hb
  go_enter Tryd.func34, Tryd.ntmps34
  go_wp2_with fail
  (with_reducible refine (hin.out _).mono ?_)
  rintro e w5 ⟨rfl, rfl⟩
  clear hin
  go_wp2_with fail
  (with_reducible refine (hblk.out _ HT.out).mono ?_)
  rintro e w6 ⟨rfl, rfl⟩
  clear hblk
  go_wp2_with fail
  go_region
  all_goals
    go_wp2_with fail
    go_ret
    exact ⟨rfl, _, ((HS.out.alloc _).alloc _).drewN _, (((((((Only.refl _ w).setCell (.inl (.inl rfl)) _).setCell (.inl (.inl rfl)) _).setCell (.inl (.inl rfl)) _).alloc _).alloc _).drewN _), fun _ hk => .inl hk⟩

set_option maxRecDepth 20000 in
set_option maxHeartbeats 2000000 in
theorem ldo_own_shr (l : Lk.L) (tx it : Nat) (wt : Int) (b : Nat) (v : Value) (w : World) (h : TabAt w b l v) (hI : Lk.Inv l) (a1 : tx < 5) (a2 : it < 4) (hs : l.shr.testBit tx = true) :
    Calls Tryd.prog 34 #[.pointer (some ⟨b, 0, none⟩), .agg #[.int .i64 1, nv tx, nv it, iv wt]] w fun e w' => e = .returned (.iface 93 (.int .i64 7)) ∧ TabTo w b v l w' := by
  have hr32 : l.rdr.getD it 0 < 32 := hI.2.2.2.2.1 it
  have hw5 : l.wtr.getD it 0 ≤ 5 := hI.2.2.2.2.2.1 it
  have hs32 : l.shr < 32 := hI.2.2.2.1
  have hl24 : l.acts.length ≤ 24 := hI.2.2.2.2.2.2.1
  obtain ⟨A, cap, rfl⟩ := Rd.val h.2.acts
  rw [Sch.length_zacts] at h ⊢
  have H := Lib.hid h
  have HB := h.1.lt
  have h0 := (h.alloc (.cells #[.int .i64 1, nv tx, nv it, iv wt] 49)).alloc (.cells #[.int .i64 1, nv tx, nv it, iv wt] 49)
  have hin := Lib.hid fun w5 => (show Calls Tryd.prog 67 #[.agg #[.int .i64 1, nv tx, nv it, iv wt]] w5 (fun e w' => e = .returned (.bool true) ∧ w5.alloc (.cells #[.int .i64 1, nv tx, nv it, iv wt] 49) = w') from in_any 1 tx it wt w5 (by decide) (by omega) (by omega) (fun h => absurd h (by decide)))
  have i1 : (0 : Int) ≤ (tx : Int) := by omega
  have i2 : (tx : Int) < 5 := by omega
  have i3 : (0 : Int) ≤ (it : Int) := by omega
  have i4 : (it : Int) < 4 := by omega
  have g1 := h0.shr
  have g2 := h0.acts
  have g3 := h0.wr a2
  have g4 := h0.rd a2
  have hand := bits_and_shl l.shr tx (by omega) (by omega)
  rw [and_pow, hs, if_pos rfl] at hand
  have hp : (((2 ^ tx : Nat) : Int) != 0) = true := by have := Nat.two_pow_pos tx; generalize 2 ^ tx = p at *; simp; omega
  generalize l.shr = sh at *
  generalize 2 ^ tx = p at *
  clear h h0 hI hs
  go_enter Tryd.func34, Tryd.ntmps34
  go_wp2_with fail
  (with_reducible refine (hin.out _).mono ?_)
  rintro e w5 ⟨rfl, rfl⟩
  clear hin
  go_wp2_with fail

  go_ret
  exact ⟨rfl, by first | exact TabTo.same H.out _ _ 0 | exact TabTo.same H.out _ _ _⟩

set_option maxRecDepth 20000 in
set_option maxHeartbeats 2000000 in
theorem ldo_own_blk (l : Lk.L) (tx it : Nat) (wt : Int) (b : Nat) (v : Value) (w : World) (h : TabAt w b l v) (hI : Lk.Inv l) (a1 : tx < 5) (a2 : it < 4) (hs : l.shr.testBit tx = false) (hb : Lk.blk l tx it 1 ≠ 0) :
    Calls Tryd.prog 34 #[.pointer (some ⟨b, 0, none⟩), .agg #[.int .i64 1, nv tx, nv it, iv wt]] w fun e w' => e = .returned (.iface 93 (.int .i64 6)) ∧ TabTo w b v { l with wants := l.wants.set tx (some (it, 1)) } w' := by
  have hr32 : l.rdr.getD it 0 < 32 := hI.2.2.2.2.1 it
  have hw5 : l.wtr.getD it 0 ≤ 5 := hI.2.2.2.2.2.1 it
  have hs32 : l.shr < 32 := hI.2.2.2.1
  have hl24 : l.acts.length ≤ 24 := hI.2.2.2.2.2.2.1
  obtain ⟨A, cap, rfl⟩ := Rd.val h.2.acts
  rw [Sch.length_zacts] at h ⊢
  have H := Lib.hid h
  have HB := h.1.lt
  have h0 := (h.alloc (.cells #[.int .i64 1, nv tx, nv it, iv wt] 49)).alloc (.cells #[.int .i64 1, nv tx, nv it, iv wt] 49)
  have hin := Lib.hid fun w5 => (show Calls Tryd.prog 67 #[.agg #[.int .i64 1, nv tx, nv it, iv wt]] w5 (fun e w' => e = .returned (.bool true) ∧ w5.alloc (.cells #[.int .i64 1, nv tx, nv it, iv wt] 49) = w') from in_any 1 tx it wt w5 (by decide) (by omega) (by omega) (fun h => absurd h (by decide)))
  have i1 : (0 : Int) ≤ (tx : Int) := by omega
  have i2 : (tx : Int) < 5 := by omega
  have i3 : (0 : Int) ≤ (it : Int) := by omega
  have i4 : (it : Int) < 4 := by omega
  have g1 := h0.shr
  have g2 := h0.acts
  have g3 := h0.wr a2
  have g4 := h0.rd a2
  have hand := bits_and_shl l.shr tx (by omega) (by omega)
  rw [and_pow, hs, if_neg (by decide)] at hand
  have hblk := Lib.hid fun w5 (hw5 : TabAt w5 b l (.slice A l.acts.length cap)) => (show Calls Tryd.prog 68 #[.pointer (some ⟨b, 0, none⟩), nv tx, nv it, .int .i64 1] w5 (fun e w' => e = .returned (nv (Lk.blk l tx it 1)) ∧ w5 = w') from blk_calls l b _ w5 tx it 1 hw5 hI a1 a2 (by decide))
  have HT := Lib.hid h0
  have hne : (((Lk.blk l tx it 1 : Nat) : Int) != 0) = true := by simpa using hb
  generalize Lk.blk l tx it 1 = bk at *
  have q0 := h.want a1 (j := 0) (by decide)
  have q1 := h.want a1 (j := 1) (by decide)
  have q2 := h.want a1 (j := 2) (by decide)
  rw [Nat.add_zero] at q0
  have q0' := h0.want a1 (j := 0) (by decide)
  rw [Nat.add_zero] at q0'
  have z0 := h.1.frozen (9 + tx * 3)
  have z1 := h.1.frozen (9 + tx * 3 + 1)
  have z2 := h.1.frozen (9 + tx * 3 + 2)
  have z0' := h0.1.frozen (9 + tx * 3)
  generalize wcell (l.wants.getD tx none) 0 = v0 at *
  generalize wcell (l.wants.getD tx none) 1 = v1 at *
  generalize wcell (l.wants.getD tx none) 2 = v2 at *
  have HS := Lib.hid (h.wantSet hI.2.2.1 a1 (some (it, 1)))
  generalize l.shr = sh at *
  clear h h0 hI hs hb
  go_enter Tryd.func34, Tryd.ntmps34
  go_wp2_with fail
  (with_reducible refine (hin.out _).mono ?_)
  rintro e w5 ⟨rfl, rfl⟩
  clear hin
  go_wp2_with fail
  (with_reducible refine (hblk.out _ HT.out).mono ?_)
  rintro e w6 ⟨rfl, rfl⟩
  clear hblk
  go_wp2_with fail
  go_region
  all_goals
    go_wp2_with fail
    go_ret
    exact ⟨rfl, _, ((HS.out.alloc _).alloc _).drewN _, (((((((Only.refl _ w).setCell (.inl (.inl rfl)) _).setCell (.inl (.inl rfl)) _).setCell (.inl (.inl rfl)) _).alloc _).alloc _).drewN _), fun _ hk => .inl hk⟩

end Go.Proofs.YtkindaadadggoaaDoor
