/- Contract of the reference's Lock where a lock is granted, and at every deed. Conditions: the contract's own premises. -/
import Derived.Test.YtkindaadadggoaaDoorRLockL
import Derived.Deep.RegionWith
import Derived.Handy
namespace Go.Proofs.YtkindaadadggoaaDoor
open Go.RowKit

set_option maxRecDepth 20000 in
set_option maxHeartbeats 8000000 in
theorem rlock_0 (l : Lk.L) (k tx it : Nat) (u : Int) (A1 A2 A3 : Option Addr) (n1 n2 n3 : Nat) (w : World) (hI : Lk.Inv l) (a1 : tx < 5) (a2 : it < 4) (hr : Ints w w.heap.size (.slice A1 20 n1) (zs (Lk.holds l))) (hu : Ints w w.heap.size (.slice A2 5 n2) (Lk.wantsI l)) (ha : Acts w w.heap.size (.slice A3 l.acts.length n3) (Sch.zacts l.acts)) (hk : k < 2) (wt : Nat) (hs : l.shr.testBit tx = false) (hb : Lk.blk l tx it k = 0) :
    Calls Tryd.prog 40 #[.agg #[.slice A1 20 n1, .slice A2 5 n2, nv l.shr, .slice A3 l.acts.length n3], .agg #[.int .i64 (k : Int), .int .i64 (tx : Int), .int .i64 (it : Int), .int .i64 u]] w fun e w' => LAns w w' e l (Lk.lockOf l (k, tx, it, wt)) 0 A1 A2 A3 n1 n2 n3 := by
  have c1 := Lib.hid fun w5 : World => rin_calls (k : Int) 0 3 w5
  have c2 := Lib.hid fun w5 : World => rin_calls (tx : Int) 0 4 w5
  have c3 := Lib.hid fun w5 : World => rin_calls (it : Int) 0 3 w5
  have c4 := Lib.hid fun w5 : World => rin_calls u 0 1 w5
  rw [decide_eq_true (show ((0 : Int) ≤ (k : Int) ∧ (k : Int) ≤ 3) by omega)] at c1
  rw [decide_eq_true (show ((0 : Int) ≤ (tx : Int) ∧ (tx : Int) ≤ 4) by omega)] at c2
  rw [decide_eq_true (show ((0 : Int) ≤ (it : Int) ∧ (it : Int) ≤ 3) by omega)] at c3
  have t1 : ((k : Int) == 3) = false := by simp; omega
  have t2 : decide ((k : Int) ≤ 1) = true := by simp; omega
  have c5 := Lib.hid fun w5 : World => bit_calls l.shr tx w5 (by have := hI.2.2.2.1; omega) (by omega)
  rw [hs] at c5
  clear hs
  have hag := Lib.hid fun (w5 : World) (B : Nat) (hB : B ≤ w5.heap.size) (h5 : Ints w5 B (.slice A1 20 n1) (zs (Lk.holds l))) => against_calls l tx it k (.slice A1 20 n1) (.slice A2 5 n2) (.slice A3 l.acts.length n3) B w5 hB h5 a2 hk
  rw [Lk.against_blk hI, show decide (k = 1) = ((k : Int) == 1) by rw [Bool.eq_iff_iff]; simp; omega] at hag
  have t3 : (((Lk.blk l tx it k : Nat) : Int) != 0) = false := by simp; omega
  have hpt := Lib.hid fun (w5 : World) (h5 : Below w.heap.size w w5) => put_calls (Lk.wantsI l) tx (-1) (.slice A2 5 n2) w.heap.size w5 (Rd.below hu h5) (by rw [Lk.length_wantsI]; exact a1) (by rw [Lk.length_wantsI]; omega)
  have hph := Lib.hid fun (w5 : World) (h5 : Below w.heap.size w w5) => put_calls (zs (Lk.holds l)) (tx * 4 + it) ((Lk.hold l tx it ||| 2 ^ k : Nat) : Int) (.slice A1 20 n1) w.heap.size w5 (Rd.below hr h5) (by rw [length_zs, Lk.length_holds]; omega) (by rw [length_zs, Lk.length_holds]; omega)
  rw [show nv (tx * 4 + it) = Value.int .i64 ((tx : Int) * 4 + (it : Int)) by show Value.int .i64 ((tx * 4 + it : Nat) : Int) = _; rw [show ((tx * 4 + it : Nat) : Int) = (tx : Int) * 4 + (it : Int) by omega]] at hph
  have hwt := Lib.hid fun w5 : World => with_any (Lk.hold l tx it) k w5 (by have := Lk.hold_lt l tx it; omega) (by omega)
  have hws : (Lk.lockOf l (k, tx, it, wt)).wants = l.wants.set tx none := by unfold Lk.lockOf; split <;> rfl
  have hsh : (Lk.lockOf l (k, tx, it, wt)).shr = l.shr := by unfold Lk.lockOf; split <;> rfl
  have hac : (Lk.lockOf l (k, tx, it, wt)).acts = l.acts := by unfold Lk.lockOf; split <;> rfl
  have HWS := Lib.hid (show (Lk.wantsI l).set tx (-1) = Lk.wantsI (Lk.lockOf l (k, tx, it, wt)) by
    rw [Lk.wants_set (l := l) (l' := Lk.lockOf l (k, tx, it, wt)) hI.2.2.1 a1 none hws]
    rfl)
  have HHS := Lib.hid (show zs (Lk.holds (Lk.lockOf l (k, tx, it, wt))) = (zs (Lk.holds l)).set (tx * 4 + it) ((Lk.hold l tx it ||| 2 ^ k : Nat) : Int) by
    by_cases hw3 : k = 3
    · omega
    · rw [show Lk.lockOf l (k, tx, it, wt) = Lk.lockOf l (k, tx, it, 0) from rfl, Lk.holds_lock hI (d := (k, tx, it, 0)) ⟨by simp only; omega, a1, a2, by simp⟩ hk hb]
      simp [zs, List.map_set])
  have HAC := Lib.hid hac
  have HSH := Lib.hid hsh
  clear hws hac hsh
  generalize Lk.lockOf l (k, tx, it, wt) = l' at *
  generalize Lk.blk l tx it k = S at *
  generalize Lk.hold l tx it ||| 2 ^ k = hn at *
  clear hb
  have hlh := Lk.length_holds l
  have HG := Lib.hid (Lk.getD_holds l a1 a2)
  have hh4 := Lk.hold_lt l tx it
  have HR := Lib.hid hr
  have HU := Lib.hid hu
  have HA := Lib.hid ha
  have HI := Lib.hid hI
  clear hr hu ha hI
  go_enter Tryd.func40, Tryd.ntmps40
  go_wp2_with fail
  have HLB := Lib.hid (Lb.new w (.slice A1 20 n1) (.slice A2 5 n2) l.shr (.slice A3 l.acts.length n3) (k : Int) (tx : Int) (it : Int) u 62 49 62)
  have HBB := Lib.hid (((Below.refl w.heap.size w).alloc (Nat.le_refl _) (.cells #[.slice A1 20 n1, .slice A2 5 n2, nv l.shr, .slice A3 l.acts.length n3] 62)).alloc (by simp) (.cells #[iv (k : Int), iv (tx : Int), iv (it : Int), iv u] 49) |>.alloc (by simp; omega) (.cells #[.slice none 0 0, .slice none 0 0, .int .i64 0, .slice none 0 0] 62))
  have HW := Lib.hid (show (((w.alloc (.cells #[.slice A1 20 n1, .slice A2 5 n2, nv l.shr, .slice A3 l.acts.length n3] 62)).alloc (.cells #[iv (k : Int), iv (tx : Int), iv (it : Int), iv u] 49)).alloc (.cells #[.slice none 0 0, .slice none 0 0, .int .i64 0, .slice none 0 0] 62)).heap.size = w.heap.size + 3 by simp)
  generalize hW : ((w.alloc (.cells #[.slice A1 20 n1, .slice A2 5 n2, nv l.shr, .slice A3 l.acts.length n3] 62)).alloc (.cells #[iv (k : Int), iv (tx : Int), iv (it : Int), iv u] 49)).alloc (.cells #[.slice none 0 0, .slice none 0 0, .int .i64 0, .slice none 0 0] 62) = W at *
  clear hW
  obtain ⟨_, _, _, c0, c1', c2', c3', f0, f1, f2, f3, d0, d1, d2, d3, b0, b1, b2, b3, z0, z1, z2, z3⟩ := HLB.out
  obtain ⟨bx, off, cx, he, hbx, dx⟩ := Ints.atN (Rd.below HR.out HBB.out) (k := tx * 4 + it) (by omega)
  rw [hlh] at he
  cases he
  rw [HG.out] at dx
  clear HG hlh
  generalize hHO : Lk.hold l tx it = h at *
  have HHO := Lib.hid hHO
  clear hHO
  have HRW := Lib.hid (show Ints W w.heap.size (.slice (some ⟨bx, off, none⟩) 20 n1) (zs (Lk.holds l)) from Rd.below HR.out HBB.out)
  have HSZ := Lib.hid (show w.heap.size ≤ W.heap.size from HBB.out.size)
  go_wp2_with (first | (go_at_call 69; first | ((with_reducible refine (c1.out _).mono ?_); rintro e w' ⟨rfl, rfl⟩) | ((with_reducible refine (c2.out _).mono ?_); rintro e w' ⟨rfl, rfl⟩) | ((with_reducible refine (c3.out _).mono ?_); rintro e w' ⟨rfl, rfl⟩) | ((with_reducible refine (c4.out _).mono ?_); rintro e w' ⟨rfl, rfl⟩)) | (go_at_call 29; (with_reducible refine (c5.out _).mono ?_); rintro e w' ⟨rfl, rfl⟩))
  (with_reducible refine (hag.out W w.heap.size HSZ.out HRW.out).mono ?_)
  rintro e w1 ⟨rfl, hb1⟩
  have HB1 := Lib.hid (HBB.out.trans (hb1.mono HBB.out.size))
  have HL1 := Lib.hid (HLB.out.below hb1)
  have HS1 := Lib.hid hb1.size
  clear c1 c2 c3 c4 c5 hag hb1 d0 d1 d2 d3 b0 b1 b2 b3 z0 z1 z2 z3 c0 c1' c2' c3' f0 f1 f2 f3 dx
  obtain ⟨_, _, _, c0, c1', c2', c3', f0, f1, f2, f3, d0, d1, d2, d3, b0, b1, b2, b3, z0, z1, z2, z3⟩ := HL1.out
  go_wp2_with fail
  (with_reducible refine (hpt.out w1 HB1.out).mono ?_)
  rintro e w2 ⟨v2, rfl, hown2, hb2⟩
  obtain ⟨A5, n5, he5⟩ := Rd.val hown2.ints
  rw [List.length_set, Lk.length_wantsI] at he5
  subst he5
  have HO2 := Lib.hid hown2
  have HB2 := Lib.hid (HB1.out.trans (hb2.mono HB1.out.size))
  have HL2 := Lib.hid (HL1.out.below hb2)
  have HS2 := Lib.hid (Nat.le_trans HS1.out hb2.size)
  have HS21 := Lib.hid (show w1.heap.size ≤ w2.heap.size from hb2.size)
  clear hpt hown2 hb2 d0 d1 d2 d3 b0 b1 b2 b3 z0 z1 z2 z3 c0 c1' c2' c3' f0 f1 f2 f3
  obtain ⟨_, _, _, c0, c1', c2', c3', f0, f1, f2, f3, d0, d1, d2, d3, b0, b1, b2, b3, z0, z1, z2, z3⟩ := HL2.out
  have HL3 := Lib.hid (HL2.out.set1 (by omega) (by omega) (.slice A5 5 n5))
  have HB3 := Lib.hid (HB2.out.setCell (p := ⟨w.heap.size, 1, none⟩) (Nat.le_refl _) (.slice A5 5 n5))
  have HO3 := Lib.hid (HO2.out.only ((Only.refl (fun j => j < w1.heap.size) w2).setCell (p := ⟨w.heap.size, 1, none⟩) (.inl (by have := HS1.out; have := HW.out; simp only; omega)) (.slice A5 5 n5)) (fun j hj hs => Nat.not_lt.2 (row_lt HO2.out j hj).1 hs))
  have HS3 := Lib.hid (show W.heap.size ≤ (w2.setCell ⟨w.heap.size, 1, none⟩ (.slice A5 5 n5)).heap.size by have := HS2.out; simpa using this)
  have HS31 := Lib.hid (show w1.heap.size ≤ (w2.setCell ⟨w.heap.size, 1, none⟩ (.slice A5 5 n5)).heap.size by have := HS21.out; simpa using this)
  go_wp2_with fail
  generalize w2.setCell ⟨w.heap.size, 1, none⟩ (.slice A5 5 n5) = W3 at *
  clear d0 d1 d2 d3 b0 b1 b2 b3 z0 z1 z2 z3 c0 c1' c2' c3' f0 f1 f2 f3
  obtain ⟨lq, lr, _, c0, c1', c2', c3', f0, f1, f2, f3, d0, d1, d2, d3, b0, b1, b2, b3, z0, z1, z2, z3⟩ := HL3.out
  go_region_with (first | (go_at_call 28; refine (hwt.out _).mono ?_; rintro e w5 ⟨rfl, rfl⟩) | (go_at_call 71; refine (hph.out W3.drew HB3.out.drew).mono ?_; rintro e w4 ⟨v4, rfl, hown4, hb4⟩; obtain ⟨A6, n6, he6⟩ := Rd.val hown4.ints; rw [List.length_set, length_zs, Lk.length_holds] at he6; subst he6; have hbz : Below W3.heap.size W3 w4 := (Below.refl W3.heap.size W3).drew.trans hb4; have f0' := (World.frozen?_of_block (hbz.block w.heap.size lq)).trans f0; have c0' := (hbz.cell (p := ⟨w.heap.size, 0, none⟩) lq).trans c0))
  all_goals
    have HL4 := Lib.hid (HL3.out.below hbz)
    have HO4 := Lib.hid (show Own w4 W3.heap.size (.slice A6 20 n6) _ from hown4)
    have HO5 := Lib.hid (HO3.out.kept hbz)
    have HB4 := Lib.hid (HB3.out.trans (hbz.mono HB3.out.size))
    have HS4 := Lib.hid (Nat.le_trans HS3.out hbz.size)
    have hS31 : w1.heap.size ≤ W3.heap.size := HS31.out
    clear hown4 hb4 hbz c0' f0' d0 d1 d2 d3 b0 b1 b2 b3 z0 z1 z2 z3 c0 c1' c2' c3' f0 f1 f2 f3 lq lr
    obtain ⟨_, _, _, c0, c1', c2', c3', f0, f1, f2, f3, d0, d1, d2, d3, b0, b1, b2, b3, z0, z1, z2, z3⟩ := HL4.out
    go_wp2_with fail
    (try simp only [Exit.inBlock, Exit.then])
    refine bodyPost_ret ((results_cell_tmp rfl _ _ _).trans (by simp [go_sem, b0, b1, b2, b3]; rfl)) rfl ?_
    have hWs := HW.out
    have hS4 := HS4.out
    have hS3 := HS3.out
    have hS1 := HS1.out
    have ho (m : Nat) (hm : W.heap.size ≤ m) := (((((Only.refl (fun j => j < m) w4).setCell (p := ⟨w.heap.size, 0, none⟩) (.inl (by simp only; omega)) (.slice A6 20 n6)).setCell (p := ⟨w.heap.size + 1 + 1, 0, none⟩) (.inl (by simp only; omega)) (.slice A6 20 n6)).setCell (p := ⟨w.heap.size + 1 + 1, 1, none⟩) (.inl (by simp only; omega)) (.slice A5 5 n5)).setCell (p := ⟨w.heap.size + 1 + 1, 2, none⟩) (.inl (by simp only; omega)) (nv l.shr)).setCell (p := ⟨w.heap.size + 1 + 1, 3, none⟩) (.inl (by simp only; omega)) (.slice A3 l.acts.length n3)
    refine ⟨A6, A5, A3, n6, n5, n3, by rw [HAC.out, HSH.out]; rfl, .inr ?_, .inr ?_, .inl ⟨by rw [HAC.out], by rw [HAC.out]⟩, ?_⟩
    · rw [HHS.out]
      exact Own.fin HO4.out (ho W3.heap.size (by omega)) (by omega)
    · rw [← HWS.out]
      exact Own.fin HO5.out (ho w1.heap.size (by omega)) (by omega)
    · exact ((((HB4.out.setCell (p := ⟨w.heap.size, 0, none⟩) (Nat.le_refl _) _).setCell (p := ⟨w.heap.size + 1 + 1, 0, none⟩) (by simp; omega) _).setCell (p := ⟨w.heap.size + 1 + 1, 1, none⟩) (by simp; omega) _).setCell (p := ⟨w.heap.size + 1 + 1, 2, none⟩) (by simp; omega) _).setCell (p := ⟨w.heap.size + 1 + 1, 3, none⟩) (by simp; omega) _
theorem rlock_calls (l : Lk.L) (d : Deed4) (A1 A2 A3 : Option Addr) (n1 n2 n3 : Nat) (w : World) (hI : Lk.Inv l) (hr : Ints w w.heap.size (.slice A1 20 n1) (zs (Lk.holds l))) (hu : Ints w w.heap.size (.slice A2 5 n2) (Lk.wantsI l)) (ha : Acts w w.heap.size (.slice A3 l.acts.length n3) (Sch.zacts l.acts)) :
    Calls Tryd.prog 40 #[.agg #[.slice A1 20 n1, .slice A2 5 n2, nv l.shr, .slice A3 l.acts.length n3], .agg #[iv d.1, iv d.2.1, iv d.2.2.1, iv d.2.2.2]] w fun e w' => LAns w w' e l (lstepI l d).1 (lstepI l d).2 A1 A2 A3 n1 n2 n3 := by
  obtain ⟨x, y, z, u⟩ := d
  unfold lstepI
  by_cases hok : deedOk (x, y, z, u)
  · rw [if_pos hok]
    obtain ⟨⟨h1, h2⟩, ⟨h3, h4⟩, ⟨h5, h6⟩, h7⟩ := hok
    simp only at h1 h2 h3 h4 h5 h6 h7
    obtain ⟨k, rfl⟩ := Int.eq_ofNat_of_zero_le h1
    obtain ⟨tx, rfl⟩ := Int.eq_ofNat_of_zero_le h3
    obtain ⟨it, rfl⟩ := Int.eq_ofNat_of_zero_le h5
    have a1 : tx < 5 := by omega
    have a2 : it < 4 := by omega
    simp only [Int.toNat_natCast]
    have hz := Lk.hold_zero l (k, tx, it, 0)
    by_cases hk : k < 2
    · rw [if_neg (show ¬ ((k : Int) = 3) by omega)]
      unfold Lk.lstep
      simp only
      rw [if_pos hk]
      by_cases hs : l.shr.testBit tx = true
      · rw [if_pos hs]
        exact rlock_7 l k tx it u A1 A2 A3 n1 n2 n3 w hI a1 a2 hr hu ha hk hs
      · rw [if_neg hs]
        have hs' : l.shr.testBit tx = false := by simpa using hs
        by_cases hb : Lk.blk l tx it k = 0
        · rw [if_neg (fun h => h hb)]
          exact rlock_0 l k tx it u A1 A2 A3 n1 n2 n3 w hI a1 a2 hr hu ha hk 0 hs' hb
        · rw [if_pos hb]
          exact rlock_6 l k tx it u A1 A2 A3 n1 n2 n3 w hI a1 a2 hr hu ha hk hs' hb
    · by_cases hk2 : k = 2
      · rw [if_neg (show ¬ ((k : Int) = 3) by omega)]
        unfold Lk.lstep
        simp only
        rw [if_neg hk, if_pos hk2]
        by_cases hh : Lk.hold l tx it = 0
        · rw [if_pos (show Lk.reads l (k, tx, it, 0) = false ∧ Lk.mine l (k, tx, it, 0) = false from hz.1 hh)]
          exact rlock_5a l k tx it u A1 A2 A3 n1 n2 n3 w hI a1 a2 hr hu ha hk2 hh
        · rw [if_neg (show ¬ (Lk.reads l (k, tx, it, 0) = false ∧ Lk.mine l (k, tx, it, 0) = false) from fun h => hh (hz.2 h))]
          exact rlock_free l k tx it u A1 A2 A3 n1 n2 n3 w hI a1 a2 hr hu ha hk2 hh
      · have hk3 : k = 3 := by omega
        obtain ⟨g1, g2⟩ := h7 (by omega)
        obtain ⟨wt, rfl⟩ := Int.eq_ofNat_of_zero_le g1
        have hw2 : wt < 2 := by omega
        rw [if_pos (show (k : Int) = 3 by omega), Int.toNat_natCast]
        unfold Lk.lstep
        simp only
        rw [if_neg hk, if_neg hk2]
        have hsh := Lk.hold_short l (k, tx, it, wt)
        simp only at hsh
        by_cases hh : Lk.hold l tx it = 0 ∨ (Lk.hold l tx it = 1 ∧ wt = 1)
        · rw [if_pos (hsh.1 hh)]
          exact rlock_5b l k tx it (wt : Int) A1 A2 A3 n1 n2 n3 w hI a1 a2 hr hu ha hk3 ⟨by omega, by omega⟩ (by omega)
        · rw [if_neg (fun h => hh (hsh.2 h))]
          by_cases hn : l.acts.length = 24
          · rw [if_pos hn]
            exact rlock_4 l k tx it (wt : Int) A1 A2 A3 n1 n2 n3 w hI a1 a2 hr hu ha hk3 ⟨by omega, by omega⟩ (by omega) (by omega)
          · rw [if_neg hn]
            exact rlock_do l k tx it (wt : Int) A1 A2 A3 n1 n2 n3 w hI a1 a2 hr hu ha hk3 wt (Lib.hid rfl) hw2 (by omega) (by have := hI.2.2.2.2.2.2.1; omega)
  · rw [if_neg hok]
    exact rlock_bad l x y z u A1 A2 A3 n1 n2 n3 w hok
end Go.Proofs.YtkindaadadggoaaDoor
