/- Contract of the reference's View: what it refuses. Conditions: the contract's own premises. (Printed by wip/gen/rview7.py.) -/
import Derived.Test.YtkindaadadggoaaDoorRView
namespace Go.Proofs.YtkindaadadggoaaDoor
open Go.RowKit

def refI (l : List Deed4V) (S : Nat) (x : Int) (X : Nat) : Prop := (x = 4 ∧ 0 ≤ whenI l X 4) ∨ (x ≠ 4 ∧ ¬ (0 ≤ whenI l X 4 ∧ whenI l X 5 < 0 ∧ S.testBit X = false))
theorem fin2 {W0 w : World} {B p : Nat} (hb : Below B W0 w) (hp : B ≤ p) (v1 v2 : Value) : Below B W0 ((w.setCell ⟨p, 0, none⟩ v1).setCell ⟨p, 1, none⟩ v2) :=
  (hb.setCell (p := ⟨p, 0, none⟩) hp _).setCell (p := ⟨p, 1, none⟩) hp _
set_option maxRecDepth 20000 in
set_option maxHeartbeats 8000000 in
theorem rview_7 (l : List Deed4V) (S : Nat) (x : Int) (X : Nat) (z u : Int) (A : Option Addr) (cap : Nat) (w : World) (hr : VDeeds w w.heap.size (.slice A l.length cap) l) (hok : ∀ d ∈ l, vokI d) (hl : l.length ≤ 1000) (hS : S < 32) (hv : vokI (x, (X : Int), z, u)) (href : refI l S x X) :
    Calls Tryd.prog 54 #[.agg #[.slice A l.length cap, nv S], .agg #[.int .i64 x, .int .i64 (X : Int), .int .i64 z, .int .i64 u]] w fun e w' => e = .returned (.tuple #[.agg #[.slice A l.length cap, nv S], .int .i64 0, .int .i64 7]) ∧ Below w.heap.size w w' := by
  have c1 := Lib.hid fun w5 : World => rin_calls x 3 5 w5
  have c2 := Lib.hid fun w5 : World => rin_calls (X : Int) 0 4 w5
  have c3 := Lib.hid fun w5 : World => rin_calls z 0 3 w5
  have c4 := Lib.hid fun w5 : World => rin_calls u 0 1 w5
  obtain ⟨o1, o2, o3⟩ := hv
  simp only at o1 o2 o3
  rw [decide_eq_true (show ((3 : Int) ≤ x ∧ x ≤ 5) from o1)] at c1
  rw [decide_eq_true (show ((0 : Int) ≤ (X : Int) ∧ (X : Int) ≤ 4) from o2)] at c2
  have hX : X < 5 := by omega
  have hc5 := Lib.hid (show ∀ w5 : World, Calls Tryd.prog 29 #[nv S, iv (X : Int)] w5 (fun e w' => e = .returned (.bool (S.testBit X)) ∧ w5 = w') from fun w5 => bit_calls S X w5 (by omega) (by omega))
  have h34 : ((x == 3) = true ∧ decide (0 ≤ z ∧ z ≤ 3) = true ∧ decide (0 ≤ u ∧ u ≤ 1) = true) ∨ (x == 3) = false := by
    by_cases e : x = 3
    · exact .inl ⟨by simpa using e, decide_eq_true (o3 e).1, decide_eq_true (o3 e).2⟩
    · exact .inr (by simpa using e)
  have hw4 := Lib.hid (show ∀ w5 : World, Below w.heap.size w w5 → Calls Tryd.prog 76 #[.agg #[.slice A l.length cap, nv S], iv (X : Int), .int .i64 4] w5 (fun e w' => e = .returned (iv (whenI l X 4)) ∧ Below w5.heap.size w5 w') from fun w5 h5 => when_calls l S X 4 (.slice A l.length cap) w5 ((Rd.below hr h5).more h5.size) hok hl)
  have hw5 := Lib.hid (show ∀ w5 : World, Below w.heap.size w w5 → Calls Tryd.prog 76 #[.agg #[.slice A l.length cap, nv S], iv (X : Int), .int .i64 5] w5 (fun e w' => e = .returned (iv (whenI l X 5)) ∧ Below w5.heap.size w5 w') from fun w5 h5 => when_calls l S X 5 (.slice A l.length cap) w5 ((Rd.below hr h5).more h5.size) hok hl)
  clear hr hok
  have hcase : ((x == 4) = true ∧ (x != 4) = false ∧ decide (0 ≤ whenI l X 4) = true ∧ decide (whenI l X 5 < 0) = false) ∨ ((x == 4) = true ∧ (x != 4) = false ∧ decide (0 ≤ whenI l X 4) = true ∧ decide (whenI l X 5 < 0) = true ∧ S.testBit X = true) ∨ ((x == 4) = true ∧ (x != 4) = false ∧ decide (0 ≤ whenI l X 4) = true ∧ decide (whenI l X 5 < 0) = true ∧ S.testBit X = false) ∨
      ((x == 4) = false ∧ (x != 4) = true ∧ decide (0 ≤ whenI l X 4) = false) ∨ ((x == 4) = false ∧ (x != 4) = true ∧ decide (0 ≤ whenI l X 4) = true ∧ decide (whenI l X 5 < 0) = false) ∨ ((x == 4) = false ∧ (x != 4) = true ∧ decide (0 ≤ whenI l X 4) = true ∧ decide (whenI l X 5 < 0) = true ∧ S.testBit X = true) := by
    rcases href with ⟨e, g⟩ | ⟨e, g⟩
    · have e1 : (x == 4) = true := by simpa using e
      have e2 : (x != 4) = false := by simp [e]
      by_cases g5 : whenI l X 5 < 0
      · cases gs : S.testBit X
        · exact .inr (.inr (.inl ⟨e1, e2, decide_eq_true g, decide_eq_true g5, rfl⟩))
        · exact .inr (.inl ⟨e1, e2, decide_eq_true g, decide_eq_true g5, rfl⟩)
      · exact .inl ⟨e1, e2, decide_eq_true g, decide_eq_false g5⟩
    · have e1 : (x == 4) = false := by simpa using e
      have e2 : (x != 4) = true := by simpa using e
      by_cases g4 : 0 ≤ whenI l X 4
      · by_cases g5 : whenI l X 5 < 0
        · cases gs : S.testBit X
          · exact absurd ⟨g4, g5, gs⟩ g
          · exact .inr (.inr (.inr (.inr (.inr ⟨e1, e2, decide_eq_true g4, decide_eq_true g5, rfl⟩))))
        · exact .inr (.inr (.inr (.inr (.inl ⟨e1, e2, decide_eq_true g4, decide_eq_false g5⟩))))
      · exact .inr (.inr (.inr (.inl ⟨e1, e2, decide_eq_false g4⟩)))
  clear href
  generalize whenI l X 4 = i4 at *
  generalize whenI l X 5 = i5 at *
  generalize S.testBit X = sb at *
  generalize decide (0 ≤ z ∧ z ≤ 3) = d3 at *
  generalize decide (0 ≤ u ∧ u ≤ 1) = d4 at *
  clear o1 o2 o3
  go_enter Tryd.func54, Tryd.ntmps54
  go_wp2_with fail
  have HSB := Lib.hid (Sb.new w (.slice A l.length cap) S x (X : Int) z u 83 49 83)
  have HBB := Lib.hid (((Below.refl w.heap.size w).alloc (Nat.le_refl _) (.cells #[.slice A l.length cap, nv S] 83)).alloc (by simp) (.cells #[iv x, iv (X : Int), iv z, iv u] 49) |>.alloc (by simp; omega) (.cells #[.slice none 0 0, .int .i64 0] 83))
  generalize hW : ((w.alloc (.cells #[.slice A l.length cap, nv S] 83)).alloc (.cells #[iv x, iv (X : Int), iv z, iv u] 49)).alloc (.cells #[.slice none 0 0, .int .i64 0] 83) = W at *
  clear hW
  obtain ⟨q, hq⟩ : ∃ q, q = w.heap.size := ⟨_, rfl⟩
  rw [← hq] at HSB ⊢
  have HQ := Lib.hid hq
  clear hq
  rcases h34 with ⟨t3, rfl, rfl⟩ | t3
  all_goals
    rcases hcase with ⟨k1, k2, k3, k4⟩ | ⟨k1, k2, k3, k4, rfl⟩ | ⟨k1, k2, k3, k4, rfl⟩ | ⟨k1, k2, k3⟩ | ⟨k1, k2, k3, k4⟩ | ⟨k1, k2, k3, k4, rfl⟩
    · obtain ⟨-, -, -, c0, c1', f0, f1, a0, a1, a2, a3, b0, b1, z0, z1⟩ := HSB.out
      go_wp2_with (go_at_call 69; first | ((with_reducible refine (c1.out _).mono ?_); rintro e w' ⟨rfl, rfl⟩) | ((with_reducible refine (c2.out _).mono ?_); rintro e w' ⟨rfl, rfl⟩) | ((with_reducible refine (c3.out _).mono ?_); rintro e w' ⟨rfl, rfl⟩) | ((with_reducible refine (c4.out _).mono ?_); rintro e w' ⟨rfl, rfl⟩))
      (with_reducible refine (hw4.out W HBB.out).mono ?_)
      rintro e w1 ⟨rfl, hb1⟩
      have HS1 := Lib.hid (HSB.out.below (hb1.mono (Nat.le_refl _)))
      have HB1 := Lib.hid (HBB.out.trans (hb1.mono HBB.out.size))
      clear hw4 HSB HBB hb1 c0 c1' f0 f1 a0 a1 a2 a3 b0 b1 z0 z1
      obtain ⟨-, -, -, c0, c1', f0, f1, a0, a1, a2, a3, b0, b1, z0, z1⟩ := HS1.out
      go_wp2_with fail
      (with_reducible refine (hw5.out w1 HB1.out).mono ?_)
      rintro e w2 ⟨rfl, hb2⟩
      have HS2 := Lib.hid (HS1.out.below (hb2.mono (Nat.le_refl _)))
      have HB2 := Lib.hid (HB1.out.trans (hb2.mono HB1.out.size))
      clear hw5 HS1 HB1 hb2 c0 c1' f0 f1 a0 a1 a2 a3 b0 b1 z0 z1
      obtain ⟨-, -, -, c0, c1', f0, f1, a0, a1, a2, a3, b0, b1, z0, z1⟩ := HS2.out
      go_wp2_with fail
      (try simp only [Exit.inBlock, Exit.then])
      refine bodyPost_ret ((results_cell_tmp2 rfl _ _ _).trans (by simp [go_sem, b0, b1]; rfl)) rfl ?_
      exact ⟨rfl, fin2 HB2.out (by rw [HQ.out]; omega) _ _⟩
    · obtain ⟨-, -, -, c0, c1', f0, f1, a0, a1, a2, a3, b0, b1, z0, z1⟩ := HSB.out
      go_wp2_with (go_at_call 69; first | ((with_reducible refine (c1.out _).mono ?_); rintro e w' ⟨rfl, rfl⟩) | ((with_reducible refine (c2.out _).mono ?_); rintro e w' ⟨rfl, rfl⟩) | ((with_reducible refine (c3.out _).mono ?_); rintro e w' ⟨rfl, rfl⟩) | ((with_reducible refine (c4.out _).mono ?_); rintro e w' ⟨rfl, rfl⟩))
      (with_reducible refine (hw4.out W HBB.out).mono ?_)
      rintro e w1 ⟨rfl, hb1⟩
      have HS1 := Lib.hid (HSB.out.below (hb1.mono (Nat.le_refl _)))
      have HB1 := Lib.hid (HBB.out.trans (hb1.mono HBB.out.size))
      clear hw4 HSB HBB hb1 c0 c1' f0 f1 a0 a1 a2 a3 b0 b1 z0 z1
      obtain ⟨-, -, -, c0, c1', f0, f1, a0, a1, a2, a3, b0, b1, z0, z1⟩ := HS1.out
      go_wp2_with fail
      (with_reducible refine (hw5.out w1 HB1.out).mono ?_)
      rintro e w2 ⟨rfl, hb2⟩
      have HS2 := Lib.hid (HS1.out.below (hb2.mono (Nat.le_refl _)))
      have HB2 := Lib.hid (HB1.out.trans (hb2.mono HB1.out.size))
      clear hw5 HS1 HB1 hb2 c0 c1' f0 f1 a0 a1 a2 a3 b0 b1 z0 z1
      obtain ⟨-, -, -, c0, c1', f0, f1, a0, a1, a2, a3, b0, b1, z0, z1⟩ := HS2.out
      go_wp2_with (go_at_call 29; (with_reducible refine (hc5.out _).mono ?_); rintro e w' ⟨rfl, rfl⟩)
      (try simp only [Exit.inBlock, Exit.then])
      refine bodyPost_ret ((results_cell_tmp2 rfl _ _ _).trans (by simp [go_sem, b0, b1]; rfl)) rfl ?_
      exact ⟨rfl, fin2 HB2.out (by rw [HQ.out]; omega) _ _⟩
    · obtain ⟨-, -, -, c0, c1', f0, f1, a0, a1, a2, a3, b0, b1, z0, z1⟩ := HSB.out
      go_wp2_with (go_at_call 69; first | ((with_reducible refine (c1.out _).mono ?_); rintro e w' ⟨rfl, rfl⟩) | ((with_reducible refine (c2.out _).mono ?_); rintro e w' ⟨rfl, rfl⟩) | ((with_reducible refine (c3.out _).mono ?_); rintro e w' ⟨rfl, rfl⟩) | ((with_reducible refine (c4.out _).mono ?_); rintro e w' ⟨rfl, rfl⟩))
      (with_reducible refine (hw4.out W HBB.out).mono ?_)
      rintro e w1 ⟨rfl, hb1⟩
      have HS1 := Lib.hid (HSB.out.below (hb1.mono (Nat.le_refl _)))
      have HB1 := Lib.hid (HBB.out.trans (hb1.mono HBB.out.size))
      clear hw4 HSB HBB hb1 c0 c1' f0 f1 a0 a1 a2 a3 b0 b1 z0 z1
      obtain ⟨-, -, -, c0, c1', f0, f1, a0, a1, a2, a3, b0, b1, z0, z1⟩ := HS1.out
      go_wp2_with fail
      (with_reducible refine (hw5.out w1 HB1.out).mono ?_)
      rintro e w2 ⟨rfl, hb2⟩
      have HS2 := Lib.hid (HS1.out.below (hb2.mono (Nat.le_refl _)))
      have HB2 := Lib.hid (HB1.out.trans (hb2.mono HB1.out.size))
      clear hw5 HS1 HB1 hb2 c0 c1' f0 f1 a0 a1 a2 a3 b0 b1 z0 z1
      obtain ⟨-, -, -, c0, c1', f0, f1, a0, a1, a2, a3, b0, b1, z0, z1⟩ := HS2.out
      go_wp2_with (go_at_call 29; (with_reducible refine (hc5.out _).mono ?_); rintro e w' ⟨rfl, rfl⟩)
      (try simp only [Exit.inBlock, Exit.then])
      refine bodyPost_ret ((results_cell_tmp2 rfl _ _ _).trans (by simp [go_sem, b0, b1]; rfl)) rfl ?_
      exact ⟨rfl, fin2 HB2.out (by rw [HQ.out]; omega) _ _⟩
    · obtain ⟨-, -, -, c0, c1', f0, f1, a0, a1, a2, a3, b0, b1, z0, z1⟩ := HSB.out
      go_wp2_with (go_at_call 69; first | ((with_reducible refine (c1.out _).mono ?_); rintro e w' ⟨rfl, rfl⟩) | ((with_reducible refine (c2.out _).mono ?_); rintro e w' ⟨rfl, rfl⟩) | ((with_reducible refine (c3.out _).mono ?_); rintro e w' ⟨rfl, rfl⟩) | ((with_reducible refine (c4.out _).mono ?_); rintro e w' ⟨rfl, rfl⟩))
      (with_reducible refine (hw4.out W HBB.out).mono ?_)
      rintro e w1 ⟨rfl, hb1⟩
      have HS1 := Lib.hid (HSB.out.below (hb1.mono (Nat.le_refl _)))
      have HB1 := Lib.hid (HBB.out.trans (hb1.mono HBB.out.size))
      clear hw4 HSB HBB hb1 c0 c1' f0 f1 a0 a1 a2 a3 b0 b1 z0 z1
      obtain ⟨-, -, -, c0, c1', f0, f1, a0, a1, a2, a3, b0, b1, z0, z1⟩ := HS1.out
      go_wp2_with fail
      (try simp only [Exit.inBlock, Exit.then])
      refine bodyPost_ret ((results_cell_tmp2 rfl _ _ _).trans (by simp [go_sem, b0, b1]; rfl)) rfl ?_
      exact ⟨rfl, fin2 HB1.out (by rw [HQ.out]; omega) _ _⟩
    · obtain ⟨-, -, -, c0, c1', f0, f1, a0, a1, a2, a3, b0, b1, z0, z1⟩ := HSB.out
      go_wp2_with (go_at_call 69; first | ((with_reducible refine (c1.out _).mono ?_); rintro e w' ⟨rfl, rfl⟩) | ((with_reducible refine (c2.out _).mono ?_); rintro e w' ⟨rfl, rfl⟩) | ((with_reducible refine (c3.out _).mono ?_); rintro e w' ⟨rfl, rfl⟩) | ((with_reducible refine (c4.out _).mono ?_); rintro e w' ⟨rfl, rfl⟩))
      (with_reducible refine (hw4.out W HBB.out).mono ?_)
      rintro e w1 ⟨rfl, hb1⟩
      have HS1 := Lib.hid (HSB.out.below (hb1.mono (Nat.le_refl _)))
      have HB1 := Lib.hid (HBB.out.trans (hb1.mono HBB.out.size))
      clear hw4 HSB HBB hb1 c0 c1' f0 f1 a0 a1 a2 a3 b0 b1 z0 z1
      obtain ⟨-, -, -, c0, c1', f0, f1, a0, a1, a2, a3, b0, b1, z0, z1⟩ := HS1.out
      go_wp2_with fail
      (with_reducible refine (hw5.out w1 HB1.out).mono ?_)
      rintro e w2 ⟨rfl, hb2⟩
      have HS2 := Lib.hid (HS1.out.below (hb2.mono (Nat.le_refl _)))
      have HB2 := Lib.hid (HB1.out.trans (hb2.mono HB1.out.size))
      clear hw5 HS1 HB1 hb2 c0 c1' f0 f1 a0 a1 a2 a3 b0 b1 z0 z1
      obtain ⟨-, -, -, c0, c1', f0, f1, a0, a1, a2, a3, b0, b1, z0, z1⟩ := HS2.out
      go_wp2_with fail
      (try simp only [Exit.inBlock, Exit.then])
      refine bodyPost_ret ((results_cell_tmp2 rfl _ _ _).trans (by simp [go_sem, b0, b1]; rfl)) rfl ?_
      exact ⟨rfl, fin2 HB2.out (by rw [HQ.out]; omega) _ _⟩
    · obtain ⟨-, -, -, c0, c1', f0, f1, a0, a1, a2, a3, b0, b1, z0, z1⟩ := HSB.out
      go_wp2_with (go_at_call 69; first | ((with_reducible refine (c1.out _).mono ?_); rintro e w' ⟨rfl, rfl⟩) | ((with_reducible refine (c2.out _).mono ?_); rintro e w' ⟨rfl, rfl⟩) | ((with_reducible refine (c3.out _).mono ?_); rintro e w' ⟨rfl, rfl⟩) | ((with_reducible refine (c4.out _).mono ?_); rintro e w' ⟨rfl, rfl⟩))
      (with_reducible refine (hw4.out W HBB.out).mono ?_)
      rintro e w1 ⟨rfl, hb1⟩
      have HS1 := Lib.hid (HSB.out.below (hb1.mono (Nat.le_refl _)))
      have HB1 := Lib.hid (HBB.out.trans (hb1.mono HBB.out.size))
      clear hw4 HSB HBB hb1 c0 c1' f0 f1 a0 a1 a2 a3 b0 b1 z0 z1
      obtain ⟨-, -, -, c0, c1', f0, f1, a0, a1, a2, a3, b0, b1, z0, z1⟩ := HS1.out
      go_wp2_with fail
      (with_reducible refine (hw5.out w1 HB1.out).mono ?_)
      rintro e w2 ⟨rfl, hb2⟩
      have HS2 := Lib.hid (HS1.out.below (hb2.mono (Nat.le_refl _)))
      have HB2 := Lib.hid (HB1.out.trans (hb2.mono HB1.out.size))
      clear hw5 HS1 HB1 hb2 c0 c1' f0 f1 a0 a1 a2 a3 b0 b1 z0 z1
      obtain ⟨-, -, -, c0, c1', f0, f1, a0, a1, a2, a3, b0, b1, z0, z1⟩ := HS2.out
      go_wp2_with (go_at_call 29; (with_reducible refine (hc5.out _).mono ?_); rintro e w' ⟨rfl, rfl⟩)
      (try simp only [Exit.inBlock, Exit.then])
      refine bodyPost_ret ((results_cell_tmp2 rfl _ _ _).trans (by simp [go_sem, b0, b1]; rfl)) rfl ?_
      exact ⟨rfl, fin2 HB2.out (by rw [HQ.out]; omega) _ _⟩
end Go.Proofs.YtkindaadadggoaaDoor
