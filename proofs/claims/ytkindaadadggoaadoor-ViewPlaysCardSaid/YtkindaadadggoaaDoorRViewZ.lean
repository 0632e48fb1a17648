/- Texts that were merged into one, as a claim has at most sixty files: RViewA, RViewB, RViewC, RViewD, VPlayS, VPlayD. Conditions: each law's own premises. (Printed by wip/merge.py.) -/
import Derived.Test.YtkindaadadggoaaDoorRView7
import Derived.Test.YtkindaadadggoaaDoorDeedMem
import Derived.Deep.RegionHeld3
import Derived.Test.YtkindaadadggoaaDoorVPlayE
import Derived.Test.YtkindaadadggoaaDoorVCom
namespace Go.Proofs.YtkindaadadggoaaDoor
open Go.RowKit

theorem Sb.belowB {w w' : World} {q r p : Nat} {dv : Value} {S : Nat} {x y z u : Int} {B : Nat} (h : Sb w q r p dv S x y z u) (hb : Below B w w') (hq : q < B) (hr : r < B) (hp : p < B) : Sb w' q r p dv S x y z u :=
  h.only (T := fun k => B ≤ k) ⟨hb.os, hb.tape, hb.output, hb.size, fun k _ hk => hb.block k (Nat.lt_of_not_le hk)⟩ (Nat.not_le.2 hq) (Nat.not_le.2 hr) (Nat.not_le.2 hp)
theorem OwnD.fin {w2 w3 : World} {B base : Nat} {v : Value} {l : List Deed4V} (h : OwnD w2 B v l) (ho : Only (fun j => j < B) w2 w3) (hb : base ≤ B) : OwnD w3 base v l := by
  obtain ⟨q1, q2⟩ := row_only h ho (fun k hk hs => Nat.not_lt.2 (row_lt h k hk).1 hs)
  refine ⟨q1, ?_⟩
  rcases q2 with q | ⟨g, cap, cur, he, hg, r⟩
  · exact .inl q
  · exact .inr ⟨g, cap, cur, he, Nat.le_trans hb hg, r⟩
/-- what is answered where a deed is done -/
def VAns (w w' : World) (e : Ending) (l : List Deed4V) (d : Deed4V) (S : Nat) (told : Int) : Prop := ∃ v', e = .returned (.tuple #[.agg #[v', nv S], iv told, .int .i64 0]) ∧ OwnD w' w.heap.size v' (l ++ [d]) ∧ Below w.heap.size w w'
theorem vans_fin {w w1 w3 : World} {e : Ending} {l : List Deed4V} {d : Deed4V} {S : Nat} {told : Int} {v' : Value} {q p : Nat} (he : e = .returned (.tuple #[.agg #[v', nv S], iv told, .int .i64 0])) (ho : OwnD w3 w1.heap.size v' (l ++ [d])) (hb : Below w.heap.size w w3) (h1 : w.heap.size ≤ w1.heap.size) (hq : w.heap.size ≤ q ∧ q < w1.heap.size) (hp : w.heap.size ≤ p ∧ p < w1.heap.size) (y1 y2 y3 : Value) :
    VAns w (((w3.setCell ⟨q, 0, none⟩ y1).setCell ⟨p, 0, none⟩ y2).setCell ⟨p, 1, none⟩ y3) e l d S told :=
  ⟨v', he, ho.fin ((((Only.refl _ w3).setCell (p := ⟨q, 0, none⟩) (.inl hq.2) _).setCell (p := ⟨p, 0, none⟩) (.inl hp.2) _).setCell (p := ⟨p, 1, none⟩) (.inl hp.2) _) h1, ((hb.setCell (p := ⟨q, 0, none⟩) hq.1 _).setCell (p := ⟨p, 0, none⟩) hp.1 _).setCell (p := ⟨p, 1, none⟩) hp.1 _⟩
set_option maxRecDepth 20000 in
set_option maxHeartbeats 8000000 in
theorem rview_4 (l : List Deed4V) (S : Nat) (x : Int) (X : Nat) (z u : Int) (A : Option Addr) (cap : Nat) (w : World) (hr : VDeeds w w.heap.size (.slice A l.length cap) l) (hok : ∀ d ∈ l, vokI d) (hl : l.length ≤ 1000) (hS : S < 32) (hv : vokI (x, (X : Int), z, u)) (hx : x = 4) (hn : whenI l X 4 < 0) :
    Calls Tryd.prog 54 #[.agg #[.slice A l.length cap, nv S], .agg #[.int .i64 x, .int .i64 (X : Int), .int .i64 z, .int .i64 u]] w fun e w' => VAns w w' e l (x, (X : Int), z, u) S (-1) := by
  have c1 := Lib.hid fun w5 : World => rin_calls x 3 5 w5
  have c2 := Lib.hid fun w5 : World => rin_calls (X : Int) 0 4 w5
  have c3 := Lib.hid fun w5 : World => rin_calls z 0 3 w5
  have c4 := Lib.hid fun w5 : World => rin_calls u 0 1 w5
  obtain ⟨o1, o2, o3⟩ := hv
  simp only at o1 o2 o3
  rw [decide_eq_true (show ((3 : Int) ≤ x ∧ x ≤ 5) from o1)] at c1
  rw [decide_eq_true (show ((0 : Int) ≤ (X : Int) ∧ (X : Int) ≤ 4) from o2)] at c2
  have hX : X < 5 := by omega
  have hc5 := Lib.hid (show ∀ w5 : World, Calls Tryd.prog 29 #[nv S, iv (X : Int)] w5 (fun e w' => e = .returned (.bool (S.testBit X)) ∧ w5 = w') from fun w5 => bit_calls S X w5 (by omega) (by omega))
  have h34 : ((x == 3) = true ∧ decide (0 ≤ z ∧ z ≤ 3) = true ∧ decide (0 ≤ u ∧ u ≤ 1) = true) ∨ (x == 3) = false := by
    by_cases e : x = 3
    · exact .inl ⟨by simpa using e, decide_eq_true (o3 e).1, decide_eq_true (o3 e).2⟩
    · exact .inr (by simpa using e)
  have hw4 := Lib.hid (show ∀ w5 : World, Below w.heap.size w w5 → Calls Tryd.prog 76 #[.agg #[.slice A l.length cap, nv S], iv (X : Int), .int .i64 4] w5 (fun e w' => e = .returned (iv (whenI l X 4)) ∧ Below w5.heap.size w5 w') from fun w5 h5 => when_calls l S X 4 (.slice A l.length cap) w5 ((Rd.below hr h5).more h5.size) hok hl)
  have hw5 := Lib.hid (show ∀ w5 : World, Below w.heap.size w w5 → Calls Tryd.prog 76 #[.agg #[.slice A l.length cap, nv S], iv (X : Int), .int .i64 5] w5 (fun e w' => e = .returned (iv (whenI l X 5)) ∧ Below w5.heap.size w5 w') from fun w5 h5 => when_calls l S X 5 (.slice A l.length cap) w5 ((Rd.below hr h5).more h5.size) hok hl)
  have HR := Lib.hid hr
  clear hr
  have k1 : (x == 4) = true := by simpa using hx
  have k2 : (x != 4) = false := by simp [hx]
  have k3 : decide (0 ≤ whenI l X 4) = false := by simpa using hn
  have t5 : (x == 5) = false := by simp [hx]
  have t3 : (x == 3) = false := by simp [hx]
  clear h34 hn hx
  generalize whenI l X 4 = i4 at *
  clear o1 o2 o3 hc5 hw5 hok
  go_enter Tryd.func54, Tryd.ntmps54
  go_wp2_with fail
  have HSB := Lib.hid (Sb.new w (.slice A l.length cap) S x (X : Int) z u 83 49 83)
  have HBB := Lib.hid (((Below.refl w.heap.size w).alloc (Nat.le_refl _) (.cells #[.slice A l.length cap, nv S] 83)).alloc (by simp) (.cells #[iv x, iv (X : Int), iv z, iv u] 49) |>.alloc (by simp; omega) (.cells #[.slice none 0 0, .int .i64 0] 83))
  generalize hW : ((w.alloc (.cells #[.slice A l.length cap, nv S] 83)).alloc (.cells #[iv x, iv (X : Int), iv z, iv u] 49)).alloc (.cells #[.slice none 0 0, .int .i64 0] 83) = W at *
  clear hW
  obtain ⟨q, hq⟩ : ∃ q, q = w.heap.size := ⟨_, rfl⟩
  rw [← hq] at HSB ⊢
  have HQ := Lib.hid hq
  clear hq
  obtain ⟨-, -, -, c0, c1', f0, f1, a0, a1, a2, a3, b0, b1, z0, z1⟩ := HSB.out
  go_wp2_with (go_at_call 69; first | ((with_reducible refine (c1.out _).mono ?_); rintro e w' ⟨rfl, rfl⟩) | ((with_reducible refine (c2.out _).mono ?_); rintro e w' ⟨rfl, rfl⟩) | ((with_reducible refine (c3.out _).mono ?_); rintro e w' ⟨rfl, rfl⟩) | ((with_reducible refine (c4.out _).mono ?_); rintro e w' ⟨rfl, rfl⟩))
  (with_reducible refine (hw4.out W HBB.out).mono ?_)
  rintro e w1 ⟨rfl, hb1⟩
  have HS1 := Lib.hid (HSB.out.below (hb1.mono (Nat.le_refl _)))
  have HB1 := Lib.hid (HBB.out.trans (hb1.mono HBB.out.size))
  clear hw4 HSB HBB hb1 c0 c1' f0 f1 a0 a1 a2 a3 b0 b1 z0 z1
  obtain ⟨-, -, -, c0, c1', f0, f1, a0, a1, a2, a3, b0, b1, z0, z1⟩ := HS1.out
  have HD1 := Lib.hid (show VDeeds w1 w1.heap.size (.slice A l.length cap) l from (Rd.below HR.out HB1.out).more HB1.out.size)
  go_wp2_with (at_builtin; first | (refine append_deeds rfl _ _ rfl w1.heap.size _ [] l rfl (OwnD.nil _ _) w1.heap.size _ rfl HD1.out (by simp; omega) (Nat.le_refl _) ?_; intro v8 w8 hown1 hb8; have HS8 := Lib.hid (HS1.out.below hb8); have HO8 := Lib.hid hown1; have HB8 := Lib.hid hb8; clear hown1 hb8 c0 c1' f0 f1 a0 a1 a2 a3 b0 b1 z0 z1; obtain ⟨-, -, -, c0, c1', f0, f1, a0, a1, a2, a3, b0, b1, z0, z1⟩ := HS8.out) | (refine append_deeds rfl _ _ rfl w1.heap.size _ l [(x, (X : Int), z, u)] rfl (World.ownsRow.alloc HO8.out _) (w8.heap.size + 1) _ rfl (one_deed w8 x X z u) (by simp; omega) (by have := HB8.out.size; simp; omega) ?_; intro v9 w9 hown2 hb9; obtain ⟨A9, c9, hv9⟩ := Rd.val hown2.deeds; rw [List.length_append, List.length_singleton] at hv9; subst hv9; have HS9 := Lib.hid ((HS8.out.below ((Below.refl _ _).alloc (Nat.le_refl _) _)).belowB hb9 HS1.out.lq HS1.out.lr HS1.out.lp); have HO9 := Lib.hid hown2; have HB9 := Lib.hid (HB1.out.trans (((HB8.out.alloc HB8.out.size _).trans hb9).mono HB1.out.size)); clear hown2 hb9 c0 c1' f0 f1 a0 a1 a2 a3 b0 b1 z0 z1; obtain ⟨-, -, -, c0, c1', f0, f1, a0, a1, a2, a3, b0, b1, z0, z1⟩ := HS9.out))
  (try simp only [Exit.inBlock, Exit.then])
  refine bodyPost_ret ((results_cell_tmp2 rfl _ _ _).trans (by simp [go_sem, b0, b1]; rfl)) rfl ?_
  exact vans_fin (S := S) (told := -1) rfl HO9.out HB9.out HB1.out.size ⟨by rw [HQ.out]; omega, HS1.out.lq⟩ ⟨by rw [HQ.out]; omega, HS1.out.lp⟩ _ _ _
end Go.Proofs.YtkindaadadggoaaDoor
namespace Go.Proofs.YtkindaadadggoaaDoor
open Go.RowKit

set_option maxRecDepth 20000 in
set_option maxHeartbeats 8000000 in
theorem rview_w (l : List Deed4V) (S : Nat) (x : Int) (X : Nat) (z u : Int) (A : Option Addr) (cap : Nat) (w : World) (hr : VDeeds w w.heap.size (.slice A l.length cap) l) (hok : ∀ d ∈ l, vokI d) (hl : l.length ≤ 1000) (hS : S < 32) (hv : vokI (x, (X : Int), z, u)) (hx : x = 3) (hu : u = 1) (h4 : 0 ≤ whenI l X 4) (h5 : whenI l X 5 < 0) (hb : S.testBit X = false) :
    Calls Tryd.prog 54 #[.agg #[.slice A l.length cap, nv S], .agg #[.int .i64 x, .int .i64 (X : Int), .int .i64 z, .int .i64 u]] w fun e w' => VAns w w' e l (x, (X : Int), z, u) S (-1) := by
  have c1 := Lib.hid fun w5 : World => rin_calls x 3 5 w5
  have c2 := Lib.hid fun w5 : World => rin_calls (X : Int) 0 4 w5
  have c3 := Lib.hid fun w5 : World => rin_calls z 0 3 w5
  have c4 := Lib.hid fun w5 : World => rin_calls u 0 1 w5
  obtain ⟨o1, o2, o3⟩ := hv
  simp only at o1 o2 o3
  rw [decide_eq_true (show ((3 : Int) ≤ x ∧ x ≤ 5) from o1)] at c1
  rw [decide_eq_true (show ((0 : Int) ≤ (X : Int) ∧ (X : Int) ≤ 4) from o2)] at c2
  have hX : X < 5 := by omega
  have hc5 := Lib.hid (show ∀ w5 : World, Calls Tryd.prog 29 #[nv S, iv (X : Int)] w5 (fun e w' => e = .returned (.bool (S.testBit X)) ∧ w5 = w') from fun w5 => bit_calls S X w5 (by omega) (by omega))
  have h34 : ((x == 3) = true ∧ decide (0 ≤ z ∧ z ≤ 3) = true ∧ decide (0 ≤ u ∧ u ≤ 1) = true) ∨ (x == 3) = false := by
    by_cases e : x = 3
    · exact .inl ⟨by simpa using e, decide_eq_true (o3 e).1, decide_eq_true (o3 e).2⟩
    · exact .inr (by simpa using e)
  have hw4 := Lib.hid (show ∀ w5 : World, Below w.heap.size w w5 → Calls Tryd.prog 76 #[.agg #[.slice A l.length cap, nv S], iv (X : Int), .int .i64 4] w5 (fun e w' => e = .returned (iv (whenI l X 4)) ∧ Below w5.heap.size w5 w') from fun w5 h5 => when_calls l S X 4 (.slice A l.length cap) w5 ((Rd.below hr h5).more h5.size) hok hl)
  have hw5 := Lib.hid (show ∀ w5 : World, Below w.heap.size w w5 → Calls Tryd.prog 76 #[.agg #[.slice A l.length cap, nv S], iv (X : Int), .int .i64 5] w5 (fun e w' => e = .returned (iv (whenI l X 5)) ∧ Below w5.heap.size w5 w') from fun w5 h5 => when_calls l S X 5 (.slice A l.length cap) w5 ((Rd.below hr h5).more h5.size) hok hl)
  have HR := Lib.hid hr
  clear hr
  have k1 : (x == 4) = false := by simp [hx]
  have k2 : (x != 4) = true := by simp [hx]
  have k3 : decide (0 ≤ whenI l X 4) = true := decide_eq_true h4
  have k4 : decide (whenI l X 5 < 0) = true := decide_eq_true h5
  have t5 : (x == 5) = false := by simp [hx]
  have t3 : (x == 3) = true := by simpa using hx
  rw [decide_eq_true (show ((0 : Int) ≤ z ∧ z ≤ 3) from (o3 hx).1)] at c3
  rw [decide_eq_true (show ((0 : Int) ≤ u ∧ u ≤ 1) from (o3 hx).2)] at c4
  rw [hb] at hc5
  have tu : (u == 0) = false := by simp [hu]
  clear h34 h4 h5 hb hx hu
  generalize whenI l X 4 = i4 at *
  generalize whenI l X 5 = i5 at *
  clear o1 o2 o3 hok
  go_enter Tryd.func54, Tryd.ntmps54
  go_wp2_with fail
  have HSB := Lib.hid (Sb.new w (.slice A l.length cap) S x (X : Int) z u 83 49 83)
  have HBB := Lib.hid (((Below.refl w.heap.size w).alloc (Nat.le_refl _) (.cells #[.slice A l.length cap, nv S] 83)).alloc (by simp) (.cells #[iv x, iv (X : Int), iv z, iv u] 49) |>.alloc (by simp; omega) (.cells #[.slice none 0 0, .int .i64 0] 83))
  generalize hW : ((w.alloc (.cells #[.slice A l.length cap, nv S] 83)).alloc (.cells #[iv x, iv (X : Int), iv z, iv u] 49)).alloc (.cells #[.slice none 0 0, .int .i64 0] 83) = W at *
  clear hW
  obtain ⟨q, hq⟩ : ∃ q, q = w.heap.size := ⟨_, rfl⟩
  rw [← hq] at HSB ⊢
  have HQ := Lib.hid hq
  clear hq
  obtain ⟨-, -, -, c0, c1', f0, f1, a0, a1, a2, a3, b0, b1, z0, z1⟩ := HSB.out
  go_wp2_with (go_at_call 69; first | ((with_reducible refine (c1.out _).mono ?_); rintro e w' ⟨rfl, rfl⟩) | ((with_reducible refine (c2.out _).mono ?_); rintro e w' ⟨rfl, rfl⟩) | ((with_reducible refine (c3.out _).mono ?_); rintro e w' ⟨rfl, rfl⟩) | ((with_reducible refine (c4.out _).mono ?_); rintro e w' ⟨rfl, rfl⟩))
  (with_reducible refine (hw4.out W HBB.out).mono ?_)
  rintro e w1 ⟨rfl, hb1⟩
  have HS1 := Lib.hid (HSB.out.below (hb1.mono (Nat.le_refl _)))
  have HB1 := Lib.hid (HBB.out.trans (hb1.mono HBB.out.size))
  clear hw4 HSB HBB hb1 c0 c1' f0 f1 a0 a1 a2 a3 b0 b1 z0 z1
  obtain ⟨-, -, -, c0, c1', f0, f1, a0, a1, a2, a3, b0, b1, z0, z1⟩ := HS1.out
  go_wp2_with fail
  (with_reducible refine (hw5.out w1 HB1.out).mono ?_)
  rintro e w2 ⟨rfl, hb2⟩
  have HS2 := Lib.hid (HS1.out.below (hb2.mono (Nat.le_refl _)))
  have HB2 := Lib.hid (HB1.out.trans (hb2.mono HB1.out.size))
  clear hw5 HS1 HB1 hb2 c0 c1' f0 f1 a0 a1 a2 a3 b0 b1 z0 z1
  obtain ⟨-, -, -, c0, c1', f0, f1, a0, a1, a2, a3, b0, b1, z0, z1⟩ := HS2.out
  have HD1 := Lib.hid (show VDeeds w2 w2.heap.size (.slice A l.length cap) l from (Rd.below HR.out HB2.out).more HB2.out.size)
  go_wp2_with (first | (go_at_call 29; (with_reducible refine (hc5.out _).mono ?_); rintro e w' ⟨rfl, rfl⟩) | (at_builtin; first | (refine append_deeds rfl _ _ rfl w2.heap.size _ [] l rfl (OwnD.nil _ _) w2.heap.size _ rfl HD1.out (by simp; omega) (Nat.le_refl _) ?_; intro v8 w8 hown1 hb8; have HS8 := Lib.hid (HS2.out.below hb8); have HO8 := Lib.hid hown1; have HB8 := Lib.hid hb8; clear hown1 hb8 c0 c1' f0 f1 a0 a1 a2 a3 b0 b1 z0 z1; obtain ⟨-, -, -, c0, c1', f0, f1, a0, a1, a2, a3, b0, b1, z0, z1⟩ := HS8.out) | (refine append_deeds rfl _ _ rfl w2.heap.size _ l [(x, (X : Int), z, u)] rfl (World.ownsRow.alloc HO8.out _) (w8.heap.size + 1) _ rfl (one_deed w8 x X z u) (by simp; omega) (by have := HB8.out.size; simp; omega) ?_; intro v9 w9 hown2 hb9; obtain ⟨A9, c9, hv9⟩ := Rd.val hown2.deeds; rw [List.length_append, List.length_singleton] at hv9; subst hv9; have HS9 := Lib.hid ((HS8.out.below ((Below.refl _ _).alloc (Nat.le_refl _) _)).belowB hb9 HS2.out.lq HS2.out.lr HS2.out.lp); have HO9 := Lib.hid hown2; have HB9 := Lib.hid (HB2.out.trans (((HB8.out.alloc HB8.out.size _).trans hb9).mono HB2.out.size)); clear hown2 hb9 c0 c1' f0 f1 a0 a1 a2 a3 b0 b1 z0 z1; obtain ⟨-, -, -, c0, c1', f0, f1, a0, a1, a2, a3, b0, b1, z0, z1⟩ := HS9.out)))
  (try simp only [Exit.inBlock, Exit.then])
  refine bodyPost_ret ((results_cell_tmp2 rfl _ _ _).trans (by simp [go_sem, b0, b1]; rfl)) rfl ?_
  exact vans_fin (S := S) (told := -1) rfl HO9.out HB9.out HB2.out.size ⟨by rw [HQ.out]; omega, HS2.out.lq⟩ ⟨by rw [HQ.out]; omega, HS2.out.lp⟩ _ _ _
set_option maxRecDepth 20000 in
set_option maxHeartbeats 8000000 in
theorem rview_r (l : List Deed4V) (S : Nat) (x : Int) (X : Nat) (z u : Int) (A : Option Addr) (cap : Nat) (w : World) (hr : VDeeds w w.heap.size (.slice A l.length cap) l) (hok : ∀ d ∈ l, vokI d) (hl : l.length ≤ 1000) (hS : S < 32) (hv : vokI (x, (X : Int), z, u)) (hx : x = 3) (hu : u = 0) (h4 : 0 ≤ whenI l X 4) (h5 : whenI l X 5 < 0) (hb : S.testBit X = false) :
    Calls Tryd.prog 54 #[.agg #[.slice A l.length cap, nv S], .agg #[.int .i64 x, .int .i64 (X : Int), .int .i64 z, .int .i64 u]] w fun e w' => VAns w w' e l (x, (X : Int), z, u) S (if Vw.wroteL (nats l) X z.toNat = true then (X : Int) else Vw.lastOf (nats l) z.toNat (whenI l X 4).toNat) := by
  have c1 := Lib.hid fun w5 : World => rin_calls x 3 5 w5
  have c2 := Lib.hid fun w5 : World => rin_calls (X : Int) 0 4 w5
  have c3 := Lib.hid fun w5 : World => rin_calls z 0 3 w5
  have c4 := Lib.hid fun w5 : World => rin_calls u 0 1 w5
  obtain ⟨o1, o2, o3⟩ := hv
  simp only at o1 o2 o3
  rw [decide_eq_true (show ((3 : Int) ≤ x ∧ x ≤ 5) from o1)] at c1
  rw [decide_eq_true (show ((0 : Int) ≤ (X : Int) ∧ (X : Int) ≤ 4) from o2)] at c2
  have hX : X < 5 := by omega
  have hc5 := Lib.hid (show ∀ w5 : World, Calls Tryd.prog 29 #[nv S, iv (X : Int)] w5 (fun e w' => e = .returned (.bool (S.testBit X)) ∧ w5 = w') from fun w5 => bit_calls S X w5 (by omega) (by omega))
  have h34 : ((x == 3) = true ∧ decide (0 ≤ z ∧ z ≤ 3) = true ∧ decide (0 ≤ u ∧ u ≤ 1) = true) ∨ (x == 3) = false := by
    by_cases e : x = 3
    · exact .inl ⟨by simpa using e, decide_eq_true (o3 e).1, decide_eq_true (o3 e).2⟩
    · exact .inr (by simpa using e)
  have hw4 := Lib.hid (show ∀ w5 : World, Below w.heap.size w w5 → Calls Tryd.prog 76 #[.agg #[.slice A l.length cap, nv S], iv (X : Int), .int .i64 4] w5 (fun e w' => e = .returned (iv (whenI l X 4)) ∧ Below w5.heap.size w5 w') from fun w5 h5 => when_calls l S X 4 (.slice A l.length cap) w5 ((Rd.below hr h5).more h5.size) hok hl)
  have hw5 := Lib.hid (show ∀ w5 : World, Below w.heap.size w w5 → Calls Tryd.prog 76 #[.agg #[.slice A l.length cap, nv S], iv (X : Int), .int .i64 5] w5 (fun e w' => e = .returned (iv (whenI l X 5)) ∧ Below w5.heap.size w5 w') from fun w5 h5 => when_calls l S X 5 (.slice A l.length cap) w5 ((Rd.below hr h5).more h5.size) hok hl)
  have HR := Lib.hid hr
  clear hr
  have k1 : (x == 4) = false := by simp [hx]
  have k2 : (x != 4) = true := by simp [hx]
  have k3 : decide (0 ≤ whenI l X 4) = true := decide_eq_true h4
  have k4 : decide (whenI l X 5 < 0) = true := decide_eq_true h5
  have t5 : (x == 5) = false := by simp [hx]
  have t3 : (x == 3) = true := by simpa using hx
  rw [decide_eq_true (show ((0 : Int) ≤ z ∧ z ≤ 3) from (o3 hx).1)] at c3
  rw [decide_eq_true (show ((0 : Int) ≤ u ∧ u ≤ 1) from (o3 hx).2)] at c4
  rw [hb] at hc5
  have tu : (u == 0) = true := by simp [hu]
  have hz := (o3 hx).1
  obtain ⟨i, rfl⟩ : ∃ i : Nat, z = (i : Int) := ⟨z.toNat, by omega⟩
  have hml : (whenI l X 4).toNat ≤ l.length := by
    unfold whenI
    split
    · rename_i g; omega
    · exact Nat.zero_le _
  obtain ⟨m, hm⟩ : ∃ m : Nat, whenI l X 4 = (m : Int) := ⟨(whenI l X 4).toNat, by omega⟩
  rw [hm] at hml hw4 k3 ⊢
  have hla := Lib.hid (show ∀ w5 : World, Below w.heap.size w w5 → Calls Tryd.prog 78 #[.agg #[.slice A l.length cap, nv S], iv (i : Int), iv (m : Int)] w5 (fun e w' => e = .returned (iv (Vw.lastOf (nats l) i m)) ∧ Below w5.heap.size w5 w') from fun w5 h5 => rlast_calls l S i m (.slice A l.length cap) w5 ((Rd.below HR.out h5).more h5.size) hok hl (by omega))
  have hwr := Lib.hid (show ∀ w5 : World, Below w.heap.size w w5 → Calls Tryd.prog 77 #[.agg #[.slice A l.length cap, nv S], iv (X : Int), iv (i : Int)] w5 (fun e w' => e = .returned (.bool (Vw.wroteL (nats l) X i)) ∧ Below w5.heap.size w5 w') from fun w5 h5 => rwrote_calls l S X i (.slice A l.length cap) w5 ((Rd.below HR.out h5).more h5.size) hok hl)
  simp only [Int.toNat_natCast]
  clear h34 h4 h5 hb hx hu hm hml
  generalize whenI l X 5 = i5 at *
  generalize Vw.lastOf (nats l) i m = la at *
  generalize Vw.wroteL (nats l) X i = wb at *
  obtain ⟨tv, htv⟩ : ∃ tv : Int, tv = if wb = true then (X : Int) else la := ⟨_, rfl⟩
  rw [← htv]
  have HTV := Lib.hid htv
  clear htv
  generalize hzz : ((i : Nat) : Int) = zz at *
  clear o1 o2 o3 hok hz hzz
  go_enter Tryd.func54, Tryd.ntmps54
  go_wp2_with fail
  have HSB := Lib.hid (Sb.new w (.slice A l.length cap) S x (X : Int) zz u 83 49 83)
  have HBB := Lib.hid (((Below.refl w.heap.size w).alloc (Nat.le_refl _) (.cells #[.slice A l.length cap, nv S] 83)).alloc (by simp) (.cells #[iv x, iv (X : Int), iv zz, iv u] 49) |>.alloc (by simp; omega) (.cells #[.slice none 0 0, .int .i64 0] 83))
  generalize hW : ((w.alloc (.cells #[.slice A l.length cap, nv S] 83)).alloc (.cells #[iv x, iv (X : Int), iv zz, iv u] 49)).alloc (.cells #[.slice none 0 0, .int .i64 0] 83) = W at *
  clear hW
  obtain ⟨q, hq⟩ : ∃ q, q = w.heap.size := ⟨_, rfl⟩
  rw [← hq] at HSB ⊢
  have HQ := Lib.hid hq
  clear hq
  obtain ⟨-, -, -, c0, c1', f0, f1, a0, a1, a2, a3, b0, b1, z0, z1⟩ := HSB.out
  go_wp2_with (go_at_call 69; first | ((with_reducible refine (c1.out _).mono ?_); rintro e w' ⟨rfl, rfl⟩) | ((with_reducible refine (c2.out _).mono ?_); rintro e w' ⟨rfl, rfl⟩) | ((with_reducible refine (c3.out _).mono ?_); rintro e w' ⟨rfl, rfl⟩) | ((with_reducible refine (c4.out _).mono ?_); rintro e w' ⟨rfl, rfl⟩))
  (with_reducible refine (hw4.out W HBB.out).mono ?_)
  rintro e w1 ⟨rfl, hb1⟩
  have HS1 := Lib.hid (HSB.out.below (hb1.mono (Nat.le_refl _)))
  have HB1 := Lib.hid (HBB.out.trans (hb1.mono HBB.out.size))
  clear hw4 HSB HBB hb1 c0 c1' f0 f1 a0 a1 a2 a3 b0 b1 z0 z1
  obtain ⟨-, -, -, c0, c1', f0, f1, a0, a1, a2, a3, b0, b1, z0, z1⟩ := HS1.out
  go_wp2_with fail
  (with_reducible refine (hw5.out w1 HB1.out).mono ?_)
  rintro e w2 ⟨rfl, hb2⟩
  have HS2 := Lib.hid (HS1.out.below (hb2.mono (Nat.le_refl _)))
  have HB2 := Lib.hid (HB1.out.trans (hb2.mono HB1.out.size))
  clear hw5 HS1 HB1 hb2 c0 c1' f0 f1 a0 a1 a2 a3 b0 b1 z0 z1
  obtain ⟨-, -, -, c0, c1', f0, f1, a0, a1, a2, a3, b0, b1, z0, z1⟩ := HS2.out
  go_wp2_with (go_at_call 29; (with_reducible refine (hc5.out _).mono ?_); rintro e w' ⟨rfl, rfl⟩)
  (with_reducible refine (hla.out w2 HB2.out).mono ?_)
  rintro e w3 ⟨rfl, hb3⟩
  have HS3 := Lib.hid (HS2.out.below (hb3.mono (Nat.le_refl _)))
  have HB3 := Lib.hid (HB2.out.trans (hb3.mono HB2.out.size))
  clear hla HS2 HB2 hb3 c0 c1' f0 f1 a0 a1 a2 a3 b0 b1 z0 z1
  obtain ⟨-, -, -, c0, c1', f0, f1, a0, a1, a2, a3, b0, b1, z0, z1⟩ := HS3.out
  go_wp2_with fail
  (with_reducible refine (hwr.out w3 HB3.out).mono ?_)
  rintro e w4 ⟨rfl, hb4⟩
  have HS4 := Lib.hid (HS3.out.below (hb4.mono (Nat.le_refl _)))
  have HB4 := Lib.hid (HB3.out.trans (hb4.mono HB3.out.size))
  clear hwr HS3 HB3 hb4 c0 c1' f0 f1 a0 a1 a2 a3 b0 b1 z0 z1
  obtain ⟨-, -, -, c0, c1', f0, f1, a0, a1, a2, a3, b0, b1, z0, z1⟩ := HS4.out
  cases wb with
  | false =>
    have HT2 := Lib.hid (show tv = la by rw [HTV.out]; rfl)
    clear HTV
    have HD1 := Lib.hid (show VDeeds w4 w4.heap.size (.slice A l.length cap) l from (Rd.below HR.out HB4.out).more HB4.out.size)
    go_wp2_with (at_builtin; first | (refine append_deeds rfl _ _ rfl w4.heap.size _ [] l rfl (OwnD.nil _ _) w4.heap.size _ rfl HD1.out (by simp; omega) (Nat.le_refl _) ?_; intro v8 w8 hown1 hb8; have HS8 := Lib.hid (HS4.out.below hb8); have HO8 := Lib.hid hown1; have HB8 := Lib.hid hb8; clear hown1 hb8 c0 c1' f0 f1 a0 a1 a2 a3 b0 b1 z0 z1; obtain ⟨-, -, -, c0, c1', f0, f1, a0, a1, a2, a3, b0, b1, z0, z1⟩ := HS8.out) | (refine append_deeds rfl _ _ rfl w4.heap.size _ l [(x, (X : Int), zz, u)] rfl (World.ownsRow.alloc HO8.out _) (w8.heap.size + 1) _ rfl (one_deed w8 x X zz u) (by simp; omega) (by have := HB8.out.size; simp; omega) ?_; intro v9 w9 hown2 hb9; obtain ⟨A9, c9, hv9⟩ := Rd.val hown2.deeds; rw [List.length_append, List.length_singleton] at hv9; subst hv9; have HS9 := Lib.hid ((HS8.out.below ((Below.refl _ _).alloc (Nat.le_refl _) _)).belowB hb9 HS4.out.lq HS4.out.lr HS4.out.lp); have HO9 := Lib.hid hown2; have HB9 := Lib.hid (HB4.out.trans (((HB8.out.alloc HB8.out.size _).trans hb9).mono HB4.out.size)); clear hown2 hb9 c0 c1' f0 f1 a0 a1 a2 a3 b0 b1 z0 z1; obtain ⟨-, -, -, c0, c1', f0, f1, a0, a1, a2, a3, b0, b1, z0, z1⟩ := HS9.out))
    (try simp only [Exit.inBlock, Exit.then])
    refine bodyPost_ret ((results_cell_tmp2 rfl _ _ _).trans (by simp [go_sem, b0, b1]; rfl)) rfl ?_
    exact vans_fin (S := S) (told := tv) (by rw [HT2.out]) HO9.out HB9.out HB4.out.size ⟨by rw [HQ.out]; omega, HS4.out.lq⟩ ⟨by rw [HQ.out]; omega, HS4.out.lp⟩ _ _ _
  | true =>
    have HT2 := Lib.hid (show tv = (X : Int) by rw [HTV.out]; rfl)
    clear HTV
    have HD1 := Lib.hid (show VDeeds w4 w4.heap.size (.slice A l.length cap) l from (Rd.below HR.out HB4.out).more HB4.out.size)
    go_wp2_with (at_builtin; first | (refine append_deeds rfl _ _ rfl w4.heap.size _ [] l rfl (OwnD.nil _ _) w4.heap.size _ rfl HD1.out (by simp; omega) (Nat.le_refl _) ?_; intro v8 w8 hown1 hb8; have HS8 := Lib.hid (HS4.out.below hb8); have HO8 := Lib.hid hown1; have HB8 := Lib.hid hb8; clear hown1 hb8 c0 c1' f0 f1 a0 a1 a2 a3 b0 b1 z0 z1; obtain ⟨-, -, -, c0, c1', f0, f1, a0, a1, a2, a3, b0, b1, z0, z1⟩ := HS8.out) | (refine append_deeds rfl _ _ rfl w4.heap.size _ l [(x, (X : Int), zz, u)] rfl (World.ownsRow.alloc HO8.out _) (w8.heap.size + 1) _ rfl (one_deed w8 x X zz u) (by simp; omega) (by have := HB8.out.size; simp; omega) ?_; intro v9 w9 hown2 hb9; obtain ⟨A9, c9, hv9⟩ := Rd.val hown2.deeds; rw [List.length_append, List.length_singleton] at hv9; subst hv9; have HS9 := Lib.hid ((HS8.out.below ((Below.refl _ _).alloc (Nat.le_refl _) _)).belowB hb9 HS4.out.lq HS4.out.lr HS4.out.lp); have HO9 := Lib.hid hown2; have HB9 := Lib.hid (HB4.out.trans (((HB8.out.alloc HB8.out.size _).trans hb9).mono HB4.out.size)); clear hown2 hb9 c0 c1' f0 f1 a0 a1 a2 a3 b0 b1 z0 z1; obtain ⟨-, -, -, c0, c1', f0, f1, a0, a1, a2, a3, b0, b1, z0, z1⟩ := HS9.out))
    (try simp only [Exit.inBlock, Exit.then])
    refine bodyPost_ret ((results_cell_tmp2 rfl _ _ _).trans (by simp [go_sem, b0, b1]; rfl)) rfl ?_
    exact vans_fin (S := S) (told := tv) (by rw [HT2.out]) HO9.out HB9.out HB4.out.size ⟨by rw [HQ.out]; omega, HS4.out.lq⟩ ⟨by rw [HQ.out]; omega, HS4.out.lp⟩ _ _ _
end Go.Proofs.YtkindaadadggoaaDoor
namespace Go.Proofs.YtkindaadadggoaaDoor
open Go.RowKit

def hitI (l : List Deed4V) (X m t : Nat) : Prop := Vw.wroteL (nats l) X t = true ∧ ∃ n, m ≤ n ∧ n < l.length ∧ Vw.comW (nats l) t n = true
theorem staleL_iff {l : List Deed4V} {X m : Nat} (hm : Vw.whenN (nats l) X 4 = m) : Vw.staleL (nats l) X = true ↔ ∃ t, t < 4 ∧ hitI l X m t := by
  have hl := length_nats l
  unfold Vw.staleL hitI
  rw [List.any_eq_true]
  refine exists_congr fun t => ?_
  rw [List.mem_range, Bool.and_eq_true, List.any_eq_true, hm, hl]
  refine and_congr_right fun _ => and_congr_right fun _ => exists_congr fun n => ?_
  rw [List.mem_range, Bool.and_eq_true, decide_eq_true_eq]
  exact ⟨fun ⟨a, b, c⟩ => ⟨b, a, c⟩, fun ⟨b, a, c⟩ => ⟨a, b, c⟩⟩
set_option maxRecDepth 20000 in
set_option maxHeartbeats 8000000 in
theorem rview_5 (l : List Deed4V) (S : Nat) (x : Int) (X : Nat) (z u : Int) (A : Option Addr) (cap : Nat) (w : World) (hr : VDeeds w w.heap.size (.slice A l.length cap) l) (hok : ∀ d ∈ l, vokI d) (hl : l.length ≤ 1000) (hS : S < 32) (hv : vokI (x, (X : Int), z, u)) (hx : x = 5) (h4 : 0 ≤ whenI l X 4) (h5 : whenI l X 5 < 0) (hb : S.testBit X = false) :
    Calls Tryd.prog 54 #[.agg #[.slice A l.length cap, nv S], .agg #[.int .i64 x, .int .i64 (X : Int), .int .i64 z, .int .i64 u]] w fun e w' => (Vw.staleL (nats l) X = true ∧ e = .returned (.tuple #[.agg #[.slice A l.length cap, nv (S ||| 2 ^ X)], .int .i64 0, .int .i64 6]) ∧ Below w.heap.size w w') ∨ (Vw.staleL (nats l) X = false ∧ VAns w w' e l (x, (X : Int), z, u) S (-1)) := by
  have c1 := Lib.hid fun w5 : World => rin_calls x 3 5 w5
  have c2 := Lib.hid fun w5 : World => rin_calls (X : Int) 0 4 w5
  have c3 := Lib.hid fun w5 : World => rin_calls z 0 3 w5
  have c4 := Lib.hid fun w5 : World => rin_calls u 0 1 w5
  obtain ⟨o1, o2, o3⟩ := hv
  simp only at o1 o2 o3
  rw [decide_eq_true (show ((3 : Int) ≤ x ∧ x ≤ 5) from o1)] at c1
  rw [decide_eq_true (show ((0 : Int) ≤ (X : Int) ∧ (X : Int) ≤ 4) from o2)] at c2
  have hX : X < 5 := by omega
  have hc5 := Lib.hid (show ∀ w5 : World, Calls Tryd.prog 29 #[nv S, iv (X : Int)] w5 (fun e w' => e = .returned (.bool (S.testBit X)) ∧ w5 = w') from fun w5 => bit_calls S X w5 (by omega) (by omega))
  have h34 : ((x == 3) = true ∧ decide (0 ≤ z ∧ z ≤ 3) = true ∧ decide (0 ≤ u ∧ u ≤ 1) = true) ∨ (x == 3) = false := by
    by_cases e : x = 3
    · exact .inl ⟨by simpa using e, decide_eq_true (o3 e).1, decide_eq_true (o3 e).2⟩
    · exact .inr (by simpa using e)
  have hw4 := Lib.hid (show ∀ w5 : World, Below w.heap.size w w5 → Calls Tryd.prog 76 #[.agg #[.slice A l.length cap, nv S], iv (X : Int), .int .i64 4] w5 (fun e w' => e = .returned (iv (whenI l X 4)) ∧ Below w5.heap.size w5 w') from fun w5 h5 => when_calls l S X 4 (.slice A l.length cap) w5 ((Rd.below hr h5).more h5.size) hok hl)
  have hw5 := Lib.hid (show ∀ w5 : World, Below w.heap.size w w5 → Calls Tryd.prog 76 #[.agg #[.slice A l.length cap, nv S], iv (X : Int), .int .i64 5] w5 (fun e w' => e = .returned (iv (whenI l X 5)) ∧ Below w5.heap.size w5 w') from fun w5 h5 => when_calls l S X 5 (.slice A l.length cap) w5 ((Rd.below hr h5).more h5.size) hok hl)
  have HR := Lib.hid hr
  clear hr
  have k1 : (x == 4) = false := by simp [hx]
  have k2 : (x != 4) = true := by simp [hx]
  have k3 : decide (0 ≤ whenI l X 4) = true := decide_eq_true h4
  have k4 : decide (whenI l X 5 < 0) = true := decide_eq_true h5
  have t5 : (x == 5) = true := by simp [hx]
  have t3 : (x == 3) = false := by simp [hx]
  rw [hb] at hc5
  have hmm : ∃ m : Nat, whenI l X 4 = (m : Int) ∧ m < l.length ∧ Vw.whenN (nats l) X 4 = m := by
    unfold whenI at h4 ⊢
    split
    · rename_i g; exact ⟨_, rfl, g, rfl⟩
    · rename_i g; rw [if_neg g] at h4; omega
  obtain ⟨m, hm, hml, hmw⟩ := hmm
  have HST := Lib.hid (staleL_iff hmw)
  rw [hm] at hw4 k3
  have hwi := Lib.hid fun w5 : World => with_any S X w5 hS hX
  have hwr := Lib.hid (show ∀ (Y t : Nat) (w5 : World), Below w.heap.size w w5 → Calls Tryd.prog 77 #[.agg #[.slice A l.length cap, nv S], nv Y, nv t] w5 (fun e w' => e = .returned (.bool (Vw.wroteL (nats l) Y t)) ∧ Below w5.heap.size w5 w') from fun Y t w5 h5 => rwrote_calls l S Y t (.slice A l.length cap) w5 ((Rd.below HR.out h5).more h5.size) hok hl)
  have HOK := Lib.hid hok
  clear h34 h4 h5 hb hx hm hmw
  generalize whenI l X 5 = i5 at *
  generalize Vw.staleL (nats l) X = st at *
  clear o1 o2 o3 hok
  go_enter Tryd.func54, Tryd.ntmps54
  go_wp2_with fail
  have HSB := Lib.hid (Sb.new w (.slice A l.length cap) S x (X : Int) z u 83 49 83)
  have HBB := Lib.hid (((Below.refl w.heap.size w).alloc (Nat.le_refl _) (.cells #[.slice A l.length cap, nv S] 83)).alloc (by simp) (.cells #[iv x, iv (X : Int), iv z, iv u] 49) |>.alloc (by simp; omega) (.cells #[.slice none 0 0, .int .i64 0] 83))
  generalize hW : ((w.alloc (.cells #[.slice A l.length cap, nv S] 83)).alloc (.cells #[iv x, iv (X : Int), iv z, iv u] 49)).alloc (.cells #[.slice none 0 0, .int .i64 0] 83) = W at *
  clear hW
  obtain ⟨q, hq⟩ : ∃ q, q = w.heap.size := ⟨_, rfl⟩
  rw [← hq] at HSB ⊢
  have HQ := Lib.hid hq
  clear hq
  obtain ⟨-, -, -, c0, c1', f0, f1, a0, a1, a2, a3, b0, b1, z0, z1⟩ := HSB.out
  go_wp2_with (go_at_call 69; first | ((with_reducible refine (c1.out _).mono ?_); rintro e w' ⟨rfl, rfl⟩) | ((with_reducible refine (c2.out _).mono ?_); rintro e w' ⟨rfl, rfl⟩) | ((with_reducible refine (c3.out _).mono ?_); rintro e w' ⟨rfl, rfl⟩) | ((with_reducible refine (c4.out _).mono ?_); rintro e w' ⟨rfl, rfl⟩))
  (with_reducible refine (hw4.out W HBB.out).mono ?_)
  rintro e w1 ⟨rfl, hb1⟩
  have HS1 := Lib.hid (HSB.out.below (hb1.mono (Nat.le_refl _)))
  have HB1 := Lib.hid (HBB.out.trans (hb1.mono HBB.out.size))
  clear hw4 HSB HBB hb1 c0 c1' f0 f1 a0 a1 a2 a3 b0 b1 z0 z1
  obtain ⟨-, -, -, c0, c1', f0, f1, a0, a1, a2, a3, b0, b1, z0, z1⟩ := HS1.out
  go_wp2_with fail
  (with_reducible refine (hw5.out w1 HB1.out).mono ?_)
  rintro e w2 ⟨rfl, hb2⟩
  have HS2 := Lib.hid (HS1.out.below (hb2.mono (Nat.le_refl _)))
  have HB2 := Lib.hid (HB1.out.trans (hb2.mono HB1.out.size))
  clear hw5 HS1 HB1 hb2 c0 c1' f0 f1 a0 a1 a2 a3 b0 b1 z0 z1
  obtain ⟨-, -, -, c0, c1', f0, f1, a0, a1, a2, a3, b0, b1, z0, z1⟩ := HS2.out
  go_wp2_with (go_at_call 29; (with_reducible refine (hc5.out _).mono ?_); rintro e w' ⟨rfl, rfl⟩)
  go_loopw [9] (fun jv wr => ∃ j : Nat, j ≤ 4 ∧ jv = nv j ∧ Hid (∀ t, t < j → ¬ hitI l X m t) ∧ Hid (Sb wr q (q + 1) (q + 1 + 1) (.slice A l.length cap) S x (X : Int) z u ∧ Below w.heap.size w wr)) (fun jv _ => 4 - (intOf jv).toNat)
  case atStart => exact ⟨0, by omega, rfl, Lib.hid fun t ht => absurd ht (Nat.not_lt_zero _), Lib.hid ⟨HS2.out, HB2.out⟩⟩
  case round =>
    clear HS2 HB2 c0 c1' f0 f1 a0 a1 a2 a3 b0 b1 z0 z1
    obtain ⟨j, hj, rfl, hno, hsb⟩ := hrel
    have hS := Lib.hid hsb.out.1
    have hB := Lib.hid hsb.out.2
    clear hsb
    by_cases hj4 : j < 4
    · have ij : (j : Int) < 4 := by omega
      go_wp2_with fail
      go_loopw [10] (fun nvv wr => ∃ n : Nat, m ≤ n ∧ n ≤ l.length ∧ nvv = nv n ∧ Hid (∀ t, m ≤ t → t < n → Vw.comW (nats l) j t = false) ∧ Hid (Sb wr q (q + 1) (q + 1 + 1) (.slice A l.length cap) S x (X : Int) z u ∧ Below w.heap.size w wr)) (fun nvv _ => l.length - (intOf nvv).toNat)
      case atStart => exact ⟨m, Nat.le_refl _, Nat.le_of_lt hml, rfl, Lib.hid fun t h1 h2 => absurd h2 (Nat.not_lt.2 h1), Lib.hid ⟨hS.out, hB.out⟩⟩
      case round =>
        clear hS hB
        obtain ⟨n, hmn, hnl, rfl, hnc, hsb⟩ := hrel
        have hS := Lib.hid hsb.out.1
        have hB := Lib.hid hsb.out.2
        clear hsb
        obtain ⟨-, -, -, c0, c1', f0, f1, a0, a1, a2, a3, b0, b1, z0, z1⟩ := hS.out
        by_cases hnn : n < l.length
        · have inn : (n : Int) < (l.length : Int) := by omega
          go_wp2_with fail
          (with_reducible refine (hwr.out X j wr hB.out).mono ?_)
          rintro e w5 ⟨rfl, hb5⟩
          have HS5 := Lib.hid (hS.out.below hb5)
          have HB5 := Lib.hid (hB.out.trans (hb5.mono hB.out.size))
          clear hS hB hb5 c0 c1' f0 f1 a0 a1 a2 a3 b0 b1 z0 z1
          obtain ⟨lq, -, -, c0, c1', f0, f1, a0, a1, a2, a3, b0, b1, z0, z1⟩ := HS5.out
          cases hwx : Vw.wroteL (nats l) X j with
          | false =>
            have HN := Lib.hid (show ∀ t, t < j + 1 → ¬ hitI l X m t from fun t ht => by
              by_cases e : t = j
              · rw [e]; intro g; have g1 := g.1; rw [hwx] at g1; cases g1
              · exact hno.out t (by omega))
            clear hwx hno hnc
            go_wp2_with fail
            go_roundw
            case rel => exact ⟨j + 1, by omega, by go_num, HN, Lib.hid ⟨HS5.out, HB5.out⟩⟩
            case measure => simp [intOf]; omega
          | true =>
            obtain ⟨bb, off, cap', he, hbb, K, Y, z5, u5, hd, -, -, hY, -, d0, d1, -, -⟩ := VDeeds.nat_ (Rd.below HR.out HB5.out) HOK.out hnn
            cases he
            have hbw : bb < w5.heap.size := Nat.lt_of_lt_of_le hbb HB5.out.size
            have hdat := dat_nats hnn
            rw [hd] at hdat
            have HCW := Lib.hid (show Vw.comW (nats l) j n = (decide (K = 5) && Vw.wroteL (nats l) Y j) by rw [Vw.comW, hdat])
            have HNX := Lib.hid fun (h : Vw.comW (nats l) j n = false) (t : Nat) (h1 : m ≤ t) (h2 : t < n + 1) => show Vw.comW (nats l) j t = false by
              by_cases e : t = n
              · rw [e]; exact h
              · exact hnc.out t h1 (by omega)
            have HHIT := Lib.hid fun (h : Vw.comW (nats l) j n = true) => HST.out.2 ⟨j, hj4, hwx, n, hmn, hnn, h⟩
            clear hd hdat hbb hwx hnc
            by_cases g : K = 5
            · subst g
              have hwy := Lib.hid fun (w6 : World) (h6 : Below w5.heap.size w5 w6) => hwr.out Y j w6 (HB5.out.trans (h6.mono HB5.out.size))
              cases hwb : Vw.wroteL (nats l) Y j with
              | false =>
                rw [hwb] at hwy HCW
                have HN2 := Lib.hid (HNX.out (by rw [HCW.out]; rfl))
                clear HCW HNX HHIT hwb
                go_wp2_with fail
                go_region_held3 (fun w' => w'.cell? ⟨q, 0, none⟩ = some (.slice (some ⟨bb, off, none⟩) l.length cap) ∧ w'.cell? ⟨q, 1, none⟩ = some (nv S) ∧ w'.cell? ⟨bb, off + n * 4, none⟩ = some (nv 5) ∧ w'.cell? ⟨bb, off + n * 4 + 1, none⟩ = some (nv Y) ∧ Below w5.heap.size w5 w')
                  (first | exact ⟨c0, c1', d0, d1, (Below.refl _ _).drew⟩ | (refine ⟨(Below.cell (w := w5) (B := w5.heap.size) ?_ lq).trans c0, (Below.cell (w := w5) (B := w5.heap.size) ?_ lq).trans c1', (Below.cell (w := w5) (B := w5.heap.size) ?_ hbw).trans d0, (Below.cell (w := w5) (B := w5.heap.size) ?_ hbw).trans d1, ?_⟩ <;> go_grown))
                  (first | (go_at_call 77; refine (hwy.out w5.drew (Below.refl _ _).drew).mono ?_; rintro e w10 ⟨rfl, hbl⟩; have hb10 : Below w5.heap.size w5 w10 := (Below.refl _ _).drew.trans hbl))
                have HS6 := Lib.hid (HS5.out.below hb10)
                have HB6 := Lib.hid (HB5.out.trans (hb10.mono HB5.out.size))
                clear hwy
                go_wp2_with fail
                go_roundw
                case rel => exact ⟨n + 1, by omega, by omega, by go_num, HN2, Lib.hid ⟨HS6.out, HB6.out⟩⟩
                case measure => simp [intOf]; omega
              | true =>
                rw [hwb] at hwy HCW
                have HSTT := Lib.hid (HHIT.out (by rw [HCW.out]; rfl))
                clear HCW HNX HHIT hwb
                go_wp2_with fail
                go_region_held3 (fun w' => w'.cell? ⟨q, 0, none⟩ = some (.slice (some ⟨bb, off, none⟩) l.length cap) ∧ w'.cell? ⟨q, 1, none⟩ = some (nv S) ∧ w'.cell? ⟨bb, off + n * 4, none⟩ = some (nv 5) ∧ w'.cell? ⟨bb, off + n * 4 + 1, none⟩ = some (nv Y) ∧ Below w5.heap.size w5 w')
                  (first | exact ⟨c0, c1', d0, d1, (Below.refl _ _).drew⟩ | (refine ⟨(Below.cell (w := w5) (B := w5.heap.size) ?_ lq).trans c0, (Below.cell (w := w5) (B := w5.heap.size) ?_ lq).trans c1', (Below.cell (w := w5) (B := w5.heap.size) ?_ hbw).trans d0, (Below.cell (w := w5) (B := w5.heap.size) ?_ hbw).trans d1, ?_⟩ <;> go_grown))
                  (first | (go_at_call 77; refine (hwy.out w5.drew (Below.refl _ _).drew).mono ?_; rintro e w10 ⟨rfl, hbl⟩; have hb10 : Below w5.heap.size w5 w10 := (Below.refl _ _).drew.trans hbl))
                have HS6 := Lib.hid (HS5.out.below hb10)
                have HBE := Lib.hid (HB5.out.trans (hb10.mono HB5.out.size))
                clear hwy hb10 d0 d1 lq c0 c1' f0 f1 a0 a1 a2 a3 b0 b1 z0 z1
                obtain ⟨-, -, -, c0, c1', f0, f1, a0, a1, a2, a3, b0, b1, z0, z1⟩ := HS6.out
                have hwT := Lib.hid (hwi.out)
                go_wp2_with (go_at_call 28; (with_reducible refine (hwi.out _).mono ?_); rintro e w' ⟨rfl, rfl⟩)
                (try simp only [Exit.inBlock, Exit.then])
                refine bodyPost_ret ((results_cell_tmp2 rfl _ _ _).trans (by simp [go_sem, b0, b1]; rfl)) rfl ?_
                exact .inl ⟨HSTT.out, rfl, fin2 (HBE.out.setCell (p := ⟨q, 1, none⟩) (by rw [HQ.out]; exact Nat.le_refl _) _) (by rw [HQ.out]; omega) _ _⟩
            · have tk : ((K : Int) == 5) = false := by simp; omega
              have HN2 := Lib.hid (HNX.out (by rw [HCW.out]; simp [g]))
              clear HCW HNX HHIT
              go_wp2_with fail
              go_quiet (fail)
              go_wp2_with fail
              go_roundw
              case rel => exact ⟨n + 1, by omega, by omega, by go_num, HN2, Lib.hid ⟨HS5.out.below (drn (Below.refl _ _) _), drn HB5.out _⟩⟩
              case measure => simp [intOf]; omega
        · obtain rfl : n = l.length := by omega
          have HN := Lib.hid (show ∀ t, t < j + 1 → ¬ hitI l X m t from fun t ht => by
            by_cases e : t = j
            · rw [e]
              rintro ⟨-, n, h1, h2, h3⟩
              rw [hnc.out n h1 h2] at h3
              cases h3
            · exact hno.out t (by omega))
          clear hno hnc
          go_wp2_with fail
          go_roundw
          case rel => exact ⟨j + 1, by omega, by go_num, HN, Lib.hid ⟨hS.out, hB.out⟩⟩
          case measure => simp [intOf]; omega
    · obtain rfl : j = 4 := by omega
      have HSF := Lib.hid (show st = false by
        cases h : st
        · rfl
        · obtain ⟨t, h1, h2⟩ := HST.out.1 h
          exact absurd h2 (hno.out t h1))
      clear hno
      obtain ⟨-, -, -, c0, c1', f0, f1, a0, a1, a2, a3, b0, b1, z0, z1⟩ := hS.out
      have HD1 := Lib.hid (show VDeeds wr wr.heap.size (.slice A l.length cap) l from (Rd.below HR.out hB.out).more hB.out.size)
      go_wp2_with (at_builtin; first | (refine append_deeds rfl _ _ rfl wr.heap.size _ [] l rfl (OwnD.nil _ _) wr.heap.size _ rfl HD1.out (by simp; omega) (Nat.le_refl _) ?_; intro v8 w8 hown1 hb8; have HS8 := Lib.hid (hS.out.below hb8); have HO8 := Lib.hid hown1; have HB8 := Lib.hid hb8; clear hown1 hb8 c0 c1' f0 f1 a0 a1 a2 a3 b0 b1 z0 z1; obtain ⟨-, -, -, c0, c1', f0, f1, a0, a1, a2, a3, b0, b1, z0, z1⟩ := HS8.out) | (refine append_deeds rfl _ _ rfl wr.heap.size _ l [(x, (X : Int), z, u)] rfl (World.ownsRow.alloc HO8.out _) (w8.heap.size + 1) _ rfl (one_deed w8 x X z u) (by simp; omega) (by have := HB8.out.size; simp; omega) ?_; intro v9 w9 hown2 hb9; obtain ⟨A9, c9, hv9⟩ := Rd.val hown2.deeds; rw [List.length_append, List.length_singleton] at hv9; subst hv9; have HS9 := Lib.hid ((HS8.out.below ((Below.refl _ _).alloc (Nat.le_refl _) _)).belowB hb9 hS.out.lq hS.out.lr hS.out.lp); have HO9 := Lib.hid hown2; have HB9 := Lib.hid (hB.out.trans (((HB8.out.alloc HB8.out.size _).trans hb9).mono hB.out.size)); clear hown2 hb9 c0 c1' f0 f1 a0 a1 a2 a3 b0 b1 z0 z1; obtain ⟨-, -, -, c0, c1', f0, f1, a0, a1, a2, a3, b0, b1, z0, z1⟩ := HS9.out))
      (try simp only [Exit.inBlock, Exit.then])
      refine bodyPost_ret ((results_cell_tmp2 rfl _ _ _).trans (by simp [go_sem, b0, b1]; rfl)) rfl ?_
      exact .inr ⟨HSF.out, vans_fin (S := S) (told := -1) rfl HO9.out HB9.out hB.out.size ⟨by rw [HQ.out]; omega, hS.out.lq⟩ ⟨by rw [HQ.out]; omega, hS.out.lp⟩ _ _ _⟩
end Go.Proofs.YtkindaadadggoaaDoor
namespace Go.Proofs.YtkindaadadggoaaDoor
open Go.RowKit

/-- what the reference's View does: the deeds, who was stopped; what is told; the refusal -/
def viewI (l : List Deed4V) (S : Nat) (d : Deed4V) : (List Deed4V × Nat) × Int × Nat :=
  if vokI d then (((if (Vw.vref (nats l) S (natD d)).2.2 = 0 then l ++ [d] else l), (Vw.vref (nats l) S (natD d)).1.2), (Vw.vref (nats l) S (natD d)).2.1, (Vw.vref (nats l) S (natD d)).2.2) else ((l, S), 0, 1)
/-- what View answers in memory -/
def RAns (w w' : World) (e : Ending) (l : List Deed4V) (v : Value) (r : (List Deed4V × Nat) × Int × Nat) : Prop :=
  ∃ v', e = .returned (.tuple #[.agg #[v', nv r.1.2], iv r.2.1, nv r.2.2]) ∧ ((v' = v ∧ r.1.1 = l) ∨ OwnD w' w.heap.size v' r.1.1) ∧ Below w.heap.size w w'
theorem whenI_iff {l : List Deed4V} (x k : Nat) : (0 ≤ whenI l x k ↔ Vw.whenN (nats l) x k < (nats l).length) ∧ (whenI l x k < 0 ↔ Vw.whenN (nats l) x k = (nats l).length) := by
  have h := Vw.when_le_len (L := nats l) x k
  have hl := length_nats l
  unfold whenI
  split
  · rename_i g; constructor <;> constructor <;> intro q <;> omega
  · rename_i g; constructor <;> constructor <;> intro q <;> omega
theorem vref_ref {L : List Vw.D4} {S : Nat} {d : Vw.D4} (h : (d.1 = 4 ∧ Vw.whenN L d.2.1 4 < L.length) ∨ (d.1 ≠ 4 ∧ ¬ (Vw.whenN L d.2.1 4 < L.length ∧ Vw.whenN L d.2.1 5 = L.length ∧ S.testBit d.2.1 = false))) : Vw.vref L S d = ((L, S), 0, 7) := by
  unfold Vw.vref; rw [if_pos h]
theorem rview_calls (l : List Deed4V) (S : Nat) (d : Deed4V) (A : Option Addr) (cap : Nat) (w : World) (hr : VDeeds w w.heap.size (.slice A l.length cap) l) (hok : ∀ d ∈ l, vokI d) (hl : l.length ≤ 1000) (hS : S < 32) :
    Calls Tryd.prog 54 #[.agg #[.slice A l.length cap, nv S], .agg #[iv d.1, iv d.2.1, iv d.2.2.1, iv d.2.2.2]] w fun e w' => RAns w w' e l (.slice A l.length cap) (viewI l S d) := by
  obtain ⟨x, y, z, u⟩ := d
  by_cases hv : vokI (x, y, z, u)
  · have hv' := hv
    obtain ⟨⟨o1, o2⟩, ⟨o3, o4⟩, o5⟩ := hv'
    simp only at o1 o2 o3 o4 o5
    obtain ⟨X, rfl⟩ : ∃ X : Nat, y = (X : Int) := ⟨y.toNat, by omega⟩
    have hd : natD (x, (X : Int), z, u) = (x.toNat, X, z.toNat, u.toNat) := by unfold natD; simp
    have w4 := whenI_iff (l := l) X 4
    have w5 := whenI_iff (l := l) X 5
    unfold viewI
    rw [if_pos hv, hd]
    by_cases href : refI l S x X
    · have e : Vw.vref (nats l) S (x.toNat, X, z.toNat, u.toNat) = ((nats l, S), 0, 7) := by
        refine vref_ref ?_
        rcases href with ⟨g1, g2⟩ | ⟨g1, g2⟩
        · exact .inl ⟨by show x.toNat = 4; omega, w4.1.1 g2⟩
        · exact .inr ⟨by show x.toNat ≠ 4; omega, fun q => g2 ⟨w4.1.2 q.1, w5.2.2 q.2.1, q.2.2⟩⟩
      rw [e]
      exact (rview_7 l S x X z u A cap w hr hok hl hS hv href).mono fun e w' ⟨h1, h2⟩ => ⟨_, h1, .inl ⟨rfl, rfl⟩, h2⟩
    · have hnr : ¬ ((x.toNat = 4 ∧ Vw.whenN (nats l) X 4 < (nats l).length) ∨ (x.toNat ≠ 4 ∧ ¬ (Vw.whenN (nats l) X 4 < (nats l).length ∧ Vw.whenN (nats l) X 5 = (nats l).length ∧ S.testBit X = false))) := by
        rintro (⟨g1, g2⟩ | ⟨g1, g2⟩)
        · exact href (.inl ⟨by omega, w4.1.2 g2⟩)
        · exact href (.inr ⟨by omega, fun q => g2 ⟨w4.1.1 q.1, w5.2.1 q.2.1, q.2.2⟩⟩)
      have done : ∀ (told : Int) (e : Ending) (w' : World), VAns w w' e l (x, (X : Int), z, u) S told → Vw.vref (nats l) S (x.toNat, X, z.toNat, u.toNat) = ((nats l ++ [(x.toNat, X, z.toNat, u.toNat)], S), told, 0) → RAns w w' e l (.slice A l.length cap) (((if (Vw.vref (nats l) S (x.toNat, X, z.toNat, u.toNat)).2.2 = 0 then l ++ [(x, (X : Int), z, u)] else l), (Vw.vref (nats l) S (x.toNat, X, z.toNat, u.toNat)).1.2), (Vw.vref (nats l) S (x.toNat, X, z.toNat, u.toNat)).2.1, (Vw.vref (nats l) S (x.toNat, X, z.toNat, u.toNat)).2.2) := by
        rintro told e w' ⟨v', h1, h2, h3⟩ hvr
        rw [hvr]
        exact ⟨v', h1, .inr (by rw [if_pos rfl]; exact h2), h3⟩
      have hvr : Vw.vref (nats l) S (x.toNat, X, z.toNat, u.toNat) = if x.toNat = 5 ∧ Vw.staleL (nats l) X = true then ((nats l, S ||| 2 ^ X), 0, 6) else ((nats l ++ [(x.toNat, X, z.toNat, u.toNat)], S), Vw.toldL (nats l) (x.toNat, X, z.toNat, u.toNat), 0) := by
        unfold Vw.vref; rw [if_neg hnr]
      by_cases h4 : x = 4
      · have hn : whenI l X 4 < 0 := by
          rcases Int.lt_or_le (whenI l X 4) 0 with q | q
          · exact q
          · exact absurd (.inl ⟨h4, q⟩) href
        refine (rview_4 l S x X z u A cap w hr hok hl hS hv h4 hn).mono fun e w' hh => done (-1) e w' hh ?_
        rw [hvr, if_neg (fun q => by omega)]
        unfold Vw.toldL
        simp only
        rw [if_neg (fun q => by omega)]
      · have hopn : 0 ≤ whenI l X 4 ∧ whenI l X 5 < 0 ∧ S.testBit X = false := Decidable.byContradiction fun q => href (.inr ⟨h4, q⟩)
        obtain ⟨g4, g5, gs⟩ := hopn
        by_cases h5 : x = 5
        · refine (rview_5 l S x X z u A cap w hr hok hl hS hv h5 g4 g5 gs).mono fun e w' hh => ?_
          rcases hh with ⟨s1, s2, s3⟩ | ⟨s1, s2⟩
          · have e6 : Vw.vref (nats l) S (x.toNat, X, z.toNat, u.toNat) = ((nats l, S ||| 2 ^ X), 0, 6) := by
              rw [hvr, if_pos (show x.toNat = 5 ∧ Vw.staleL (nats l) X = true from ⟨by omega, s1⟩)]
            rw [e6]
            exact ⟨_, s2, .inl ⟨rfl, rfl⟩, s3⟩
          · refine done (-1) e w' s2 ?_
            rw [hvr, if_neg (fun q => by rw [s1] at q; cases q.2)]
            unfold Vw.toldL
            simp only
            rw [if_neg (fun q => by omega)]
        · have h3 : x = 3 := by omega
          have hu : u = 0 ∨ u = 1 := by have := (o5 h3).2; omega
          rcases hu with hu | hu
          · refine (rview_r l S x X z u A cap w hr hok hl hS hv h3 hu g4 g5 gs).mono fun e w' hh => done _ e w' hh ?_
            rw [hvr, if_neg (fun q => by omega)]
            unfold Vw.toldL
            simp only
            rw [if_pos ⟨by omega, by omega⟩]
            have : (whenI l X 4).toNat = Vw.whenN (nats l) X 4 := by
              have := w4.1.1 g4
              rw [length_nats] at this
              unfold whenI
              rw [if_pos this]; simp
            rw [this]
          · refine (rview_w l S x X z u A cap w hr hok hl hS hv h3 hu g4 g5 gs).mono fun e w' hh => done (-1) e w' hh ?_
            rw [hvr, if_neg (fun q => by omega)]
            unfold Vw.toldL
            simp only
            rw [if_neg (fun q => by omega)]
  · unfold viewI
    rw [if_neg hv]
    exact (rview_bad S x y z u A l.length cap w hv).mono fun e w' ⟨h1, h2⟩ => ⟨_, h1, .inl ⟨rfl, rfl⟩, h2⟩
end Go.Proofs.YtkindaadadggoaaDoor
namespace Go.Proofs.YtkindaadadggoaaDoor
open Go.RowKit

theorem nats_snoc (l : List Deed4V) (d : Deed4V) : nats (l ++ [d]) = nats l ++ [natD d] := by simp [nats]
/-- what holds of the two stores amid the deeds -/
structure Both2 (v : Vw.V) (l : List Deed4V) (S : Nat) : Prop where
  rel : Vw.Rel v (nats l) S
  ok : ∀ d ∈ l, vokI d
  lt : S < 32
theorem both0 : Both2 Vw.v0 [] 0 := ⟨Vw.relInit, fun d hd => (by cases hd), by decide⟩
theorem Both2.step {v : Vw.V} {l : List Deed4V} {S : Nat} (hI : Vw.Inv v) (h : Both2 v l S) (d : Deed4V) : (vstepI v d).2 = (viewI l S d).2 ∧ Both2 (vstepI v d).1 (viewI l S d).1.1 (viewI l S d).1.2 ∧ (viewI l S d).1.1.length ≤ l.length + 1 := by
  unfold vstepI viewI
  by_cases hv : vokI d
  · rw [if_pos hv, if_pos hv]
    have hok := okD_nat hv
    obtain ⟨s1, s2⟩ := h.rel.step hI hok
    refine ⟨s1, ⟨?_, ?_, ?_⟩, ?_⟩
    · simp only
      have key : nats (if (Vw.vref (nats l) S (natD d)).2.2 = 0 then l ++ [d] else l) = (Vw.vref (nats l) S (natD d)).1.1 := by
        unfold Vw.vref
        split
        · rw [if_neg (show ¬ ((7 : Nat) = 0) by decide)]
        · split
          · rw [if_neg (show ¬ ((6 : Nat) = 0) by decide)]
          · rw [if_pos rfl, nats_snoc]
      rw [key]
      exact s2
    · simp only
      intro e he
      split at he
      · rcases List.mem_append.1 he with q | q
        · exact h.ok e q
        · rw [List.mem_singleton.1 q]; exact hv
      · exact h.ok e he
    · simp only
      have hx : (natD d).2.1 < 5 := hok.2.2.1
      unfold Vw.vref
      split
      · exact h.lt
      · split
        · exact Nat.or_lt_two_pow (n := 5) h.lt (Nat.pow_lt_pow_right (by omega) hx)
        · exact h.lt
    · simp only
      split
      · simp
      · omega
  · rw [if_neg hv, if_neg hv]
    exact ⟨rfl, h, Nat.le_succ _⟩
end Go.Proofs.YtkindaadadggoaaDoor
namespace Go.Proofs.YtkindaadadggoaaDoor
namespace Vw
open Odr Sch

/-- whoever committed: the set that the law gathers -/
theorem Rel.comBit {v : V} {L : List D4} {S : Nat} (h : Rel v L S) {t : Nat} (ht : t < 5) : (com v).testBit t = decide (whenN L t 5 < L.length) := by
  unfold com
  rw [testBit_comTo, decide_eq_true ht, Bool.true_and]
  rw [Bool.eq_iff_iff, decide_eq_true_eq, decide_eq_true_eq, h.ph t ht]
  exact h.hi.ph2 t
/-- the danger that the law reckons out of the second row -/
def dangB (O : List Nat) : Bool := (List.range 5).any fun i => (List.range 5).any fun j => rel O i j && decide (O.getD j 0 ≠ 0)
theorem dangB_ed {v : V} (hI : Inv v) : dangB (ed v).2 = danger v := by
  unfold dangB danger
  rw [Bool.eq_iff_iff, List.any_eq_true, List.any_eq_true]
  refine exists_congr fun i => and_congr_right fun _ => ?_
  rw [List.any_eq_true, List.any_eq_true]
  refine exists_congr fun j => and_congr_right fun _ => ?_
  rw [Bool.and_eq_true, Bool.and_eq_true, Bool.and_eq_true]
  constructor
  · rintro ⟨g1, g2⟩
    obtain ⟨k, hk, hp, -⟩ := (rel_ed hI i j).2.1 g1
    exact ⟨⟨g1, g2⟩, by simpa using hp.1⟩
  · rintro ⟨g, -⟩; exact g
end Vw
end Go.Proofs.YtkindaadadggoaaDoor
