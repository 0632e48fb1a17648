/- Contract of the reference's Lock, at deeds in range and at others. Conditions: the contract's own premises. -/
import Derived.Test.YtkindaadadggoaaDoorRLockS
import Derived.Test.YtkindaadadggoaaDoorRPass
import Derived.Test.YtkindaadadggoaaDoorTabI
import Derived.Laws.ResultCell
namespace Go.Proofs.YtkindaadadggoaaDoor
open Go.RowKit

theorem with_same : ∀ s, s < 32 → ∀ i, i < 5 → s.testBit i = true → s ||| 2 ^ i = s := by decide
theorem with_any (s i : Nat) (w : World) (hs : s < 32) (hi : i < 5) : Calls Tryd.prog 28 #[nv s, nv i] w fun e w' => e = .returned (nv (s ||| 2 ^ i)) ∧ w = w' := by
  cases h : s.testBit i
  · exact with_calls s i w hs hi h
  · have c1 := Lib.hid fun w5 : World => bit_calls s i w5 (by omega) (by omega)
    rw [h] at c1
    rw [with_same s hs i hi h]
    clear h
    go_enter Tryd.func28, Tryd.ntmps28
    go_wp2_with (go_at_call 29; (with_reducible refine (c1.out _).mono ?_); rintro e w' ⟨rfl, rfl⟩)
    go_ret
    exact ⟨rfl, rfl⟩

/-- the boxes of the locks, of the deed, and of the answer -/
structure Lb (w : World) (q r p : Nat) (vh vw : Value) (sh : Nat) (va : Value) (x y z u : Int) : Prop where
  lq : q < w.heap.size
  lr : r < w.heap.size
  lp : p < w.heap.size
  c0 : w.cell? ⟨q, 0, none⟩ = some vh
  c1 : w.cell? ⟨q, 1, none⟩ = some vw
  c2 : w.cell? ⟨q, 2, none⟩ = some (nv sh)
  c3 : w.cell? ⟨q, 3, none⟩ = some va
  f0 : w.frozen? ⟨q, 0, none⟩ = false
  f1 : w.frozen? ⟨q, 1, none⟩ = false
  f2 : w.frozen? ⟨q, 2, none⟩ = false
  f3 : w.frozen? ⟨q, 3, none⟩ = false
  a0 : w.cell? ⟨r, 0, none⟩ = some (iv x)
  a1 : w.cell? ⟨r, 1, none⟩ = some (iv y)
  a2 : w.cell? ⟨r, 2, none⟩ = some (iv z)
  a3 : w.cell? ⟨r, 3, none⟩ = some (iv u)
  b0 : w.cell? ⟨p, 0, none⟩ = some (.slice none 0 0)
  b1 : w.cell? ⟨p, 1, none⟩ = some (.slice none 0 0)
  b2 : w.cell? ⟨p, 2, none⟩ = some (.int .i64 0)
  b3 : w.cell? ⟨p, 3, none⟩ = some (.slice none 0 0)
  z0 : w.frozen? ⟨p, 0, none⟩ = false
  z1 : w.frozen? ⟨p, 1, none⟩ = false
  z2 : w.frozen? ⟨p, 2, none⟩ = false
  z3 : w.frozen? ⟨p, 3, none⟩ = false
section
variable {w w' : World} {q r p : Nat} {vh vw : Value} {sh : Nat} {va : Value} {x y z u : Int}
theorem Lb.only {S : Nat → Prop} (h : Lb w q r p vh vw sh va x y z u) (ho : Only S w w') (nq : ¬ S q) (nr : ¬ S r) (np : ¬ S p) : Lb w' q r p vh vw sh va x y z u :=
  ⟨Nat.lt_of_lt_of_le h.lq ho.size, Nat.lt_of_lt_of_le h.lr ho.size, Nat.lt_of_lt_of_le h.lp ho.size, (ho.cell h.lq nq).trans h.c0, (ho.cell h.lq nq).trans h.c1, (ho.cell h.lq nq).trans h.c2, (ho.cell h.lq nq).trans h.c3, (ho.frozen h.lq nq).trans h.f0, (ho.frozen h.lq nq).trans h.f1, (ho.frozen h.lq nq).trans h.f2, (ho.frozen h.lq nq).trans h.f3,
    (ho.cell h.lr nr).trans h.a0, (ho.cell h.lr nr).trans h.a1, (ho.cell h.lr nr).trans h.a2, (ho.cell h.lr nr).trans h.a3, (ho.cell h.lp np).trans h.b0, (ho.cell h.lp np).trans h.b1, (ho.cell h.lp np).trans h.b2, (ho.cell h.lp np).trans h.b3, (ho.frozen h.lp np).trans h.z0, (ho.frozen h.lp np).trans h.z1, (ho.frozen h.lp np).trans h.z2, (ho.frozen h.lp np).trans h.z3⟩
theorem Lb.below (h : Lb w q r p vh vw sh va x y z u) (hb : Below w.heap.size w w') : Lb w' q r p vh vw sh va x y z u :=
  h.only (Only.of_below hb (Nat.le_refl _) (fun _ => False)) id id id
theorem Lb.belowB {B : Nat} (h : Lb w q r p vh vw sh va x y z u) (hb : Below B w w') (hq : q < B) (hr : r < B) (hp : p < B) : Lb w' q r p vh vw sh va x y z u :=
  h.only (S := fun k => B ≤ k) ⟨hb.os, hb.tape, hb.output, hb.size, fun k _ hk => hb.block k (Nat.lt_of_not_le hk)⟩ (Nat.not_le.2 hq) (Nat.not_le.2 hr) (Nat.not_le.2 hp)
theorem Lb.new (w : World) (vh vw : Value) (sh : Nat) (va : Value) (x y z u : Int) (t t' t'' : TypeId) : Lb (((w.alloc (.cells #[vh, vw, nv sh, va] t)).alloc (.cells #[iv x, iv y, iv z, iv u] t')).alloc (.cells #[.slice none 0 0, .slice none 0 0, .int .i64 0, .slice none 0 0] t'')) w.heap.size (w.heap.size + 1) (w.heap.size + 1 + 1) vh vw sh va x y z u := by
  refine ⟨by simp; omega, by simp, by simp, ?_, ?_, ?_, ?_, ?_, ?_, ?_, ?_, ?_, ?_, ?_, ?_, ?_, ?_, ?_, ?_, ?_, ?_, ?_, ?_⟩ <;> simp [go_sem]
/-- a field of the locks is stored -/
theorem Lb.set0 (h : Lb w q r p vh vw sh va x y z u) (hr : q ≠ r) (hp : q ≠ p) (v : Value) : Lb (w.setCell ⟨q, 0, none⟩ v) q r p v vw sh va x y z u := by
  have ho := (Only.refl (fun k => k = q) w).setCell (p := ⟨q, 0, none⟩) (.inl rfl) v
  have h2 := h
  obtain ⟨lq, lr, lp, c0, c1, c2, c3, f0, f1, f2, f3, a0, a1, a2, a3, b0, b1, b2, b3, z0, z1, z2, z3⟩ := h
  have nr : ¬ r = q := fun e => hr e.symm
  have np : ¬ p = q := fun e => hp e.symm
  refine ⟨by simpa using lq, by simpa using lr, by simpa using lp, ?_, ?_, ?_, ?_, ?_, ?_, ?_, ?_, (ho.cell lr nr).trans a0, (ho.cell lr nr).trans a1, (ho.cell lr nr).trans a2, (ho.cell lr nr).trans a3, (ho.cell lp np).trans b0, (ho.cell lp np).trans b1, (ho.cell lp np).trans b2, (ho.cell lp np).trans b3, (ho.frozen lp np).trans z0, (ho.frozen lp np).trans z1, (ho.frozen lp np).trans z2, (ho.frozen lp np).trans z3⟩ <;> simp [go_sem, c0, c1, c2, c3, f0, f1, f2, f3]
theorem Lb.set1 (h : Lb w q r p vh vw sh va x y z u) (hr : q ≠ r) (hp : q ≠ p) (v : Value) : Lb (w.setCell ⟨q, 1, none⟩ v) q r p vh v sh va x y z u := by
  have ho := (Only.refl (fun k => k = q) w).setCell (p := ⟨q, 1, none⟩) (.inl rfl) v
  obtain ⟨lq, lr, lp, c0, c1, c2, c3, f0, f1, f2, f3, a0, a1, a2, a3, b0, b1, b2, b3, z0, z1, z2, z3⟩ := h
  have nr : ¬ r = q := fun e => hr e.symm
  have np : ¬ p = q := fun e => hp e.symm
  refine ⟨by simpa using lq, by simpa using lr, by simpa using lp, ?_, ?_, ?_, ?_, ?_, ?_, ?_, ?_, (ho.cell lr nr).trans a0, (ho.cell lr nr).trans a1, (ho.cell lr nr).trans a2, (ho.cell lr nr).trans a3, (ho.cell lp np).trans b0, (ho.cell lp np).trans b1, (ho.cell lp np).trans b2, (ho.cell lp np).trans b3, (ho.frozen lp np).trans z0, (ho.frozen lp np).trans z1, (ho.frozen lp np).trans z2, (ho.frozen lp np).trans z3⟩ <;> simp [go_sem, c0, c1, c2, c3, f0, f1, f2, f3]
end
theorem Own.fin {w2 w3 : World} {B base : Nat} {v : Value} {l : List Int} (h : Own w2 B v l) (ho : Only (fun j => j < B) w2 w3) (hb : base ≤ B) : Own w3 base v l :=
  own_down (h.only ho (fun k hk hs => Nat.not_lt.2 (row_lt h k hk).1 hs)) hb
theorem OwnA.fin {w2 w3 : World} {B base : Nat} {v : Value} {l : List Act3} (h : OwnA w2 B v l) (ho : Only (fun j => j < B) w2 w3) (hb : base ≤ B) : OwnA w3 base v l :=
  OwnA.down (h.only ho (fun k hk hs => Nat.not_lt.2 (row_lt h k hk).1 hs)) hb
/-- what is answered: the same slice, or a new one -/
def Ans (w' : World) (base : Nat) (v v' : Value) (l l' : List Int) : Prop := (v' = v ∧ l' = l) ∨ Own w' base v' l'
def AnsA (w' : World) (base : Nat) (v v' : Value) (l l' : List Act3) : Prop := (v' = v ∧ l' = l) ∨ OwnA w' base v' l'
/-- what Lock answers -/
def LAns (w w' : World) (e : Ending) (l l' : Lk.L) (code : Nat) (A1 A2 A3 : Option Addr) (n1 n2 n3 : Nat) : Prop :=
  ∃ B1 B2 B3 m1 m2 m3, e = .returned (.tuple #[.agg #[.slice B1 20 m1, .slice B2 5 m2, nv l'.shr, .slice B3 l'.acts.length m3], nv code]) ∧
    Ans w' w.heap.size (.slice A1 20 n1) (.slice B1 20 m1) (zs (Lk.holds l)) (zs (Lk.holds l')) ∧ Ans w' w.heap.size (.slice A2 5 n2) (.slice B2 5 m2) (Lk.wantsI l) (Lk.wantsI l') ∧
    AnsA w' w.heap.size (.slice A3 l.acts.length n3) (.slice B3 l'.acts.length m3) (Sch.zacts l.acts) (Sch.zacts l'.acts) ∧ Below w.heap.size w w'
theorem LAns.same {w w' : World} {e : Ending} {l : Lk.L} {code : Nat} {A1 A2 A3 : Option Addr} {n1 n2 n3 : Nat} (h : e = .returned (.tuple #[.agg #[.slice A1 20 n1, .slice A2 5 n2, nv l.shr, .slice A3 l.acts.length n3], nv code])) (hb : Below w.heap.size w w') : LAns w w' e l l code A1 A2 A3 n1 n2 n3 :=
  ⟨A1, A2, A3, n1, n2, n3, h, .inl ⟨rfl, rfl⟩, .inl ⟨rfl, rfl⟩, .inl ⟨rfl, rfl⟩, hb⟩
set_option maxRecDepth 20000 in
set_option maxHeartbeats 4000000 in
theorem rlock_bad (l : Lk.L) (x y z u : Int) (A1 A2 A3 : Option Addr) (n1 n2 n3 : Nat) (w : World) (h : ¬ deedOk (x, y, z, u)) :
    Calls Tryd.prog 40 #[.agg #[.slice A1 20 n1, .slice A2 5 n2, nv l.shr, .slice A3 l.acts.length n3], .agg #[.int .i64 x, .int .i64 y, .int .i64 z, .int .i64 u]] w fun e w' => LAns w w' e l l 1 A1 A2 A3 n1 n2 n3 := by
  have c1 := Lib.hid fun w5 : World => rin_calls x 0 3 w5
  have c2 := Lib.hid fun w5 : World => rin_calls y 0 4 w5
  have c3 := Lib.hid fun w5 : World => rin_calls z 0 3 w5
  have c4 := Lib.hid fun w5 : World => rin_calls u 0 1 w5
  have hw : decide (0 ≤ x ∧ x ≤ 3) = false ∨ (decide (0 ≤ x ∧ x ≤ 3) = true ∧ decide (0 ≤ y ∧ y ≤ 4) = false) ∨ (decide (0 ≤ x ∧ x ≤ 3) = true ∧ decide (0 ≤ y ∧ y ≤ 4) = true ∧ decide (0 ≤ z ∧ z ≤ 3) = false) ∨ (decide (0 ≤ x ∧ x ≤ 3) = true ∧ decide (0 ≤ y ∧ y ≤ 4) = true ∧ decide (0 ≤ z ∧ z ≤ 3) = true ∧ (x == 3) = true ∧ decide (0 ≤ u ∧ u ≤ 1) = false) := by
    by_cases h1 : 0 ≤ x ∧ x ≤ 3
    · by_cases h2 : 0 ≤ y ∧ y ≤ 4
      · by_cases h3 : 0 ≤ z ∧ z ≤ 3
        · refine .inr (.inr (.inr ⟨decide_eq_true h1, decide_eq_true h2, decide_eq_true h3, ?_⟩))
          have hx : x = 3 := Decidable.byContradiction fun e => h ⟨h1, h2, h3, fun e2 => absurd e2 e⟩
          exact ⟨by simpa using hx, decide_eq_false fun h4 => h ⟨h1, h2, h3, fun _ => h4⟩⟩
        · exact .inr (.inr (.inl ⟨decide_eq_true h1, decide_eq_true h2, decide_eq_false h3⟩))
      · exact .inr (.inl ⟨decide_eq_true h1, decide_eq_false h2⟩)
    · exact .inl (decide_eq_false h1)
  clear h
  generalize decide (0 ≤ x ∧ x ≤ 3) = d1 at *
  generalize decide (0 ≤ y ∧ y ≤ 4) = d2 at *
  generalize decide (0 ≤ z ∧ z ≤ 3) = d3 at *
  generalize decide (0 ≤ u ∧ u ≤ 1) = d4 at *
  rcases hw with rfl | ⟨rfl, rfl⟩ | ⟨rfl, rfl, rfl⟩ | ⟨rfl, rfl, rfl, t3, rfl⟩
  all_goals
    go_enter Tryd.func40, Tryd.ntmps40
    go_wp2_with (go_at_call 69; first | ((with_reducible refine (c1.out _).mono ?_); rintro e w' ⟨rfl, rfl⟩) | ((with_reducible refine (c2.out _).mono ?_); rintro e w' ⟨rfl, rfl⟩) | ((with_reducible refine (c3.out _).mono ?_); rintro e w' ⟨rfl, rfl⟩) | ((with_reducible refine (c4.out _).mono ?_); rintro e w' ⟨rfl, rfl⟩))
    (try simp only [Exit.inBlock, Exit.then])
    refine bodyPost_ret ((results_cell_tmp rfl _ _ _).trans (by simp [go_sem]; rfl)) rfl ?_
    exact LAns.same rfl (((Below.refl w.heap.size w).alloc (Nat.le_refl _) _).alloc (by simp) _ |>.alloc (by simp; omega) _)
-- CASES
set_option maxRecDepth 20000 in
set_option maxHeartbeats 8000000 in
theorem rlock_7 (l : Lk.L) (k tx it : Nat) (u : Int) (A1 A2 A3 : Option Addr) (n1 n2 n3 : Nat) (w : World) (hI : Lk.Inv l) (a1 : tx < 5) (a2 : it < 4) (hr : Ints w w.heap.size (.slice A1 20 n1) (zs (Lk.holds l))) (hu : Ints w w.heap.size (.slice A2 5 n2) (Lk.wantsI l)) (ha : Acts w w.heap.size (.slice A3 l.acts.length n3) (Sch.zacts l.acts)) (hk : k < 2) (hs : l.shr.testBit tx = true) :
    Calls Tryd.prog 40 #[.agg #[.slice A1 20 n1, .slice A2 5 n2, nv l.shr, .slice A3 l.acts.length n3], .agg #[.int .i64 (k : Int), .int .i64 (tx : Int), .int .i64 (it : Int), .int .i64 u]] w fun e w' => LAns w w' e l l 7 A1 A2 A3 n1 n2 n3 := by
  have c1 := Lib.hid fun w5 : World => rin_calls (k : Int) 0 3 w5
  have c2 := Lib.hid fun w5 : World => rin_calls (tx : Int) 0 4 w5
  have c3 := Lib.hid fun w5 : World => rin_calls (it : Int) 0 3 w5
  have c4 := Lib.hid fun w5 : World => rin_calls u 0 1 w5
  rw [decide_eq_true (show ((0 : Int) ≤ (k : Int) ∧ (k : Int) ≤ 3) by omega)] at c1
  rw [decide_eq_true (show ((0 : Int) ≤ (tx : Int) ∧ (tx : Int) ≤ 4) by omega)] at c2
  rw [decide_eq_true (show ((0 : Int) ≤ (it : Int) ∧ (it : Int) ≤ 3) by omega)] at c3
  have t1 : ((k : Int) == 3) = false := by simp; omega
  have t2 : decide ((k : Int) ≤ 1) = true := by simp; omega
  have c5 := Lib.hid fun w5 : World => bit_calls l.shr tx w5 (by have := hI.2.2.2.1; omega) (by omega)
  rw [hs] at c5
  clear hs
  have hlh := Lk.length_holds l
  have HG := Lib.hid (Lk.getD_holds l a1 a2)
  have hh4 := Lk.hold_lt l tx it
  have HR := Lib.hid hr
  have HU := Lib.hid hu
  have HA := Lib.hid ha
  have HI := Lib.hid hI
  clear hr hu ha hI
  go_enter Tryd.func40, Tryd.ntmps40
  go_wp2_with fail
  have HLB := Lib.hid (Lb.new w (.slice A1 20 n1) (.slice A2 5 n2) l.shr (.slice A3 l.acts.length n3) (k : Int) (tx : Int) (it : Int) u 62 49 62)
  have HBB := Lib.hid (((Below.refl w.heap.size w).alloc (Nat.le_refl _) (.cells #[.slice A1 20 n1, .slice A2 5 n2, nv l.shr, .slice A3 l.acts.length n3] 62)).alloc (by simp) (.cells #[iv (k : Int), iv (tx : Int), iv (it : Int), iv u] 49) |>.alloc (by simp; omega) (.cells #[.slice none 0 0, .slice none 0 0, .int .i64 0, .slice none 0 0] 62))
  have HW := Lib.hid (show (((w.alloc (.cells #[.slice A1 20 n1, .slice A2 5 n2, nv l.shr, .slice A3 l.acts.length n3] 62)).alloc (.cells #[iv (k : Int), iv (tx : Int), iv (it : Int), iv u] 49)).alloc (.cells #[.slice none 0 0, .slice none 0 0, .int .i64 0, .slice none 0 0] 62)).heap.size = w.heap.size + 3 by simp)
  generalize hW : ((w.alloc (.cells #[.slice A1 20 n1, .slice A2 5 n2, nv l.shr, .slice A3 l.acts.length n3] 62)).alloc (.cells #[iv (k : Int), iv (tx : Int), iv (it : Int), iv u] 49)).alloc (.cells #[.slice none 0 0, .slice none 0 0, .int .i64 0, .slice none 0 0] 62) = W at *
  clear hW
  obtain ⟨_, _, _, c0, c1', c2', c3', f0, f1, f2, f3, d0, d1, d2, d3, b0, b1, b2, b3, z0, z1, z2, z3⟩ := HLB.out
  obtain ⟨bx, off, cx, he, hbx, dx⟩ := Ints.atN (Rd.below HR.out HBB.out) (k := tx * 4 + it) (by omega)
  rw [hlh] at he
  cases he
  rw [HG.out] at dx
  clear HG hlh
  generalize hHO : Lk.hold l tx it = h at *
  have HHO := Lib.hid hHO
  clear hHO
  go_wp2_with (first | (go_at_call 69; first | ((with_reducible refine (c1.out _).mono ?_); rintro e w' ⟨rfl, rfl⟩) | ((with_reducible refine (c2.out _).mono ?_); rintro e w' ⟨rfl, rfl⟩) | ((with_reducible refine (c3.out _).mono ?_); rintro e w' ⟨rfl, rfl⟩) | ((with_reducible refine (c4.out _).mono ?_); rintro e w' ⟨rfl, rfl⟩)) | (go_at_call 29; (with_reducible refine (c5.out _).mono ?_); rintro e w' ⟨rfl, rfl⟩))
  (try simp only [Exit.inBlock, Exit.then])
  refine bodyPost_ret ((results_cell_tmp rfl _ _ _).trans (by simp [go_sem, b0, b1, b2, b3]; rfl)) rfl ?_
  exact LAns.same rfl ((((HBB.out.setCell (p := ⟨w.heap.size + 1 + 1, 0, none⟩) (by simp; omega) _).setCell (p := ⟨w.heap.size + 1 + 1, 1, none⟩) (by simp; omega) _).setCell (p := ⟨w.heap.size + 1 + 1, 2, none⟩) (by simp; omega) _).setCell (p := ⟨w.heap.size + 1 + 1, 3, none⟩) (by simp; omega) _)
set_option maxRecDepth 20000 in
set_option maxHeartbeats 8000000 in
theorem rlock_6 (l : Lk.L) (k tx it : Nat) (u : Int) (A1 A2 A3 : Option Addr) (n1 n2 n3 : Nat) (w : World) (hI : Lk.Inv l) (a1 : tx < 5) (a2 : it < 4) (hr : Ints w w.heap.size (.slice A1 20 n1) (zs (Lk.holds l))) (hu : Ints w w.heap.size (.slice A2 5 n2) (Lk.wantsI l)) (ha : Acts w w.heap.size (.slice A3 l.acts.length n3) (Sch.zacts l.acts)) (hk : k < 2) (hs : l.shr.testBit tx = false) (hb : Lk.blk l tx it k ≠ 0) :
    Calls Tryd.prog 40 #[.agg #[.slice A1 20 n1, .slice A2 5 n2, nv l.shr, .slice A3 l.acts.length n3], .agg #[.int .i64 (k : Int), .int .i64 (tx : Int), .int .i64 (it : Int), .int .i64 u]] w fun e w' => LAns w w' e l { l with wants := l.wants.set tx (some (it, k)) } 6 A1 A2 A3 n1 n2 n3 := by
  have c1 := Lib.hid fun w5 : World => rin_calls (k : Int) 0 3 w5
  have c2 := Lib.hid fun w5 : World => rin_calls (tx : Int) 0 4 w5
  have c3 := Lib.hid fun w5 : World => rin_calls (it : Int) 0 3 w5
  have c4 := Lib.hid fun w5 : World => rin_calls u 0 1 w5
  rw [decide_eq_true (show ((0 : Int) ≤ (k : Int) ∧ (k : Int) ≤ 3) by omega)] at c1
  rw [decide_eq_true (show ((0 : Int) ≤ (tx : Int) ∧ (tx : Int) ≤ 4) by omega)] at c2
  rw [decide_eq_true (show ((0 : Int) ≤ (it : Int) ∧ (it : Int) ≤ 3) by omega)] at c3
  have t1 : ((k : Int) == 3) = false := by simp; omega
  have t2 : decide ((k : Int) ≤ 1) = true := by simp; omega
  have c5 := Lib.hid fun w5 : World => bit_calls l.shr tx w5 (by have := hI.2.2.2.1; omega) (by omega)
  rw [hs] at c5
  clear hs
  have hag := Lib.hid fun (w5 : World) (B : Nat) (hB : B ≤ w5.heap.size) (h5 : Ints w5 B (.slice A1 20 n1) (zs (Lk.holds l))) => against_calls l tx it k (.slice A1 20 n1) (.slice A2 5 n2) (.slice A3 l.acts.length n3) B w5 hB h5 a2 hk
  rw [Lk.against_blk hI, show decide (k = 1) = ((k : Int) == 1) by rw [Bool.eq_iff_iff]; simp; omega] at hag
  have t3 : (((Lk.blk l tx it k : Nat) : Int) != 0) = true := by simp; omega
  have hpt := Lib.hid fun (w5 : World) (h5 : Below w.heap.size w w5) => put_calls (Lk.wantsI l) tx ((it : Int) * 2 + (k : Int)) (.slice A2 5 n2) w.heap.size w5 (Rd.below hu h5) (by rw [Lk.length_wantsI]; exact a1) (by rw [Lk.length_wantsI]; omega)
  have HWS := Lib.hid (show (Lk.wantsI l).set tx ((it : Int) * 2 + (k : Int)) = Lk.wantsI { l with wants := l.wants.set tx (some (it, k)) } by
    rw [Lk.wants_set (l := l) (l' := { l with wants := l.wants.set tx (some (it, k)) }) hI.2.2.1 a1 (some (it, k)) rfl]
    congr 1)
  generalize Lk.blk l tx it k = S at *
  clear hb
  have hlh := Lk.length_holds l
  have HG := Lib.hid (Lk.getD_holds l a1 a2)
  have hh4 := Lk.hold_lt l tx it
  have HR := Lib.hid hr
  have HU := Lib.hid hu
  have HA := Lib.hid ha
  have HI := Lib.hid hI
  clear hr hu ha hI
  go_enter Tryd.func40, Tryd.ntmps40
  go_wp2_with fail
  have HLB := Lib.hid (Lb.new w (.slice A1 20 n1) (.slice A2 5 n2) l.shr (.slice A3 l.acts.length n3) (k : Int) (tx : Int) (it : Int) u 62 49 62)
  have HBB := Lib.hid (((Below.refl w.heap.size w).alloc (Nat.le_refl _) (.cells #[.slice A1 20 n1, .slice A2 5 n2, nv l.shr, .slice A3 l.acts.length n3] 62)).alloc (by simp) (.cells #[iv (k : Int), iv (tx : Int), iv (it : Int), iv u] 49) |>.alloc (by simp; omega) (.cells #[.slice none 0 0, .slice none 0 0, .int .i64 0, .slice none 0 0] 62))
  have HW := Lib.hid (show (((w.alloc (.cells #[.slice A1 20 n1, .slice A2 5 n2, nv l.shr, .slice A3 l.acts.length n3] 62)).alloc (.cells #[iv (k : Int), iv (tx : Int), iv (it : Int), iv u] 49)).alloc (.cells #[.slice none 0 0, .slice none 0 0, .int .i64 0, .slice none 0 0] 62)).heap.size = w.heap.size + 3 by simp)
  generalize hW : ((w.alloc (.cells #[.slice A1 20 n1, .slice A2 5 n2, nv l.shr, .slice A3 l.acts.length n3] 62)).alloc (.cells #[iv (k : Int), iv (tx : Int), iv (it : Int), iv u] 49)).alloc (.cells #[.slice none 0 0, .slice none 0 0, .int .i64 0, .slice none 0 0] 62) = W at *
  clear hW
  obtain ⟨_, _, _, c0, c1', c2', c3', f0, f1, f2, f3, d0, d1, d2, d3, b0, b1, b2, b3, z0, z1, z2, z3⟩ := HLB.out
  obtain ⟨bx, off, cx, he, hbx, dx⟩ := Ints.atN (Rd.below HR.out HBB.out) (k := tx * 4 + it) (by omega)
  rw [hlh] at he
  cases he
  rw [HG.out] at dx
  clear HG hlh
  generalize hHO : Lk.hold l tx it = h at *
  have HHO := Lib.hid hHO
  clear hHO
  have HRW := Lib.hid (show Ints W w.heap.size (.slice (some ⟨bx, off, none⟩) 20 n1) (zs (Lk.holds l)) from Rd.below HR.out HBB.out)
  have HSZ := Lib.hid (show w.heap.size ≤ W.heap.size from HBB.out.size)
  go_wp2_with (first | (go_at_call 69; first | ((with_reducible refine (c1.out _).mono ?_); rintro e w' ⟨rfl, rfl⟩) | ((with_reducible refine (c2.out _).mono ?_); rintro e w' ⟨rfl, rfl⟩) | ((with_reducible refine (c3.out _).mono ?_); rintro e w' ⟨rfl, rfl⟩) | ((with_reducible refine (c4.out _).mono ?_); rintro e w' ⟨rfl, rfl⟩)) | (go_at_call 29; (with_reducible refine (c5.out _).mono ?_); rintro e w' ⟨rfl, rfl⟩))
  (with_reducible refine (hag.out W w.heap.size HSZ.out HRW.out).mono ?_)
  rintro e w1 ⟨rfl, hb1⟩
  have HB1 := Lib.hid (HBB.out.trans (hb1.mono HBB.out.size))
  have HL1 := Lib.hid (HLB.out.below hb1)
  have HS1 := Lib.hid (show W.heap.size ≤ w1.heap.size from hb1.size)
  clear c1 c2 c3 c4 c5 hag hb1 d0 d1 d2 d3 b0 b1 b2 b3 z0 z1 z2 z3 c0 c1' c2' c3' f0 f1 f2 f3 dx
  obtain ⟨_, _, _, c0, c1', c2', c3', f0, f1, f2, f3, d0, d1, d2, d3, b0, b1, b2, b3, z0, z1, z2, z3⟩ := HL1.out
  go_wp2_with fail
  (with_reducible refine (hpt.out w1 HB1.out).mono ?_)
  rintro e w2 ⟨v2, rfl, hown2, hb2⟩
  obtain ⟨A5, n5, he5⟩ := Rd.val hown2.ints
  rw [List.length_set, Lk.length_wantsI] at he5
  subst he5
  have HO2 := Lib.hid hown2
  have HB2 := Lib.hid (HB1.out.trans (hb2.mono HB1.out.size))
  have HL2 := Lib.hid (HL1.out.below hb2)
  have HS2 := Lib.hid (Nat.le_trans HS1.out hb2.size)
  clear hpt hown2 hb2 d0 d1 d2 d3 b0 b1 b2 b3 z0 z1 z2 z3 c0 c1' c2' c3' f0 f1 f2 f3
  obtain ⟨_, _, _, c0, c1', c2', c3', f0, f1, f2, f3, d0, d1, d2, d3, b0, b1, b2, b3, z0, z1, z2, z3⟩ := HL2.out
  go_wp2_with fail
  (try simp only [Exit.inBlock, Exit.then])
  refine bodyPost_ret ((results_cell_tmp rfl _ _ _).trans (by simp [go_sem, b0, b1, b2, b3]; rfl)) rfl ?_
  have hWs := HW.out
  have hS2 := HS2.out
  have ho := (((((Only.refl (fun j => j < w1.heap.size) w2).setCell (p := ⟨w.heap.size, 1, none⟩) (.inl (by simp only; omega)) (.slice A5 5 n5)).setCell (p := ⟨w.heap.size + 1 + 1, 0, none⟩) (.inl (by simp only; omega)) (.slice (some ⟨bx, off, none⟩) 20 n1)).setCell (p := ⟨w.heap.size + 1 + 1, 1, none⟩) (.inl (by simp only; omega)) (.slice A5 5 n5)).setCell (p := ⟨w.heap.size + 1 + 1, 2, none⟩) (.inl (by simp only; omega)) (nv l.shr)).setCell (p := ⟨w.heap.size + 1 + 1, 3, none⟩) (.inl (by simp only; omega)) (.slice A3 l.acts.length n3)
  refine ⟨_, A5, A3, n1, n5, n3, rfl, .inl ⟨rfl, rfl⟩, .inr ?_, .inl ⟨rfl, rfl⟩, ?_⟩
  · rw [← HWS.out]
    exact Own.fin HO2.out ho (by omega)
  · exact ((((HB2.out.setCell (p := ⟨w.heap.size, 1, none⟩) (Nat.le_refl _) _).setCell (p := ⟨w.heap.size + 1 + 1, 0, none⟩) (by simp; omega) _).setCell (p := ⟨w.heap.size + 1 + 1, 1, none⟩) (by simp; omega) _).setCell (p := ⟨w.heap.size + 1 + 1, 2, none⟩) (by simp; omega) _).setCell (p := ⟨w.heap.size + 1 + 1, 3, none⟩) (by simp; omega) _
set_option maxRecDepth 20000 in
set_option maxHeartbeats 8000000 in
theorem rlock_5a (l : Lk.L) (k tx it : Nat) (u : Int) (A1 A2 A3 : Option Addr) (n1 n2 n3 : Nat) (w : World) (hI : Lk.Inv l) (a1 : tx < 5) (a2 : it < 4) (hr : Ints w w.heap.size (.slice A1 20 n1) (zs (Lk.holds l))) (hu : Ints w w.heap.size (.slice A2 5 n2) (Lk.wantsI l)) (ha : Acts w w.heap.size (.slice A3 l.acts.length n3) (Sch.zacts l.acts)) (hk : k = 2) (hh : Lk.hold l tx it = 0) :
    Calls Tryd.prog 40 #[.agg #[.slice A1 20 n1, .slice A2 5 n2, nv l.shr, .slice A3 l.acts.length n3], .agg #[.int .i64 (k : Int), .int .i64 (tx : Int), .int .i64 (it : Int), .int .i64 u]] w fun e w' => LAns w w' e l l 5 A1 A2 A3 n1 n2 n3 := by
  have c1 := Lib.hid fun w5 : World => rin_calls (k : Int) 0 3 w5
  have c2 := Lib.hid fun w5 : World => rin_calls (tx : Int) 0 4 w5
  have c3 := Lib.hid fun w5 : World => rin_calls (it : Int) 0 3 w5
  have c4 := Lib.hid fun w5 : World => rin_calls u 0 1 w5
  rw [decide_eq_true (show ((0 : Int) ≤ (k : Int) ∧ (k : Int) ≤ 3) by omega)] at c1
  rw [decide_eq_true (show ((0 : Int) ≤ (tx : Int) ∧ (tx : Int) ≤ 4) by omega)] at c2
  rw [decide_eq_true (show ((0 : Int) ≤ (it : Int) ∧ (it : Int) ≤ 3) by omega)] at c3
  have t1 : ((k : Int) == 3) = false := by simp; omega
  have t2 : decide ((k : Int) ≤ 1) = false := by simp; omega
  have t4 : ((k : Int) == 2) = true := by simp; omega
  have HK3 := Lib.hid hk
  have hlh := Lk.length_holds l
  have HG := Lib.hid (Lk.getD_holds l a1 a2)
  have hh4 := Lk.hold_lt l tx it
  have HR := Lib.hid hr
  have HU := Lib.hid hu
  have HA := Lib.hid ha
  have HI := Lib.hid hI
  clear hr hu ha hI hk
  go_enter Tryd.func40, Tryd.ntmps40
  go_wp2_with fail
  have HLB := Lib.hid (Lb.new w (.slice A1 20 n1) (.slice A2 5 n2) l.shr (.slice A3 l.acts.length n3) (k : Int) (tx : Int) (it : Int) u 62 49 62)
  have HBB := Lib.hid (((Below.refl w.heap.size w).alloc (Nat.le_refl _) (.cells #[.slice A1 20 n1, .slice A2 5 n2, nv l.shr, .slice A3 l.acts.length n3] 62)).alloc (by simp) (.cells #[iv (k : Int), iv (tx : Int), iv (it : Int), iv u] 49) |>.alloc (by simp; omega) (.cells #[.slice none 0 0, .slice none 0 0, .int .i64 0, .slice none 0 0] 62))
  have HW := Lib.hid (show (((w.alloc (.cells #[.slice A1 20 n1, .slice A2 5 n2, nv l.shr, .slice A3 l.acts.length n3] 62)).alloc (.cells #[iv (k : Int), iv (tx : Int), iv (it : Int), iv u] 49)).alloc (.cells #[.slice none 0 0, .slice none 0 0, .int .i64 0, .slice none 0 0] 62)).heap.size = w.heap.size + 3 by simp)
  generalize hW : ((w.alloc (.cells #[.slice A1 20 n1, .slice A2 5 n2, nv l.shr, .slice A3 l.acts.length n3] 62)).alloc (.cells #[iv (k : Int), iv (tx : Int), iv (it : Int), iv u] 49)).alloc (.cells #[.slice none 0 0, .slice none 0 0, .int .i64 0, .slice none 0 0] 62) = W at *
  clear hW
  obtain ⟨_, _, _, c0, c1', c2', c3', f0, f1, f2, f3, d0, d1, d2, d3, b0, b1, b2, b3, z0, z1, z2, z3⟩ := HLB.out
  obtain ⟨bx, off, cx, he, hbx, dx⟩ := Ints.atN (Rd.below HR.out HBB.out) (k := tx * 4 + it) (by omega)
  rw [hlh] at he
  cases he
  rw [HG.out] at dx
  clear HG hlh
  have t5 : (((Lk.hold l tx it : Nat) : Int) == 0) = true := by simp; omega
  generalize hHO : Lk.hold l tx it = h at *
  have HHO := Lib.hid hHO
  clear hHO
  clear hh
  go_wp2_with (first | (go_at_call 69; first | ((with_reducible refine (c1.out _).mono ?_); rintro e w' ⟨rfl, rfl⟩) | ((with_reducible refine (c2.out _).mono ?_); rintro e w' ⟨rfl, rfl⟩) | ((with_reducible refine (c3.out _).mono ?_); rintro e w' ⟨rfl, rfl⟩) | ((with_reducible refine (c4.out _).mono ?_); rintro e w' ⟨rfl, rfl⟩)))
  (try simp only [Exit.inBlock, Exit.then])
  refine bodyPost_ret ((results_cell_tmp rfl _ _ _).trans (by simp [go_sem, b0, b1, b2, b3]; rfl)) rfl ?_
  exact LAns.same rfl ((((HBB.out.setCell (p := ⟨w.heap.size + 1 + 1, 0, none⟩) (by simp; omega) _).setCell (p := ⟨w.heap.size + 1 + 1, 1, none⟩) (by simp; omega) _).setCell (p := ⟨w.heap.size + 1 + 1, 2, none⟩) (by simp; omega) _).setCell (p := ⟨w.heap.size + 1 + 1, 3, none⟩) (by simp; omega) _)
set_option maxRecDepth 20000 in
set_option maxHeartbeats 8000000 in
theorem rlock_5b (l : Lk.L) (k tx it : Nat) (u : Int) (A1 A2 A3 : Option Addr) (n1 n2 n3 : Nat) (w : World) (hI : Lk.Inv l) (a1 : tx < 5) (a2 : it < 4) (hr : Ints w w.heap.size (.slice A1 20 n1) (zs (Lk.holds l))) (hu : Ints w w.heap.size (.slice A2 5 n2) (Lk.wantsI l)) (ha : Acts w w.heap.size (.slice A3 l.acts.length n3) (Sch.zacts l.acts)) (hk : k = 3) (hu1 : 0 ≤ u ∧ u ≤ 1) (hh : Lk.hold l tx it = 0 ∨ (Lk.hold l tx it = 1 ∧ u = 1)) :
    Calls Tryd.prog 40 #[.agg #[.slice A1 20 n1, .slice A2 5 n2, nv l.shr, .slice A3 l.acts.length n3], .agg #[.int .i64 (k : Int), .int .i64 (tx : Int), .int .i64 (it : Int), .int .i64 u]] w fun e w' => LAns w w' e l l 5 A1 A2 A3 n1 n2 n3 := by
  have c1 := Lib.hid fun w5 : World => rin_calls (k : Int) 0 3 w5
  have c2 := Lib.hid fun w5 : World => rin_calls (tx : Int) 0 4 w5
  have c3 := Lib.hid fun w5 : World => rin_calls (it : Int) 0 3 w5
  have c4 := Lib.hid fun w5 : World => rin_calls u 0 1 w5
  rw [decide_eq_true (show ((0 : Int) ≤ (k : Int) ∧ (k : Int) ≤ 3) by omega)] at c1
  rw [decide_eq_true (show ((0 : Int) ≤ (tx : Int) ∧ (tx : Int) ≤ 4) by omega)] at c2
  rw [decide_eq_true (show ((0 : Int) ≤ (it : Int) ∧ (it : Int) ≤ 3) by omega)] at c3
  rw [decide_eq_true (show ((0 : Int) ≤ u ∧ u ≤ 1) by omega)] at c4
  have t1 : ((k : Int) == 3) = true := by simp; omega
  have t2 : decide ((k : Int) ≤ 1) = false := by simp; omega
  have t4 : ((k : Int) == 2) = false := by simp; omega
  have HK3 := Lib.hid hk
  have hlh := Lk.length_holds l
  have HG := Lib.hid (Lk.getD_holds l a1 a2)
  have hh4 := Lk.hold_lt l tx it
  have HR := Lib.hid hr
  have HU := Lib.hid hu
  have HA := Lib.hid ha
  have HI := Lib.hid hI
  clear hr hu ha hI hk
  go_enter Tryd.func40, Tryd.ntmps40
  go_wp2_with fail
  have HLB := Lib.hid (Lb.new w (.slice A1 20 n1) (.slice A2 5 n2) l.shr (.slice A3 l.acts.length n3) (k : Int) (tx : Int) (it : Int) u 62 49 62)
  have HBB := Lib.hid (((Below.refl w.heap.size w).alloc (Nat.le_refl _) (.cells #[.slice A1 20 n1, .slice A2 5 n2, nv l.shr, .slice A3 l.acts.length n3] 62)).alloc (by simp) (.cells #[iv (k : Int), iv (tx : Int), iv (it : Int), iv u] 49) |>.alloc (by simp; omega) (.cells #[.slice none 0 0, .slice none 0 0, .int .i64 0, .slice none 0 0] 62))
  have HW := Lib.hid (show (((w.alloc (.cells #[.slice A1 20 n1, .slice A2 5 n2, nv l.shr, .slice A3 l.acts.length n3] 62)).alloc (.cells #[iv (k : Int), iv (tx : Int), iv (it : Int), iv u] 49)).alloc (.cells #[.slice none 0 0, .slice none 0 0, .int .i64 0, .slice none 0 0] 62)).heap.size = w.heap.size + 3 by simp)
  generalize hW : ((w.alloc (.cells #[.slice A1 20 n1, .slice A2 5 n2, nv l.shr, .slice A3 l.acts.length n3] 62)).alloc (.cells #[iv (k : Int), iv (tx : Int), iv (it : Int), iv u] 49)).alloc (.cells #[.slice none 0 0, .slice none 0 0, .int .i64 0, .slice none 0 0] 62) = W at *
  clear hW
  obtain ⟨_, _, _, c0, c1', c2', c3', f0, f1, f2, f3, d0, d1, d2, d3, b0, b1, b2, b3, z0, z1, z2, z3⟩ := HLB.out
  obtain ⟨bx, off, cx, he, hbx, dx⟩ := Ints.atN (Rd.below HR.out HBB.out) (k := tx * 4 + it) (by omega)
  rw [hlh] at he
  cases he
  rw [HG.out] at dx
  clear HG hlh
  generalize hHO : Lk.hold l tx it = h at *
  have hh2 : ((h : Int) == 0) = true ∨ (((h : Int) == 0) = false ∧ ((h : Int) == 1) = true ∧ (u == 1) = true) := by simp; omega
  have HHO := Lib.hid hHO
  clear hHO
  clear hh hu1
  rcases hh2 with t5 | ⟨t5, t6, t7⟩
  all_goals
    go_wp2_with (first | (go_at_call 69; first | ((with_reducible refine (c1.out _).mono ?_); rintro e w' ⟨rfl, rfl⟩) | ((with_reducible refine (c2.out _).mono ?_); rintro e w' ⟨rfl, rfl⟩) | ((with_reducible refine (c3.out _).mono ?_); rintro e w' ⟨rfl, rfl⟩) | ((with_reducible refine (c4.out _).mono ?_); rintro e w' ⟨rfl, rfl⟩)))
    (try simp only [Exit.inBlock, Exit.then])
    refine bodyPost_ret ((results_cell_tmp rfl _ _ _).trans (by simp [go_sem, b0, b1, b2, b3]; rfl)) rfl ?_
    exact LAns.same rfl ((((HBB.out.setCell (p := ⟨w.heap.size + 1 + 1, 0, none⟩) (by simp; omega) _).setCell (p := ⟨w.heap.size + 1 + 1, 1, none⟩) (by simp; omega) _).setCell (p := ⟨w.heap.size + 1 + 1, 2, none⟩) (by simp; omega) _).setCell (p := ⟨w.heap.size + 1 + 1, 3, none⟩) (by simp; omega) _)
set_option maxRecDepth 20000 in
set_option maxHeartbeats 8000000 in
theorem rlock_4 (l : Lk.L) (k tx it : Nat) (u : Int) (A1 A2 A3 : Option Addr) (n1 n2 n3 : Nat) (w : World) (hI : Lk.Inv l) (a1 : tx < 5) (a2 : it < 4) (hr : Ints w w.heap.size (.slice A1 20 n1) (zs (Lk.holds l))) (hu : Ints w w.heap.size (.slice A2 5 n2) (Lk.wantsI l)) (ha : Acts w w.heap.size (.slice A3 l.acts.length n3) (Sch.zacts l.acts)) (hk : k = 3) (hu1 : 0 ≤ u ∧ u ≤ 1) (hh : ¬ (Lk.hold l tx it = 0 ∨ (Lk.hold l tx it = 1 ∧ u = 1))) (hn : 24 ≤ l.acts.length) :
    Calls Tryd.prog 40 #[.agg #[.slice A1 20 n1, .slice A2 5 n2, nv l.shr, .slice A3 l.acts.length n3], .agg #[.int .i64 (k : Int), .int .i64 (tx : Int), .int .i64 (it : Int), .int .i64 u]] w fun e w' => LAns w w' e l l 4 A1 A2 A3 n1 n2 n3 := by
  have c1 := Lib.hid fun w5 : World => rin_calls (k : Int) 0 3 w5
  have c2 := Lib.hid fun w5 : World => rin_calls (tx : Int) 0 4 w5
  have c3 := Lib.hid fun w5 : World => rin_calls (it : Int) 0 3 w5
  have c4 := Lib.hid fun w5 : World => rin_calls u 0 1 w5
  rw [decide_eq_true (show ((0 : Int) ≤ (k : Int) ∧ (k : Int) ≤ 3) by omega)] at c1
  rw [decide_eq_true (show ((0 : Int) ≤ (tx : Int) ∧ (tx : Int) ≤ 4) by omega)] at c2
  rw [decide_eq_true (show ((0 : Int) ≤ (it : Int) ∧ (it : Int) ≤ 3) by omega)] at c3
  rw [decide_eq_true (show ((0 : Int) ≤ u ∧ u ≤ 1) by omega)] at c4
  have t1 : ((k : Int) == 3) = true := by simp; omega
  have t2 : decide ((k : Int) ≤ 1) = false := by simp; omega
  have t4 : ((k : Int) == 2) = false := by simp; omega
  have HK3 := Lib.hid hk
  have t8 : decide ((24 : Int) ≤ (l.acts.length : Int)) = true := by simp; omega
  have hlh := Lk.length_holds l
  have HG := Lib.hid (Lk.getD_holds l a1 a2)
  have hh4 := Lk.hold_lt l tx it
  have HR := Lib.hid hr
  have HU := Lib.hid hu
  have HA := Lib.hid ha
  have HI := Lib.hid hI
  clear hr hu ha hI hk
  go_enter Tryd.func40, Tryd.ntmps40
  go_wp2_with fail
  have HLB := Lib.hid (Lb.new w (.slice A1 20 n1) (.slice A2 5 n2) l.shr (.slice A3 l.acts.length n3) (k : Int) (tx : Int) (it : Int) u 62 49 62)
  have HBB := Lib.hid (((Below.refl w.heap.size w).alloc (Nat.le_refl _) (.cells #[.slice A1 20 n1, .slice A2 5 n2, nv l.shr, .slice A3 l.acts.length n3] 62)).alloc (by simp) (.cells #[iv (k : Int), iv (tx : Int), iv (it : Int), iv u] 49) |>.alloc (by simp; omega) (.cells #[.slice none 0 0, .slice none 0 0, .int .i64 0, .slice none 0 0] 62))
  have HW := Lib.hid (show (((w.alloc (.cells #[.slice A1 20 n1, .slice A2 5 n2, nv l.shr, .slice A3 l.acts.length n3] 62)).alloc (.cells #[iv (k : Int), iv (tx : Int), iv (it : Int), iv u] 49)).alloc (.cells #[.slice none 0 0, .slice none 0 0, .int .i64 0, .slice none 0 0] 62)).heap.size = w.heap.size + 3 by simp)
  generalize hW : ((w.alloc (.cells #[.slice A1 20 n1, .slice A2 5 n2, nv l.shr, .slice A3 l.acts.length n3] 62)).alloc (.cells #[iv (k : Int), iv (tx : Int), iv (it : Int), iv u] 49)).alloc (.cells #[.slice none 0 0, .slice none 0 0, .int .i64 0, .slice none 0 0] 62) = W at *
  clear hW
  obtain ⟨_, _, _, c0, c1', c2', c3', f0, f1, f2, f3, d0, d1, d2, d3, b0, b1, b2, b3, z0, z1, z2, z3⟩ := HLB.out
  obtain ⟨bx, off, cx, he, hbx, dx⟩ := Ints.atN (Rd.below HR.out HBB.out) (k := tx * 4 + it) (by omega)
  rw [hlh] at he
  cases he
  rw [HG.out] at dx
  clear HG hlh
  generalize hHO : Lk.hold l tx it = h at *
  have hh2 : ((h : Int) == 0) = false ∧ (((h : Int) == 1) = false ∨ (((h : Int) == 1) = true ∧ (u == 1) = false)) := by simp; omega
  have HHO := Lib.hid hHO
  clear hHO
  clear hh hu1
  obtain ⟨t5, t6 | ⟨t6, t7⟩⟩ := hh2
  all_goals
    go_wp2_with (first | (go_at_call 69; first | ((with_reducible refine (c1.out _).mono ?_); rintro e w' ⟨rfl, rfl⟩) | ((with_reducible refine (c2.out _).mono ?_); rintro e w' ⟨rfl, rfl⟩) | ((with_reducible refine (c3.out _).mono ?_); rintro e w' ⟨rfl, rfl⟩) | ((with_reducible refine (c4.out _).mono ?_); rintro e w' ⟨rfl, rfl⟩)))
    (try simp only [Exit.inBlock, Exit.then])
    refine bodyPost_ret ((results_cell_tmp rfl _ _ _).trans (by simp [go_sem, b0, b1, b2, b3]; rfl)) rfl ?_
    exact LAns.same rfl ((((HBB.out.setCell (p := ⟨w.heap.size + 1 + 1, 0, none⟩) (by simp; omega) _).setCell (p := ⟨w.heap.size + 1 + 1, 1, none⟩) (by simp; omega) _).setCell (p := ⟨w.heap.size + 1 + 1, 2, none⟩) (by simp; omega) _).setCell (p := ⟨w.heap.size + 1 + 1, 3, none⟩) (by simp; omega) _)
set_option maxRecDepth 20000 in
set_option maxHeartbeats 8000000 in
theorem rlock_free (l : Lk.L) (k tx it : Nat) (u : Int) (A1 A2 A3 : Option Addr) (n1 n2 n3 : Nat) (w : World) (hI : Lk.Inv l) (a1 : tx < 5) (a2 : it < 4) (hr : Ints w w.heap.size (.slice A1 20 n1) (zs (Lk.holds l))) (hu : Ints w w.heap.size (.slice A2 5 n2) (Lk.wantsI l)) (ha : Acts w w.heap.size (.slice A3 l.acts.length n3) (Sch.zacts l.acts)) (hk : k = 2) (hh : Lk.hold l tx it ≠ 0) :
    Calls Tryd.prog 40 #[.agg #[.slice A1 20 n1, .slice A2 5 n2, nv l.shr, .slice A3 l.acts.length n3], .agg #[.int .i64 (k : Int), .int .i64 (tx : Int), .int .i64 (it : Int), .int .i64 u]] w fun e w' => LAns w w' e l (Lk.freed l (k, tx, it, 0)) 0 A1 A2 A3 n1 n2 n3 := by
  have c1 := Lib.hid fun w5 : World => rin_calls (k : Int) 0 3 w5
  have c2 := Lib.hid fun w5 : World => rin_calls (tx : Int) 0 4 w5
  have c3 := Lib.hid fun w5 : World => rin_calls (it : Int) 0 3 w5
  have c4 := Lib.hid fun w5 : World => rin_calls u 0 1 w5
  rw [decide_eq_true (show ((0 : Int) ≤ (k : Int) ∧ (k : Int) ≤ 3) by omega)] at c1
  rw [decide_eq_true (show ((0 : Int) ≤ (tx : Int) ∧ (tx : Int) ≤ 4) by omega)] at c2
  rw [decide_eq_true (show ((0 : Int) ≤ (it : Int) ∧ (it : Int) ≤ 3) by omega)] at c3
  have t1 : ((k : Int) == 3) = false := by simp; omega
  have t2 : decide ((k : Int) ≤ 1) = false := by simp; omega
  have t4 : ((k : Int) == 2) = true := by simp; omega
  have HK3 := Lib.hid hk
  have hpt := Lib.hid fun (w5 : World) (h5 : Below w.heap.size w w5) => put_calls (zs (Lk.holds l)) (tx * 4 + it) 0 (.slice A1 20 n1) w.heap.size w5 (Rd.below hr h5) (by rw [length_zs, Lk.length_holds]; omega) (by rw [length_zs, Lk.length_holds]; omega)
  rw [show nv (tx * 4 + it) = Value.int .i64 ((tx : Int) * 4 + (it : Int)) by show Value.int .i64 ((tx * 4 + it : Nat) : Int) = _; rw [show ((tx * 4 + it : Nat) : Int) = (tx : Int) * 4 + (it : Int) by omega]] at hpt
  have hwt := Lib.hid fun w5 : World => with_any l.shr tx w5 hI.2.2.2.1 a1
  have HHS := Lib.hid (show zs (Lk.holds (Lk.freed l (k, tx, it, 0))) = (zs (Lk.holds l)).set (tx * 4 + it) 0 by
    rw [Lk.holds_free hI (d := (k, tx, it, 0)) ⟨by simp only; omega, a1, a2, by simp⟩]
    simp [zs])
  have HSH := Lib.hid (show (Lk.freed l (k, tx, it, 0)).shr = l.shr ||| 2 ^ tx from rfl)
  have HWA := Lib.hid (show Lk.wantsI (Lk.freed l (k, tx, it, 0)) = Lk.wantsI l from rfl)
  have HAC := Lib.hid (show (Lk.freed l (k, tx, it, 0)).acts = l.acts from rfl)
  generalize Lk.freed l (k, tx, it, 0) = l' at *
  have hlh := Lk.length_holds l
  have HG := Lib.hid (Lk.getD_holds l a1 a2)
  have hh4 := Lk.hold_lt l tx it
  have HR := Lib.hid hr
  have HU := Lib.hid hu
  have HA := Lib.hid ha
  have HI := Lib.hid hI
  clear hr hu ha hI hk
  go_enter Tryd.func40, Tryd.ntmps40
  go_wp2_with fail
  have HLB := Lib.hid (Lb.new w (.slice A1 20 n1) (.slice A2 5 n2) l.shr (.slice A3 l.acts.length n3) (k : Int) (tx : Int) (it : Int) u 62 49 62)
  have HBB := Lib.hid (((Below.refl w.heap.size w).alloc (Nat.le_refl _) (.cells #[.slice A1 20 n1, .slice A2 5 n2, nv l.shr, .slice A3 l.acts.length n3] 62)).alloc (by simp) (.cells #[iv (k : Int), iv (tx : Int), iv (it : Int), iv u] 49) |>.alloc (by simp; omega) (.cells #[.slice none 0 0, .slice none 0 0, .int .i64 0, .slice none 0 0] 62))
  have HW := Lib.hid (show (((w.alloc (.cells #[.slice A1 20 n1, .slice A2 5 n2, nv l.shr, .slice A3 l.acts.length n3] 62)).alloc (.cells #[iv (k : Int), iv (tx : Int), iv (it : Int), iv u] 49)).alloc (.cells #[.slice none 0 0, .slice none 0 0, .int .i64 0, .slice none 0 0] 62)).heap.size = w.heap.size + 3 by simp)
  generalize hW : ((w.alloc (.cells #[.slice A1 20 n1, .slice A2 5 n2, nv l.shr, .slice A3 l.acts.length n3] 62)).alloc (.cells #[iv (k : Int), iv (tx : Int), iv (it : Int), iv u] 49)).alloc (.cells #[.slice none 0 0, .slice none 0 0, .int .i64 0, .slice none 0 0] 62) = W at *
  clear hW
  obtain ⟨_, _, _, c0, c1', c2', c3', f0, f1, f2, f3, d0, d1, d2, d3, b0, b1, b2, b3, z0, z1, z2, z3⟩ := HLB.out
  obtain ⟨bx, off, cx, he, hbx, dx⟩ := Ints.atN (Rd.below HR.out HBB.out) (k := tx * 4 + it) (by omega)
  rw [hlh] at he
  cases he
  rw [HG.out] at dx
  clear HG hlh
  have t5 : (((Lk.hold l tx it : Nat) : Int) == 0) = false := by simp; omega
  generalize hHO : Lk.hold l tx it = h at *
  have HHO := Lib.hid hHO
  clear hHO
  clear hh
  go_wp2_with (first | (go_at_call 69; first | ((with_reducible refine (c1.out _).mono ?_); rintro e w' ⟨rfl, rfl⟩) | ((with_reducible refine (c2.out _).mono ?_); rintro e w' ⟨rfl, rfl⟩) | ((with_reducible refine (c3.out _).mono ?_); rintro e w' ⟨rfl, rfl⟩) | ((with_reducible refine (c4.out _).mono ?_); rintro e w' ⟨rfl, rfl⟩)))
  (with_reducible refine (hpt.out W HBB.out).mono ?_)
  rintro e w2 ⟨v2, rfl, hown2, hb2⟩
  obtain ⟨A5, n5, he5⟩ := Rd.val hown2.ints
  rw [List.length_set, length_zs, Lk.length_holds] at he5
  subst he5
  have HO2 := Lib.hid hown2
  have HB2 := Lib.hid (HBB.out.trans (hb2.mono HBB.out.size))
  have HL2 := Lib.hid (HLB.out.below hb2)
  have HS2 := Lib.hid (show W.heap.size ≤ w2.heap.size from hb2.size)
  clear hpt hown2 hb2 d0 d1 d2 d3 b0 b1 b2 b3 z0 z1 z2 z3 c0 c1' c2' c3' f0 f1 f2 f3 dx c1 c2 c3 c4
  obtain ⟨_, _, _, c0, c1', c2', c3', f0, f1, f2, f3, d0, d1, d2, d3, b0, b1, b2, b3, z0, z1, z2, z3⟩ := HL2.out
  go_wp2_with fail
  (with_reducible refine (hwt.out _).mono ?_)
  rintro e w3 ⟨rfl, rfl⟩
  rw [← HSH.out]
  go_wp2_with fail
  (try simp only [Exit.inBlock, Exit.then])
  refine bodyPost_ret ((results_cell_tmp rfl _ _ _).trans (by simp [go_sem, b0, b1, b2, b3]; rfl)) rfl ?_
  have hWs := HW.out
  have hS2 := HS2.out
  have ho := ((((((Only.refl (fun j => j < W.heap.size) w2).setCell (p := ⟨w.heap.size, 0, none⟩) (.inl (by simp only; omega)) (.slice A5 20 n5)).setCell (p := ⟨w.heap.size, 2, none⟩) (.inl (by simp only; omega)) (nv l'.shr)).setCell (p := ⟨w.heap.size + 1 + 1, 0, none⟩) (.inl (by simp only; omega)) (.slice A5 20 n5)).setCell (p := ⟨w.heap.size + 1 + 1, 1, none⟩) (.inl (by simp only; omega)) (.slice A2 5 n2)).setCell (p := ⟨w.heap.size + 1 + 1, 2, none⟩) (.inl (by simp only; omega)) (nv l'.shr)).setCell (p := ⟨w.heap.size + 1 + 1, 3, none⟩) (.inl (by simp only; omega)) (.slice A3 l.acts.length n3)
  refine ⟨A5, A2, A3, n5, n2, n3, by rw [HAC.out]; rfl, .inr ?_, .inl ⟨rfl, HWA.out⟩, .inl ⟨by rw [HAC.out], by rw [HAC.out]⟩, ?_⟩
  · rw [HHS.out]
    exact Own.fin HO2.out ho (by omega)
  · exact (((((HB2.out.setCell (p := ⟨w.heap.size, 0, none⟩) (Nat.le_refl _) _).setCell (p := ⟨w.heap.size, 2, none⟩) (Nat.le_refl _) _).setCell (p := ⟨w.heap.size + 1 + 1, 0, none⟩) (by simp; omega) _).setCell (p := ⟨w.heap.size + 1 + 1, 1, none⟩) (by simp; omega) _).setCell (p := ⟨w.heap.size + 1 + 1, 2, none⟩) (by simp; omega) _).setCell (p := ⟨w.heap.size + 1 + 1, 3, none⟩) (by simp; omega) _
set_option maxRecDepth 20000 in
set_option maxHeartbeats 8000000 in
theorem rlock_do (l : Lk.L) (k tx it : Nat) (u : Int) (A1 A2 A3 : Option Addr) (n1 n2 n3 : Nat) (w : World) (hI : Lk.Inv l) (a1 : tx < 5) (a2 : it < 4) (hr : Ints w w.heap.size (.slice A1 20 n1) (zs (Lk.holds l))) (hu : Ints w w.heap.size (.slice A2 5 n2) (Lk.wantsI l)) (ha : Acts w w.heap.size (.slice A3 l.acts.length n3) (Sch.zacts l.acts)) (hk : k = 3) (wt : Nat) (hwt : Hid (u = (wt : Int))) (hw2 : wt < 2) (hh : ¬ (Lk.hold l tx it = 0 ∨ (Lk.hold l tx it = 1 ∧ u = 1))) (hn : l.acts.length < 24) :
    Calls Tryd.prog 40 #[.agg #[.slice A1 20 n1, .slice A2 5 n2, nv l.shr, .slice A3 l.acts.length n3], .agg #[.int .i64 (k : Int), .int .i64 (tx : Int), .int .i64 (it : Int), .int .i64 u]] w fun e w' => LAns w w' e l { l with acts := l.acts ++ [(tx, it, wt)] } 0 A1 A2 A3 n1 n2 n3 := by
  have c1 := Lib.hid fun w5 : World => rin_calls (k : Int) 0 3 w5
  have c2 := Lib.hid fun w5 : World => rin_calls (tx : Int) 0 4 w5
  have c3 := Lib.hid fun w5 : World => rin_calls (it : Int) 0 3 w5
  have hu1 : 0 ≤ u ∧ u ≤ 1 := by have := hwt.out; omega
  have c4 := Lib.hid fun w5 : World => rin_calls u 0 1 w5
  rw [decide_eq_true (show ((0 : Int) ≤ (k : Int) ∧ (k : Int) ≤ 3) by omega)] at c1
  rw [decide_eq_true (show ((0 : Int) ≤ (tx : Int) ∧ (tx : Int) ≤ 4) by omega)] at c2
  rw [decide_eq_true (show ((0 : Int) ≤ (it : Int) ∧ (it : Int) ≤ 3) by omega)] at c3
  rw [decide_eq_true (show ((0 : Int) ≤ u ∧ u ≤ 1) by omega)] at c4
  have t1 : ((k : Int) == 3) = true := by simp; omega
  have t2 : decide ((k : Int) ≤ 1) = false := by simp; omega
  have t4 : ((k : Int) == 2) = false := by simp; omega
  have HK3 := Lib.hid hk
  have t8 : decide ((24 : Int) ≤ (l.acts.length : Int)) = false := by simp; omega
  have hlh := Lk.length_holds l
  have HG := Lib.hid (Lk.getD_holds l a1 a2)
  have hh4 := Lk.hold_lt l tx it
  have HR := Lib.hid hr
  have HU := Lib.hid hu
  have HA := Lib.hid ha
  have HI := Lib.hid hI
  clear hr hu ha hI hk
  go_enter Tryd.func40, Tryd.ntmps40
  go_wp2_with fail
  have HLB := Lib.hid (Lb.new w (.slice A1 20 n1) (.slice A2 5 n2) l.shr (.slice A3 l.acts.length n3) (k : Int) (tx : Int) (it : Int) u 62 49 62)
  have HBB := Lib.hid (((Below.refl w.heap.size w).alloc (Nat.le_refl _) (.cells #[.slice A1 20 n1, .slice A2 5 n2, nv l.shr, .slice A3 l.acts.length n3] 62)).alloc (by simp) (.cells #[iv (k : Int), iv (tx : Int), iv (it : Int), iv u] 49) |>.alloc (by simp; omega) (.cells #[.slice none 0 0, .slice none 0 0, .int .i64 0, .slice none 0 0] 62))
  have HW := Lib.hid (show (((w.alloc (.cells #[.slice A1 20 n1, .slice A2 5 n2, nv l.shr, .slice A3 l.acts.length n3] 62)).alloc (.cells #[iv (k : Int), iv (tx : Int), iv (it : Int), iv u] 49)).alloc (.cells #[.slice none 0 0, .slice none 0 0, .int .i64 0, .slice none 0 0] 62)).heap.size = w.heap.size + 3 by simp)
  generalize hW : ((w.alloc (.cells #[.slice A1 20 n1, .slice A2 5 n2, nv l.shr, .slice A3 l.acts.length n3] 62)).alloc (.cells #[iv (k : Int), iv (tx : Int), iv (it : Int), iv u] 49)).alloc (.cells #[.slice none 0 0, .slice none 0 0, .int .i64 0, .slice none 0 0] 62) = W at *
  clear hW
  obtain ⟨_, _, _, c0, c1', c2', c3', f0, f1, f2, f3, d0, d1, d2, d3, b0, b1, b2, b3, z0, z1, z2, z3⟩ := HLB.out
  obtain ⟨bx, off, cx, he, hbx, dx⟩ := Ints.atN (Rd.below HR.out HBB.out) (k := tx * 4 + it) (by omega)
  rw [hlh] at he
  cases he
  rw [HG.out] at dx
  clear HG hlh
  generalize hHO : Lk.hold l tx it = h at *
  have hh2 : ((h : Int) == 0) = false ∧ (((h : Int) == 1) = false ∨ (((h : Int) == 1) = true ∧ (u == 1) = false)) := by simp; omega
  have HHO := Lib.hid hHO
  clear hHO
  clear hh hu1 hw2
  have hwt2 := hwt.out
  clear hwt
  subst hwt2
  have HA0 := Lib.hid (Rd.below HA.out HBB.out)
  have HRS := Lib.hid (rp_snoc l.acts (tx, it, wt))
  obtain ⟨t5, t6 | ⟨t6, t7⟩⟩ := hh2
  all_goals
    go_wp2_with (first | first | (go_at_call 69; first | ((with_reducible refine (c1.out _).mono ?_); rintro e w' ⟨rfl, rfl⟩) | ((with_reducible refine (c2.out _).mono ?_); rintro e w' ⟨rfl, rfl⟩) | ((with_reducible refine (c3.out _).mono ?_); rintro e w' ⟨rfl, rfl⟩) | ((with_reducible refine (c4.out _).mono ?_); rintro e w' ⟨rfl, rfl⟩)) | (at_builtin; (first | (refine append_acts_any rfl _ _ rfl W.heap.size _ [] (Sch.zacts l.acts) rfl (OwnA.nil _ _) w.heap.size A3 n3 (by rw [Sch.length_zacts]; rfl) (by rw [Sch.length_zacts]; exact HA0.out) (by simp; omega) (Nat.le_refl _) ?_; intro v1 w1 hown1 hb1; rw [List.nil_append] at hown1; have HO1 := Lib.hid hown1; have HBX := Lib.hid hb1; have HP1 := Lib.hid (HLB.out.below hb1); obtain ⟨_, _, _, c0, c1', c2', c3', f0, f1, f2, f3, d0, d1, d2, d3, b0, b1, b2, b3, z0, z1, z2, z3⟩ := HP1.out; clear hown1 hb1) | (refine append_act_at rfl _ _ rfl W.heap.size _ (Sch.zacts l.acts) rfl (HO1.out.alloc _) w1.heap.size rfl ((tx : Int), (it : Int), (wt : Int)) (new_act _ _ _) (by rw [Sch.length_zacts]; omega) (by have := HBX.out.size; simp at this ⊢; omega) ?_; intro v2 w2 hown2 hg2 hat2; obtain ⟨A5, n5, he2⟩ := Rd.val hown2.acts; rw [show (Sch.zacts l.acts ++ [((tx : Int), (it : Int), (wt : Int))]).length = l.acts.length + 1 by simp] at he2; subst he2; have HO2 := Lib.hid hown2; have HBY := Lib.hid (((HBX.out.alloc HBX.out.size (.cells #[.int .i64 tx, .int .i64 it, .int .i64 wt] 28)).grown hg2 (by have := HBX.out.size; simp at this ⊢; omega) (OwnA.blockLe HO1.out))); have HP2 := Lib.hid (HLB.out.belowB HBY.out (by have := HW.out; omega) (by have := HW.out; omega) (by have := HW.out; omega)); obtain ⟨_, _, _, c0, c1', c2', c3', f0, f1, f2, f3, d0, d1, d2, d3, b0, b1, b2, b3, z0, z1, z2, z3⟩ := HP2.out; clear hown2 hg2 hat2))))
    (try simp only [Exit.inBlock, Exit.then])
    refine bodyPost_ret ((results_cell_tmp rfl _ _ _).trans (by simp [go_sem, b0, b1, b2, b3]; rfl)) rfl ?_
    have hWs := HW.out
    have hoo := (((((Only.refl (fun j => j < W.heap.size) w2).setCell (p := ⟨w.heap.size, 3, none⟩) (.inl (by simp only; omega)) (.slice A5 (l.acts.length + 1) n5)).setCell (p := ⟨w.heap.size + 1 + 1, 0, none⟩) (.inl (by simp only; omega)) (.slice (some ⟨bx, off, none⟩) 20 n1)).setCell (p := ⟨w.heap.size + 1 + 1, 1, none⟩) (.inl (by simp only; omega)) (.slice A2 5 n2)).setCell (p := ⟨w.heap.size + 1 + 1, 2, none⟩) (.inl (by simp only; omega)) (nv l.shr)).setCell (p := ⟨w.heap.size + 1 + 1, 3, none⟩) (.inl (by simp only; omega)) (.slice A5 (l.acts.length + 1) n5)
    refine ⟨_, A2, A5, n1, n2, n5, by simp, .inl ⟨rfl, rfl⟩, .inl ⟨rfl, rfl⟩, .inr ?_, ?_⟩
    · rw [show (l.acts ++ [(tx, it, wt)]).length = l.acts.length + 1 by simp]
      rw [HRS.out]
      exact OwnA.fin HO2.out hoo (by omega)
    · exact (((((HBB.out.trans (HBY.out.mono (by omega))).setCell (p := ⟨w.heap.size, 3, none⟩) (Nat.le_refl _) _).setCell (p := ⟨w.heap.size + 1 + 1, 0, none⟩) (by simp; omega) _).setCell (p := ⟨w.heap.size + 1 + 1, 1, none⟩) (by simp; omega) _).setCell (p := ⟨w.heap.size + 1 + 1, 2, none⟩) (by simp; omega) _).setCell (p := ⟨w.heap.size + 1 + 1, 3, none⟩) (by simp; omega) _
end Go.Proofs.YtkindaadadggoaaDoor
