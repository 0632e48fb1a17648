/- Contract of the reference's View: deeds out of range, and what it refuses. Conditions: the contract's own premises. -/
import Derived.Test.YtkindaadadggoaaDoorRLastOf
import Derived.Test.YtkindaadadggoaaDoorVWith
import Derived.Laws.ResultCell
namespace Go.Proofs.YtkindaadadggoaaDoor
open Go.RowKit

theorem rin_calls (n lo hi : Int) (w : World) : Calls Tryd.prog 69 #[.int .i64 n, .int .i64 lo, .int .i64 hi] w fun e w' => e = .returned (.bool (decide (lo ≤ n ∧ n ≤ hi))) ∧ w = w' := by
  have HD := Lib.hid (show decide (lo ≤ n ∧ n ≤ hi) = (decide (lo ≤ n) && decide (n ≤ hi)) from Bool.decide_and _ _)
  generalize decide (lo ≤ n ∧ n ≤ hi) = d at *
  by_cases h1 : lo ≤ n
  · by_cases h2 : n ≤ hi
    · have t1 : decide (lo ≤ n) = true := by simpa using h1
      have t2 : decide (n ≤ hi) = true := by simpa using h2
      obtain rfl : d = true := HD.out.trans (by simp [t1, t2])
      clear HD h1 h2
      go_enter Tryd.func69, Tryd.ntmps69
      go_wp2_with fail
      go_ret
      exact ⟨rfl, rfl⟩
    · have t1 : decide (lo ≤ n) = true := by simpa using h1
      have t2 : decide (n ≤ hi) = false := by simpa using h2
      obtain rfl : d = false := HD.out.trans (by simp [t1, t2])
      clear HD h1 h2
      go_enter Tryd.func69, Tryd.ntmps69
      go_wp2_with fail
      go_ret
      exact ⟨rfl, rfl⟩
  · have t1 : decide (lo ≤ n) = false := by simpa using h1
    obtain rfl : d = false := HD.out.trans (by simp [t1])
    clear HD h1
    go_enter Tryd.func69, Tryd.ntmps69
    go_wp2_with fail
    go_ret
    exact ⟨rfl, rfl⟩
theorem results_cell_tmp2 {fn : Func} {p u v : Tmp} {ty : TypeId} (h : fn.results = #[.cell p ty, .tmp u, .tmp v]) (tmps : Array Value) (P : Program) (w : World) :
    (results fn tmps).run P w =
      ((asAddr (tmps.getD p undef)).run P w).andThen fun a w₁ => ((loadVar ty a).run P w₁).andThen fun y w₂ => .ok (.tuple #[y, tmps.getD u undef, tmps.getD v undef]) w₂ := by
  simp only [results, h]
  simp [Sem.run_bind, Result.andThen]
/-- the boxes of the store, of the deed, and of the answer -/
structure Sb (w : World) (q r p : Nat) (dv : Value) (S : Nat) (x y z u : Int) : Prop where
  lq : q < w.heap.size
  lr : r < w.heap.size
  lp : p < w.heap.size
  c0 : w.cell? ⟨q, 0, none⟩ = some dv
  c1 : w.cell? ⟨q, 1, none⟩ = some (nv S)
  f0 : w.frozen? ⟨q, 0, none⟩ = false
  f1 : w.frozen? ⟨q, 1, none⟩ = false
  a0 : w.cell? ⟨r, 0, none⟩ = some (iv x)
  a1 : w.cell? ⟨r, 1, none⟩ = some (iv y)
  a2 : w.cell? ⟨r, 2, none⟩ = some (iv z)
  a3 : w.cell? ⟨r, 3, none⟩ = some (iv u)
  b0 : w.cell? ⟨p, 0, none⟩ = some (.slice none 0 0)
  b1 : w.cell? ⟨p, 1, none⟩ = some (.int .i64 0)
  z0 : w.frozen? ⟨p, 0, none⟩ = false
  z1 : w.frozen? ⟨p, 1, none⟩ = false
section
variable {w w' : World} {q r p : Nat} {dv : Value} {S : Nat} {x y z u : Int}
theorem Sb.only {T : Nat → Prop} (h : Sb w q r p dv S x y z u) (ho : Only T w w') (nq : ¬ T q) (nr : ¬ T r) (np : ¬ T p) : Sb w' q r p dv S x y z u :=
  ⟨Nat.lt_of_lt_of_le h.lq ho.size, Nat.lt_of_lt_of_le h.lr ho.size, Nat.lt_of_lt_of_le h.lp ho.size, (ho.cell h.lq nq).trans h.c0, (ho.cell h.lq nq).trans h.c1, (ho.frozen h.lq nq).trans h.f0, (ho.frozen h.lq nq).trans h.f1,
    (ho.cell h.lr nr).trans h.a0, (ho.cell h.lr nr).trans h.a1, (ho.cell h.lr nr).trans h.a2, (ho.cell h.lr nr).trans h.a3, (ho.cell h.lp np).trans h.b0, (ho.cell h.lp np).trans h.b1, (ho.frozen h.lp np).trans h.z0, (ho.frozen h.lp np).trans h.z1⟩
theorem Sb.below (h : Sb w q r p dv S x y z u) (hb : Below w.heap.size w w') : Sb w' q r p dv S x y z u :=
  h.only (Only.of_below hb (Nat.le_refl _) (fun _ => False)) id id id
theorem Sb.new (w : World) (dv : Value) (S : Nat) (x y z u : Int) (t t' t'' : TypeId) : Sb (((w.alloc (.cells #[dv, nv S] t)).alloc (.cells #[iv x, iv y, iv z, iv u] t')).alloc (.cells #[.slice none 0 0, .int .i64 0] t'')) w.heap.size (w.heap.size + 1) (w.heap.size + 1 + 1) dv S x y z u := by
  refine ⟨by simp; omega, by simp, by simp, ?_, ?_, ?_, ?_, ?_, ?_, ?_, ?_, ?_, ?_, ?_, ?_⟩ <;> simp [go_sem]
end
set_option maxRecDepth 20000 in
set_option maxHeartbeats 4000000 in
theorem rview_bad (S : Nat) (x y z u : Int) (A : Option Addr) (n cap : Nat) (w : World) (h : ¬ vokI (x, y, z, u)) :
    Calls Tryd.prog 54 #[.agg #[.slice A n cap, nv S], .agg #[.int .i64 x, .int .i64 y, .int .i64 z, .int .i64 u]] w fun e w' => e = .returned (.tuple #[.agg #[.slice A n cap, nv S], .int .i64 0, .int .i64 1]) ∧ Below w.heap.size w w' := by
  have c1 := Lib.hid fun w5 : World => rin_calls x 3 5 w5
  have c2 := Lib.hid fun w5 : World => rin_calls y 0 4 w5
  have c3 := Lib.hid fun w5 : World => rin_calls z 0 3 w5
  have c4 := Lib.hid fun w5 : World => rin_calls u 0 1 w5
  have hw : decide (3 ≤ x ∧ x ≤ 5) = false ∨ (decide (3 ≤ x ∧ x ≤ 5) = true ∧ decide (0 ≤ y ∧ y ≤ 4) = false) ∨ (decide (3 ≤ x ∧ x ≤ 5) = true ∧ decide (0 ≤ y ∧ y ≤ 4) = true ∧ (x == 3) = true ∧ decide (0 ≤ z ∧ z ≤ 3) = false) ∨ (decide (3 ≤ x ∧ x ≤ 5) = true ∧ decide (0 ≤ y ∧ y ≤ 4) = true ∧ (x == 3) = true ∧ decide (0 ≤ z ∧ z ≤ 3) = true ∧ decide (0 ≤ u ∧ u ≤ 1) = false) := by
    by_cases h1 : 3 ≤ x ∧ x ≤ 5
    · by_cases h2 : 0 ≤ y ∧ y ≤ 4
      · have hx : x = 3 := Decidable.byContradiction fun e => h ⟨h1, h2, fun e2 => absurd e2 e⟩
        by_cases h3 : 0 ≤ z ∧ z ≤ 3
        · exact .inr (.inr (.inr ⟨decide_eq_true h1, decide_eq_true h2, by simpa using hx, decide_eq_true h3, decide_eq_false fun h4 => h ⟨h1, h2, fun _ => ⟨h3, h4⟩⟩⟩))
        · exact .inr (.inr (.inl ⟨decide_eq_true h1, decide_eq_true h2, by simpa using hx, decide_eq_false h3⟩))
      · exact .inr (.inl ⟨decide_eq_true h1, decide_eq_false h2⟩)
    · exact .inl (decide_eq_false h1)
  clear h
  generalize decide (3 ≤ x ∧ x ≤ 5) = d1 at *
  generalize decide (0 ≤ y ∧ y ≤ 4) = d2 at *
  generalize decide (0 ≤ z ∧ z ≤ 3) = d3 at *
  generalize decide (0 ≤ u ∧ u ≤ 1) = d4 at *
  rcases hw with rfl | ⟨rfl, rfl⟩ | ⟨rfl, rfl, t3, rfl⟩ | ⟨rfl, rfl, t3, rfl, rfl⟩
  all_goals
    go_enter Tryd.func54, Tryd.ntmps54
    go_wp2_with (go_at_call 69; first | ((with_reducible refine (c1.out _).mono ?_); rintro e w' ⟨rfl, rfl⟩) | ((with_reducible refine (c2.out _).mono ?_); rintro e w' ⟨rfl, rfl⟩) | ((with_reducible refine (c3.out _).mono ?_); rintro e w' ⟨rfl, rfl⟩) | ((with_reducible refine (c4.out _).mono ?_); rintro e w' ⟨rfl, rfl⟩))
    (try simp only [Exit.inBlock, Exit.then])
    refine bodyPost_ret ((results_cell_tmp2 rfl _ _ _).trans (by simp [go_sem]; rfl)) rfl ?_
    exact ⟨rfl, by go_grown⟩
end Go.Proofs.YtkindaadadggoaaDoor
