/- Contract of the reference's Pass, at acts in range and at others. Conditions: the contract's own premises. -/
import Derived.Test.YtkindaadadggoaaDoorGateX
import Derived.Test.YtkindaadadggoaaDoorAppAt
import Derived.Test.YtkindaadadggoaaDoorEdges
namespace Go.Proofs.YtkindaadadggoaaDoor
open Go.RowKit

theorem rin_calls (n lo hi : Int) (w : World) : Calls Tryd.prog 69 #[.int .i64 n, .int .i64 lo, .int .i64 hi] w fun e w' => e = .returned (.bool (decide (lo ≤ n ∧ n ≤ hi))) ∧ w = w' := by
  have HD := Lib.hid (show decide (lo ≤ n ∧ n ≤ hi) = (decide (lo ≤ n) && decide (n ≤ hi)) from Bool.decide_and _ _)
  generalize decide (lo ≤ n ∧ n ≤ hi) = d at *
  by_cases h1 : lo ≤ n
  · by_cases h2 : n ≤ hi
    · have t1 : decide (lo ≤ n) = true := by simpa using h1
      have t2 : decide (n ≤ hi) = true := by simpa using h2
      obtain rfl : d = true := HD.out.trans (by simp [t1, t2])
      clear HD h1 h2
      go_enter Tryd.func69, Tryd.ntmps69
      go_wp2_with fail
      go_ret
      exact ⟨rfl, rfl⟩
    · have t1 : decide (lo ≤ n) = true := by simpa using h1
      have t2 : decide (n ≤ hi) = false := by simpa using h2
      obtain rfl : d = false := HD.out.trans (by simp [t1, t2])
      clear HD h1 h2
      go_enter Tryd.func69, Tryd.ntmps69
      go_wp2_with fail
      go_ret
      exact ⟨rfl, rfl⟩
  · have t1 : decide (lo ≤ n) = false := by simpa using h1
    obtain rfl : d = false := HD.out.trans (by simp [t1])
    clear HD h1
    go_enter Tryd.func69, Tryd.ntmps69
    go_wp2_with fail
    go_ret
    exact ⟨rfl, rfl⟩
theorem ract_ok (x y z : Int) (w : World) (h : actOk (x, y, z)) : Calls Tryd.prog 59 #[.agg #[.int .i64 x, .int .i64 y, .int .i64 z]] w fun e w' => e = .returned (nv 0) ∧ w' = w.alloc (.cells #[.int .i64 x, .int .i64 y, .int .i64 z] 28) := by
  have c1 := Lib.hid fun w5 : World => rin_calls x 0 4 w5
  have c2 := Lib.hid fun w5 : World => rin_calls y 0 3 w5
  have c3 := Lib.hid fun w5 : World => rin_calls z 0 1 w5
  obtain ⟨h1, h2, h3⟩ := h
  rw [decide_eq_true (show (0 ≤ x ∧ x ≤ 4) from h1)] at c1
  rw [decide_eq_true (show (0 ≤ y ∧ y ≤ 3) from h2)] at c2
  rw [decide_eq_true (show (0 ≤ z ∧ z ≤ 1) from h3)] at c3
  clear h1 h2 h3
  go_enter Tryd.func59, Tryd.ntmps59
  go_wp2_with (go_at_call 69; first | ((with_reducible refine (c1.out _).mono ?_); rintro e w' ⟨rfl, rfl⟩) | ((with_reducible refine (c2.out _).mono ?_); rintro e w' ⟨rfl, rfl⟩) | ((with_reducible refine (c3.out _).mono ?_); rintro e w' ⟨rfl, rfl⟩))
  go_ret
  exact ⟨rfl, rfl⟩
theorem ract_bad (x y z : Int) (w : World) (h : ¬ actOk (x, y, z)) : Calls Tryd.prog 59 #[.agg #[.int .i64 x, .int .i64 y, .int .i64 z]] w fun e w' => e = .returned (nv 1) ∧ w' = w.alloc (.cells #[.int .i64 x, .int .i64 y, .int .i64 z] 28) := by
  have c1 := Lib.hid fun w5 : World => rin_calls x 0 4 w5
  have c2 := Lib.hid fun w5 : World => rin_calls y 0 3 w5
  have c3 := Lib.hid fun w5 : World => rin_calls z 0 1 w5
  have hw : decide (0 ≤ x ∧ x ≤ 4) = false ∨ (decide (0 ≤ x ∧ x ≤ 4) = true ∧ decide (0 ≤ y ∧ y ≤ 3) = false) ∨ (decide (0 ≤ x ∧ x ≤ 4) = true ∧ decide (0 ≤ y ∧ y ≤ 3) = true ∧ decide (0 ≤ z ∧ z ≤ 1) = false) := by
    by_cases h1 : 0 ≤ x ∧ x ≤ 4
    · by_cases h2 : 0 ≤ y ∧ y ≤ 3
      · exact .inr (.inr ⟨decide_eq_true h1, decide_eq_true h2, decide_eq_false fun h3 => h ⟨h1, h2, h3⟩⟩)
      · exact .inr (.inl ⟨decide_eq_true h1, decide_eq_false h2⟩)
    · exact .inl (decide_eq_false h1)
  clear h
  generalize decide (0 ≤ x ∧ x ≤ 4) = d1 at *
  generalize decide (0 ≤ y ∧ y ≤ 3) = d2 at *
  generalize decide (0 ≤ z ∧ z ≤ 1) = d3 at *
  rcases hw with rfl | ⟨rfl, rfl⟩ | ⟨rfl, rfl, rfl⟩
  all_goals
    go_enter Tryd.func59, Tryd.ntmps59
    go_wp2_with (go_at_call 69; first | ((with_reducible refine (c1.out _).mono ?_); rintro e w' ⟨rfl, rfl⟩) | ((with_reducible refine (c2.out _).mono ?_); rintro e w' ⟨rfl, rfl⟩) | ((with_reducible refine (c3.out _).mono ?_); rintro e w' ⟨rfl, rfl⟩))
    go_ret
    exact ⟨rfl, rfl⟩
theorem with_nat : ∀ s, s < 32 → ∀ i, i < 5 → s.testBit i = false → s + 2 ^ i = s ||| 2 ^ i := by decide
theorem with_calls (s i : Nat) (w : World) (hs : s < 32) (hi : i < 5) (h : s.testBit i = false) : Calls Tryd.prog 28 #[nv s, nv i] w fun e w' => e = .returned (nv (s ||| 2 ^ i)) ∧ w = w' := by
  have c1 := Lib.hid fun w5 : World => bit_calls s i w5 (by omega) (by omega)
  have c2 := Lib.hid fun w5 : World => pow2_calls i w5 (by omega)
  rw [h] at c1
  have hp : 2 ^ i < 2 ^ 5 := Nat.pow_lt_pow_right (by omega) hi
  have HS := Lib.hid (with_nat s hs i hi h)
  clear h
  generalize 2 ^ i = p at *
  go_enter Tryd.func28, Tryd.ntmps28
  go_wp2_with (first | (go_at_call 29; (with_reducible refine (c1.out _).mono ?_); rintro e w' ⟨rfl, rfl⟩) | (go_at_call 66; (with_reducible refine (c2.out _).mono ?_); rintro e w' ⟨rfl, rfl⟩))
  go_ret
  exact ⟨by rw [← HS.out]; rfl, rfl⟩

/-- did another one, of a greater number, do so? -/
def anyW (x : Nat) (a : Sch.N3) (l : List Sch.N3) : Bool := l.any fun b => b.2.1 == a.2.1 && decide (a.1 < b.1) && b.2.2 == x
theorem anyW_top (x : Nat) (a : Sch.N3) (l : List Sch.N3) : anyW x a l = decide (a.1 + 1 < Gt.top x a.2.1 l) := by
  rw [Bool.eq_iff_iff, decide_eq_true_iff, Gt.lt_top]
  unfold anyW
  rw [List.any_eq_true]
  constructor
  · rintro ⟨b, hb, h⟩
    simp only [Bool.and_eq_true, beq_iff_eq, decide_eq_true_iff] at h
    exact ⟨b, hb, h.1.1, h.2, h.1.2⟩
  · rintro ⟨b, hb, h1, h2, h3⟩
    exact ⟨b, hb, by simp [h1, h2, h3]⟩
theorem anyW_snoc (x : Nat) (a : Sch.N3) (l : List Sch.N3) (b : Sch.N3) : anyW x a (l ++ [b]) = (anyW x a l || (b.2.1 == a.2.1 && decide (a.1 < b.1) && b.2.2 == x)) := by
  simp [anyW, List.any_append]
theorem take_snoc (l : List Sch.N3) (k : Nat) (h : k < l.length) : l.take (k + 1) = l.take k ++ [l.getD k Sch.d3] := by
  rw [List.take_add_one, List.getD_eq_getElem?_getD, List.getElem?_eq_getElem h]; rfl
theorem rp_snoc (t : List Sch.N3) (a : Sch.N3) : Sch.zacts (t ++ [a]) = Sch.zacts t ++ [((a.1 : Int), (a.2.1 : Int), (a.2.2 : Int))] := by
  simp [Sch.zacts, Sch.z3]
theorem OwnA.down {w : World} {base base' : Nat} {v : Value} {l : List Act3} (h : OwnA w base v l) (hb : base' ≤ base) : OwnA w base' v l := by
  obtain ⟨q1, q2⟩ := h
  refine ⟨q1, ?_⟩
  rcases q2 with q | ⟨g, cap, cur, he, hg, r⟩
  · exact .inl q
  · exact .inr ⟨g, cap, cur, he, Nat.le_trans hb hg, r⟩
/-- the boxes of the gate, of the act, and of the answer -/
structure Pb (w : World) (q r p : Nat) (sk : Bool) (dead : Nat) (v : Value) (x y z : Nat) : Prop where
  lq : q < w.heap.size
  lr : r < w.heap.size
  lp : p < w.heap.size
  c0 : w.cell? ⟨q, 0, none⟩ = some (.bool sk)
  c1 : w.cell? ⟨q, 1, none⟩ = some (nv dead)
  c2 : w.cell? ⟨q, 2, none⟩ = some v
  f1 : w.frozen? ⟨q, 1, none⟩ = false
  f2 : w.frozen? ⟨q, 2, none⟩ = false
  a0 : w.cell? ⟨r, 0, none⟩ = some (nv x)
  a1 : w.cell? ⟨r, 1, none⟩ = some (nv y)
  a2 : w.cell? ⟨r, 2, none⟩ = some (nv z)
  b0 : w.cell? ⟨p, 0, none⟩ = some (.bool false)
  b1 : w.cell? ⟨p, 1, none⟩ = some (.int .i64 0)
  b2 : w.cell? ⟨p, 2, none⟩ = some (.slice none 0 0)
  z0 : w.frozen? ⟨p, 0, none⟩ = false
  z1 : w.frozen? ⟨p, 1, none⟩ = false
  z2 : w.frozen? ⟨p, 2, none⟩ = false
theorem Pb.below {w w' : World} {q r p : Nat} {sk : Bool} {dead : Nat} {v : Value} {x y z : Nat} (h : Pb w q r p sk dead v x y z) (hb : Below w.heap.size w w') : Pb w' q r p sk dead v x y z := by
  have ho := Only.of_below hb (Nat.le_refl _) (fun _ => False)
  exact ⟨Nat.lt_of_lt_of_le h.lq ho.size, Nat.lt_of_lt_of_le h.lr ho.size, Nat.lt_of_lt_of_le h.lp ho.size, (ho.cell h.lq id).trans h.c0, (ho.cell h.lq id).trans h.c1, (ho.cell h.lq id).trans h.c2, (ho.frozen h.lq id).trans h.f1, (ho.frozen h.lq id).trans h.f2, (ho.cell h.lr id).trans h.a0, (ho.cell h.lr id).trans h.a1, (ho.cell h.lr id).trans h.a2,
    (ho.cell h.lp id).trans h.b0, (ho.cell h.lp id).trans h.b1, (ho.cell h.lp id).trans h.b2, (ho.frozen h.lp id).trans h.z0, (ho.frozen h.lp id).trans h.z1, (ho.frozen h.lp id).trans h.z2⟩
theorem Pb.belowB {B : Nat} {w w' : World} {q r p : Nat} {sk : Bool} {dead : Nat} {v : Value} {x y z : Nat} (h : Pb w q r p sk dead v x y z) (hb : Below B w w') (hq : q < B) (hr : r < B) (hp : p < B) : Pb w' q r p sk dead v x y z := by
  have ho : Only (fun k => B ≤ k) w w' := ⟨hb.os, hb.tape, hb.output, hb.size, fun k _ hk => hb.block k (Nat.lt_of_not_le hk)⟩
  have nq : ¬ B ≤ q := by omega
  have nr : ¬ B ≤ r := by omega
  have np : ¬ B ≤ p := by omega
  exact ⟨Nat.lt_of_lt_of_le h.lq ho.size, Nat.lt_of_lt_of_le h.lr ho.size, Nat.lt_of_lt_of_le h.lp ho.size, (ho.cell h.lq nq).trans h.c0, (ho.cell h.lq nq).trans h.c1, (ho.cell h.lq nq).trans h.c2, (ho.frozen h.lq nq).trans h.f1, (ho.frozen h.lq nq).trans h.f2, (ho.cell h.lr nr).trans h.a0, (ho.cell h.lr nr).trans h.a1, (ho.cell h.lr nr).trans h.a2,
    (ho.cell h.lp np).trans h.b0, (ho.cell h.lp np).trans h.b1, (ho.cell h.lp np).trans h.b2, (ho.frozen h.lp np).trans h.z0, (ho.frozen h.lp np).trans h.z1, (ho.frozen h.lp np).trans h.z2⟩
theorem Pb.new (w : World) (sk : Bool) (dead : Nat) (v : Value) (x y z : Nat) (t t' t'' : TypeId) : Pb (((w.alloc (.cells #[.bool sk, nv dead, v] t)).alloc (.cells #[nv x, nv y, nv z] t')).alloc (.cells #[.bool false, .int .i64 0, .slice none 0 0] t'')) w.heap.size (w.heap.size + 1) (w.heap.size + 1 + 1) sk dead v x y z := by
  refine ⟨by simp; omega, by simp, by simp, ?_, ?_, ?_, ?_, ?_, ?_, ?_, ?_, ?_, ?_, ?_, ?_, ?_, ?_⟩ <;> simp [go_sem]
theorem results_cell_tmp2 {fn : Func} {p u v : Tmp} {ty : TypeId} (h : fn.results = #[.cell p ty, .tmp u, .tmp v]) (tmps : Array Value) (P : Program) (w : World) :
    (results fn tmps).run P w =
      ((asAddr (tmps.getD p undef)).run P w).andThen fun a w₁ => ((loadVar ty a).run P w₁).andThen fun x w₂ => .ok (.tuple #[x, tmps.getD u undef, tmps.getD v undef]) w₂ := by
  simp only [results, h]
  simp [Sem.run_bind, Result.andThen]
set_option maxRecDepth 20000 in
set_option maxHeartbeats 4000000 in
theorem rpass_bad (sk : Bool) (g : Gt.G) (x y z : Int) (A : Option Addr) (n c : Nat) (w : World) (h : ¬ actOk (x, y, z)) :
    Calls Tryd.prog 19 #[.agg #[.bool sk, nv g.dead, .slice A n c], .agg #[.int .i64 x, .int .i64 y, .int .i64 z]] w fun e w' => e = .returned (.tuple #[.agg #[.bool sk, nv g.dead, .slice A n c], .bool false, nv 1]) ∧ Below w.heap.size w w' := by
  have c1 := Lib.hid fun w5 : World => ract_bad x y z w5 h
  clear h
  go_enter Tryd.func19, Tryd.ntmps19
  go_wp2_with fail
  (with_reducible refine (c1.out _).mono ?_)
  rintro e w1 ⟨rfl, rfl⟩
  go_wp2_with fail
  (try simp only [Exit.inBlock, Exit.then])
  refine bodyPost_ret ((results_cell_tmp2 rfl _ _ _).trans (by simp [go_sem]; rfl)) rfl ?_
  exact ⟨rfl, ((((Below.refl _ _).alloc (Nat.le_refl _) _).alloc (by simp) _).alloc (by simp; omega) _).alloc (by simp; omega) _⟩
set_option maxRecDepth 20000 in
set_option maxHeartbeats 4000000 in
theorem rpass_dead (sk : Bool) (g : Gt.G) (tx it wt : Nat) (A : Option Addr) (n c : Nat) (w : World) (a1 : tx < 5) (a2 : it < 4) (a3 : wt < 2) (hd : g.dead < 32) (hb : g.dead.testBit tx = true) :
    Calls Tryd.prog 19 #[.agg #[.bool sk, nv g.dead, .slice A n c], .agg #[nv tx, nv it, nv wt]] w fun e w' => e = .returned (.tuple #[.agg #[.bool sk, nv g.dead, .slice A n c], .bool false, nv 7]) ∧ Below w.heap.size w w' := by
  have c1 := Lib.hid fun w5 : World => ract_ok tx it wt w5 ⟨by simp only; omega, by simp only; omega, by simp only; omega⟩
  have c2 := Lib.hid fun w5 : World => bit_calls g.dead tx w5 (by omega) (by omega)
  rw [hb] at c2
  clear hb
  go_enter Tryd.func19, Tryd.ntmps19
  go_wp2_with fail
  (with_reducible refine (c1.out _).mono ?_)
  rintro e w1 ⟨rfl, rfl⟩
  go_wp2_with fail
  (with_reducible refine (c2.out _).mono ?_)
  rintro e w1 ⟨rfl, rfl⟩
  go_wp2_with fail
  (try simp only [Exit.inBlock, Exit.then])
  refine bodyPost_ret ((results_cell_tmp2 rfl _ _ _).trans (by simp [go_sem]; rfl)) rfl ?_
  exact ⟨rfl, ((((Below.refl _ _).alloc (Nat.le_refl _) _).alloc (by simp) _).alloc (by simp; omega) _).alloc (by simp; omega) _⟩
set_option maxRecDepth 20000 in
set_option maxHeartbeats 4000000 in
theorem rpass_full (sk : Bool) (g : Gt.G) (tx it wt : Nat) (A : Option Addr) (n c : Nat) (w : World) (a1 : tx < 5) (a2 : it < 4) (a3 : wt < 2) (hd : g.dead < 32) (hb : g.dead.testBit tx = false) (hn : 24 ≤ n) :
    Calls Tryd.prog 19 #[.agg #[.bool sk, nv g.dead, .slice A n c], .agg #[nv tx, nv it, nv wt]] w fun e w' => e = .returned (.tuple #[.agg #[.bool sk, nv g.dead, .slice A n c], .bool false, nv 4]) ∧ Below w.heap.size w w' := by
  have c1 := Lib.hid fun w5 : World => ract_ok tx it wt w5 ⟨by simp only; omega, by simp only; omega, by simp only; omega⟩
  have c2 := Lib.hid fun w5 : World => bit_calls g.dead tx w5 (by omega) (by omega)
  have t1 : decide ((24 : Int) ≤ (n : Int)) = true := by simp; omega
  rw [hb] at c2
  clear hb
  go_enter Tryd.func19, Tryd.ntmps19
  go_wp2_with fail
  (with_reducible refine (c1.out _).mono ?_)
  rintro e w1 ⟨rfl, rfl⟩
  go_wp2_with fail
  (with_reducible refine (c2.out _).mono ?_)
  rintro e w1 ⟨rfl, rfl⟩
  go_wp2_with fail
  (try simp only [Exit.inBlock, Exit.then])
  refine bodyPost_ret ((results_cell_tmp2 rfl _ _ _).trans (by simp [go_sem]; rfl)) rfl ?_
  exact ⟨rfl, ((((Below.refl _ _).alloc (Nat.le_refl _) _).alloc (by simp) _).alloc (by simp; omega) _).alloc (by simp; omega) _⟩
set_option maxRecDepth 20000 in
set_option maxHeartbeats 8000000 in
theorem rpass_main (sk : Bool) (g : Gt.G) (tx it wt : Nat) (A : Option Addr) (c : Nat) (w : World) (hr : Acts w w.heap.size (.slice A g.acts.length c) (Sch.zacts g.acts)) (hI : Gt.Inv g) (a1 : tx < 5) (a2 : it < 4) (a3 : wt < 2) (hb : g.dead.testBit tx = false) (hn : g.acts.length ≠ 24) :
    Calls Tryd.prog 19 #[.agg #[.bool sk, nv g.dead, .slice A g.acts.length c], .agg #[nv tx, nv it, nv wt]] w fun e w' =>
      ∃ v', e = .returned (.tuple #[.agg #[.bool sk, nv (Gt.pass sk g (tx, it, wt)).1.dead, v'], .bool (Gt.pass sk g (tx, it, wt)).2.1, nv (Gt.pass sk g (tx, it, wt)).2.2]) ∧
        ((v' = .slice A g.acts.length c ∧ (Gt.pass sk g (tx, it, wt)).1.acts = g.acts) ∨ OwnA w' w.heap.size v' (Sch.zacts (Gt.pass sk g (tx, it, wt)).1.acts)) ∧ Below w.heap.size w w' := by
  obtain ⟨h1, h2, h3, h4, h5, h6, h7, h8, h9, h10⟩ := hI
  have c1 := Lib.hid fun w5 : World => ract_ok tx it wt w5 ⟨by simp only; omega, by simp only; omega, by simp only; omega⟩
  have c2 := Lib.hid fun w5 : World => bit_calls g.dead tx w5 (by omega) (by omega)
  have c3 := Lib.hid fun w5 : World => with_calls g.dead tx w5 h5 a1 hb
  have t1 : decide ((24 : Int) ≤ (g.acts.length : Int)) = false := by simp; omega
  have HP : Gt.pass sk g (tx, it, wt) = if Gt.clashes sk g (tx, it, wt) = true then ({ g with dead := g.dead ||| 2 ^ tx }, false, 6)
      else if wt = 1 then (if Gt.late g (tx, it, wt) = true then (g, false, 0) else ({ g with wr := g.wr.set it (tx + 1), acts := g.acts ++ [(tx, it, wt)] }, true, 0))
      else ({ g with rd := g.rd.set it (max (g.rd.getD it 0) (tx + 1)), acts := g.acts ++ [(tx, it, wt)] }, true, 0) := by
    unfold Gt.pass
    rw [if_neg (by rw [hb]; decide), if_neg hn]
  have HL : Gt.late g (tx, it, wt) = anyW 1 (tx, it, wt) g.acts := by rw [anyW_top]; unfold Gt.late; rw [h4 it a2]
  have HE : Gt.early g (tx, it, wt) = anyW 0 (tx, it, wt) g.acts := by rw [anyW_top]; unfold Gt.early; rw [h3 it a2]
  rw [hb] at c2
  have hlen := h6
  have HR := Lib.hid hr
  have HOK := Lib.hid h7
  have hnl : g.acts.length < 24 := by omega
  clear h1 h2 h3 h4 h6 h7 h8 h9 h10 hr
  have hP2 := Lib.hid (show Gt.clashes sk g (tx, it, wt) = ((wt == 0 && anyW 1 (tx, it, wt) g.acts) || (wt == 1 && anyW 0 (tx, it, wt) g.acts) || (wt == 1 && anyW 1 (tx, it, wt) g.acts && !sk)) by unfold Gt.clashes; rw [HL, HE])
  rw [HL] at HP
  have hP := Lib.hid HP
  clear HP HL HE
  go_enter Tryd.func19, Tryd.ntmps19
  go_wp2_with fail
  (with_reducible refine (c1.out _).mono ?_)
  rintro e w1 ⟨rfl, rfl⟩
  go_wp2_with fail
  (with_reducible refine (c2.out _).mono ?_)
  rintro e w1 ⟨rfl, rfl⟩
  go_wp2_with fail
  have HPB := Lib.hid ((Pb.new w sk g.dead (.slice A g.acts.length c) tx it wt 36 28 36).below ((Below.refl _ _).alloc (Nat.le_refl _) (.cells #[.int .i64 tx, .int .i64 it, .int .i64 wt] 28)))
  have HBB := Lib.hid (((((Below.refl w.heap.size w).alloc (Nat.le_refl _) (.cells #[.bool sk, nv g.dead, .slice A g.acts.length c] 36)).alloc (by simp) (.cells #[nv tx, nv it, nv wt] 28)).alloc (by simp; omega) (.cells #[.bool false, .int .i64 0, .slice none 0 0] 36)).alloc (by simp; omega) (.cells #[.int .i64 tx, .int .i64 it, .int .i64 wt] 28))
  generalize hW : ((((w.alloc (.cells #[.bool sk, nv g.dead, .slice A g.acts.length c] 36)).alloc (.cells #[nv tx, nv it, nv wt] 28)).alloc (.cells #[.bool false, .int .i64 0, .slice none 0 0] 36)).alloc (.cells #[.int .i64 tx, .int .i64 it, .int .i64 wt] 28)) = W at *
  have HW := Lib.hid (show W.heap.size = w.heap.size + 4 by rw [← hW]; simp)
  clear hW c1 c2
  go_loopw [7, 8, 9] (fun rv wv i wr => ∃ (k n : Nat) (rb wb : Bool), k ≤ g.acts.length ∧ rv = .bool rb ∧ wv = .bool wb ∧ i = nv k ∧ Hid (rb = anyW 0 (tx, it, wt) (g.acts.take k)) ∧ Hid (wb = anyW 1 (tx, it, wt) (g.acts.take k)) ∧ wr = W.drewN n) (fun _ _ i _ => g.acts.length - (intOf i).toNat)
  case atStart => exact ⟨0, 0, false, false, Nat.zero_le _, rfl, rfl, rfl, Lib.hid rfl, Lib.hid rfl, rfl⟩
  case round =>
    obtain ⟨k, n, rb, wb, hk, rfl, rfl, rfl, hrb, hwb, rfl⟩ := hrel
    by_cases hkl : k < g.acts.length
    · obtain ⟨bd, od, cd, he, _, _, hbd, d0, d1, d2⟩ := Acts.atN (Rd.below HR.out HBB.out) hkl
      cases he
      obtain ⟨_, _, _, c0, c1, c2, _, _, a0, a1', a2', _, _, _, _, _, _⟩ := HPB.out
      obtain ⟨o1, o2, o3⟩ := Sch.getD_ok HOK.out k
      have E0 := Lib.hid (show anyW 0 (tx, it, wt) (g.acts.take (k + 1)) = _ by rw [take_snoc _ _ hkl, anyW_snoc, ← hrb.out])
      have E1 := Lib.hid (show anyW 1 (tx, it, wt) (g.acts.take (k + 1)) = _ by rw [take_snoc _ _ hkl, anyW_snoc, ← hwb.out])
      generalize g.acts.getD k Sch.d3 = xx at *
      obtain ⟨x0, x1, x2⟩ := xx
      replace o1 : x0 < 5 := o1
      replace o2 : x1 < 4 := o2
      replace o3 : x2 < 2 := o3
      clear hrb hwb
      have hw : x1 ≠ it ∨ (x1 = it ∧ ¬ tx < x0) ∨ (x1 = it ∧ tx < x0 ∧ x2 = 0) ∨ (x1 = it ∧ tx < x0 ∧ x2 = 1) := by omega
      rcases hw with hx | ⟨rfl, hx⟩ | ⟨rfl, hx⟩ | ⟨rfl, hx⟩
      · have t5 : ((x1 : Int) == (it : Int)) = false := by simp; omega
        go_wp2_with fail
        go_quiet (fail)
        go_wp2_with fail
        go_roundw
        case rel => exact ⟨k + 1, _, _, _, by omega, rfl, rfl, by go_num, Lib.hid (by rw [E0.out]; simp [hx]), Lib.hid (by rw [E1.out]; simp [hx]), rfl⟩
        case measure => simp [intOf]; omega
      · have t5 : ((x1 : Int) == (x1 : Int)) = true := by simp
        have t6 : decide ((tx : Int) < (x0 : Int)) = false := by simp; omega
        go_wp2_with fail
        go_quiet (fail)
        go_wp2_with fail
        go_roundw
        case rel => exact ⟨k + 1, _, _, _, by omega, rfl, rfl, by go_num, Lib.hid (by rw [E0.out]; simp [hx]), Lib.hid (by rw [E1.out]; simp [hx]), rfl⟩
        case measure => simp [intOf]; omega
      · have t5 : ((x1 : Int) == (x1 : Int)) = true := by simp
        have t6 : decide (tx < x0) = true := by simp; omega
        have t7 : ((x2 : Int) == 0) = true := by simp; omega
        have t8 : ((x2 : Int) == 1) = false := by simp; omega
        replace hx := Lib.hid hx
        cases rb <;> cases wb
        all_goals
          go_wp2_with fail
          go_quiet (fail)
          go_wp2_with fail
          go_roundw
          case rel => exact ⟨k + 1, _, _, _, by omega, rfl, rfl, by go_num, Lib.hid (by rw [E0.out]; simp [hx.out]), Lib.hid (by rw [E1.out]; simp [hx.out]), rfl⟩
          case measure => simp [intOf]; omega
      · have t5 : ((x1 : Int) == (x1 : Int)) = true := by simp
        have t6 : decide (tx < x0) = true := by simp; omega
        have t7 : ((x2 : Int) == 0) = false := by simp; omega
        have t8 : ((x2 : Int) == 1) = true := by simp; omega
        replace hx := Lib.hid hx
        cases rb <;> cases wb
        all_goals
          go_wp2_with fail
          go_quiet (fail)
          go_wp2_with fail
          go_roundw
          case rel => exact ⟨k + 1, _, _, _, by omega, rfl, rfl, by go_num, Lib.hid (by rw [E0.out]; simp [hx.out]), Lib.hid (by rw [E1.out]; simp [hx.out]), rfl⟩
          case measure => simp [intOf]; omega
    · obtain rfl : k = g.acts.length := by omega
      rw [List.take_length] at hrb hwb
      have hP3 := Lib.hid hP2.out
      rw [← hrb.out, ← hwb.out] at hP3
      have hP4 := Lib.hid hP.out
      rw [← hwb.out] at hP4
      have HB4 := Lib.hid (drn HBB.out n)
      have hways : (wt = 0 ∧ wb = true) ∨ (wt = 1 ∧ rb = true) ∨ (wt = 1 ∧ rb = false ∧ wb = true ∧ sk = false) ∨ (wt = 1 ∧ rb = false ∧ wb = true ∧ sk = true) ∨ (wt = 0 ∧ wb = false) ∨ (wt = 1 ∧ rb = false ∧ wb = false) := by
        have : wt = 0 ∨ wt = 1 := by omega
        rcases this with h | h <;> cases rb <;> cases wb <;> cases sk <;> simp [h]
      obtain ⟨_, _, _, c0, c1, c2, f1, f2, a0, a1', a2', b0, b1, b2, z0, z1, z2⟩ := HPB.out
      clear hrb hwb hP hP2 hk hkl
      rcases hways with ⟨hv, rfl⟩ | ⟨hv, rfl⟩ | ⟨hv, rfl, rfl, rfl⟩ | ⟨hv, rfl, rfl, rfl⟩ | ⟨hv, rfl⟩ | ⟨hv, rfl, rfl⟩
      · skip
        have hpv := Lib.hid (show Gt.pass sk g (tx, it, wt) = ({ g with dead := g.dead ||| 2 ^ tx }, false, 6) by rw [hP4.out, hP3.out]; simp [hv])
        have u0 : ((wt : Int) == 0) = true := by simp; omega
        have u1 : ((wt : Int) == 1) = false := by simp; omega
        clear hP3 hP4
        replace hv := Lib.hid hv
        go_wp2_with fail
        (with_reducible refine (c3.out _).mono ?_)
        rintro e w1 ⟨rfl, rfl⟩
        go_wp2_with fail
        (try simp only [Exit.inBlock, Exit.then])
        refine bodyPost_ret ((results_cell_tmp2 rfl _ _ _).trans (by simp [go_sem, b0, b1, b2]; rfl)) rfl ?_
        rw [hpv.out]
        exact ⟨_, rfl, .inl ⟨rfl, rfl⟩, (((HB4.out.setCell (p := ⟨w.heap.size, 1, none⟩) (Nat.le_refl _) _).setCell (p := ⟨w.heap.size + 1 + 1, 0, none⟩) (by simp; omega) _).setCell (p := ⟨w.heap.size + 1 + 1, 1, none⟩) (by simp; omega) _).setCell (p := ⟨w.heap.size + 1 + 1, 2, none⟩) (by simp; omega) _⟩
      · skip
        have hpv := Lib.hid (show Gt.pass sk g (tx, it, wt) = ({ g with dead := g.dead ||| 2 ^ tx }, false, 6) by rw [hP4.out, hP3.out]; simp [hv])
        have u0 : ((wt : Int) == 0) = false := by simp; omega
        have u1 : ((wt : Int) == 1) = true := by simp; omega
        clear hP3 hP4
        replace hv := Lib.hid hv
        go_wp2_with fail
        (with_reducible refine (c3.out _).mono ?_)
        rintro e w1 ⟨rfl, rfl⟩
        go_wp2_with fail
        (try simp only [Exit.inBlock, Exit.then])
        refine bodyPost_ret ((results_cell_tmp2 rfl _ _ _).trans (by simp [go_sem, b0, b1, b2]; rfl)) rfl ?_
        rw [hpv.out]
        exact ⟨_, rfl, .inl ⟨rfl, rfl⟩, (((HB4.out.setCell (p := ⟨w.heap.size, 1, none⟩) (Nat.le_refl _) _).setCell (p := ⟨w.heap.size + 1 + 1, 0, none⟩) (by simp; omega) _).setCell (p := ⟨w.heap.size + 1 + 1, 1, none⟩) (by simp; omega) _).setCell (p := ⟨w.heap.size + 1 + 1, 2, none⟩) (by simp; omega) _⟩
      · skip
        have hpv := Lib.hid (show Gt.pass false g (tx, it, wt) = ({ g with dead := g.dead ||| 2 ^ tx }, false, 6) by rw [hP4.out, hP3.out]; simp [hv])
        have u0 : ((wt : Int) == 0) = false := by simp; omega
        have u1 : ((wt : Int) == 1) = true := by simp; omega
        clear hP3 hP4
        replace hv := Lib.hid hv
        go_wp2_with fail
        (with_reducible refine (c3.out _).mono ?_)
        rintro e w1 ⟨rfl, rfl⟩
        go_wp2_with fail
        (try simp only [Exit.inBlock, Exit.then])
        refine bodyPost_ret ((results_cell_tmp2 rfl _ _ _).trans (by simp [go_sem, b0, b1, b2]; rfl)) rfl ?_
        rw [hpv.out]
        exact ⟨_, rfl, .inl ⟨rfl, rfl⟩, (((HB4.out.setCell (p := ⟨w.heap.size, 1, none⟩) (Nat.le_refl _) _).setCell (p := ⟨w.heap.size + 1 + 1, 0, none⟩) (by simp; omega) _).setCell (p := ⟨w.heap.size + 1 + 1, 1, none⟩) (by simp; omega) _).setCell (p := ⟨w.heap.size + 1 + 1, 2, none⟩) (by simp; omega) _⟩
      · skip
        have hpv := Lib.hid (show Gt.pass true g (tx, it, wt) = (g, false, 0) by rw [hP4.out, hP3.out]; simp [hv])
        have u0 : ((wt : Int) == 0) = false := by simp; omega
        have u1 : ((wt : Int) == 1) = true := by simp; omega
        clear hP3 hP4
        replace hv := Lib.hid hv
        go_wp2_with fail
        (try simp only [Exit.inBlock, Exit.then])
        refine bodyPost_ret ((results_cell_tmp2 rfl _ _ _).trans (by simp [go_sem, b0, b1, b2]; rfl)) rfl ?_
        rw [hpv.out]
        exact ⟨_, rfl, .inl ⟨rfl, rfl⟩, ((HB4.out.setCell (p := ⟨w.heap.size + 1 + 1, 0, none⟩) (by simp; omega) _).setCell (p := ⟨w.heap.size + 1 + 1, 1, none⟩) (by simp; omega) _).setCell (p := ⟨w.heap.size + 1 + 1, 2, none⟩) (by simp; omega) _⟩
      · skip
        have hpv := Lib.hid (show Gt.pass sk g (tx, it, wt) = ({ g with rd := g.rd.set it (max (g.rd.getD it 0) (tx + 1)), acts := g.acts ++ [(tx, it, wt)] }, true, 0) by rw [hP4.out, hP3.out]; simp [hv])
        have u0 : ((wt : Int) == 0) = true := by simp; omega
        have u1 : ((wt : Int) == 1) = false := by simp; omega
        clear hP3 hP4
        replace hv := Lib.hid hv
        have HP0 := Lib.hid (HPB.out.below (drn (Below.refl _ _) n))
        have HA0 := Lib.hid (Rd.below HR.out HB4.out)
        go_wp2_with (at_builtin; (first | (refine append_acts_any rfl _ _ rfl W.heap.size _ [] (Sch.zacts g.acts) rfl (OwnA.nil _ _) w.heap.size A c (by rw [Sch.length_zacts]; rfl) (by rw [Sch.length_zacts]; exact HA0.out) (by simp; omega) (Nat.le_refl _) ?_; intro v1 w1 hown1 hb1; rw [List.nil_append] at hown1; have HO1 := Lib.hid hown1; have HBX := Lib.hid hb1; have HP1 := Lib.hid (HP0.out.below hb1); obtain ⟨_, _, _, c0, c1, c2, f1, f2, a0, a1', a2', b0, b1, b2, z0, z1, z2⟩ := HP1.out; clear hown1 hb1) | (refine append_act_at rfl _ _ rfl W.heap.size _ (Sch.zacts g.acts) rfl (HO1.out.alloc _) w1.heap.size rfl ((tx : Int), (it : Int), (wt : Int)) (new_act _ _ _) (by rw [Sch.length_zacts]; omega) (by have := HBX.out.size; simp at this ⊢; omega) ?_; intro v2 w2 hown2 hg2 hat2; obtain ⟨A2, cc2, he2⟩ := Rd.val hown2.acts; rw [show (Sch.zacts g.acts ++ [((tx : Int), (it : Int), (wt : Int))]).length = g.acts.length + 1 by simp] at he2; subst he2; have HO2 := Lib.hid hown2; have HBY := Lib.hid (((HBX.out.alloc HBX.out.size (.cells #[.int .i64 tx, .int .i64 it, .int .i64 wt] 28)).grown hg2 (by have := HBX.out.size; simp at this ⊢; omega) (OwnA.blockLe HO1.out))); have HP2 := Lib.hid (HP0.out.belowB HBY.out (by have := HW.out; omega) (by have := HW.out; omega) (by have := HW.out; omega)); obtain ⟨_, _, _, c0, c1, c2, f1, f2, a0, a1', a2', b0, b1, b2, z0, z1, z2⟩ := HP2.out; clear hown2 hg2 hat2)))
        (try simp only [Exit.inBlock, Exit.then])
        refine bodyPost_ret ((results_cell_tmp2 rfl _ _ _).trans (by simp [go_sem, b0, b1, b2]; rfl)) rfl ?_
        rw [hpv.out]
        have hWs := HW.out
        have ho := (((((Only.refl (fun k => k < W.heap.size) w2).setCell (p := ⟨w.heap.size, 2, none⟩) (.inl (by simp only; omega)) (.slice A2 (g.acts.length + 1) cc2)).setCell (p := ⟨w.heap.size + 1 + 1, 0, none⟩) (.inl (by simp only; omega)) (.bool sk)).setCell (p := ⟨w.heap.size + 1 + 1, 1, none⟩) (.inl (by simp only; omega)) (.int .i64 (g.dead : Int))).setCell (p := ⟨w.heap.size + 1 + 1, 2, none⟩) (.inl (by simp only; omega)) (.slice A2 (g.acts.length + 1) cc2))
        have hoo := (HO2.out.only ho (fun k hk hs => by have := (row_lt HO2.out k hk).1; have hs' : k < W.heap.size := hs; omega)).down (base' := w.heap.size) (by omega)
        refine ⟨_, rfl, .inr (by rw [rp_snoc]; exact hoo), ?_⟩
        exact ((((HB4.out.trans (HBY.out.mono (by omega))).setCell (p := ⟨w.heap.size, 2, none⟩) (Nat.le_refl _) _).setCell (p := ⟨w.heap.size + 1 + 1, 0, none⟩) (by simp; omega) _).setCell (p := ⟨w.heap.size + 1 + 1, 1, none⟩) (by simp; omega) _).setCell (p := ⟨w.heap.size + 1 + 1, 2, none⟩) (by simp; omega) _
      · skip
        have hpv := Lib.hid (show Gt.pass sk g (tx, it, wt) = ({ g with wr := g.wr.set it (tx + 1), acts := g.acts ++ [(tx, it, wt)] }, true, 0) by rw [hP4.out, hP3.out]; simp [hv])
        have u0 : ((wt : Int) == 0) = false := by simp; omega
        have u1 : ((wt : Int) == 1) = true := by simp; omega
        clear hP3 hP4
        replace hv := Lib.hid hv
        have HP0 := Lib.hid (HPB.out.below (drn (Below.refl _ _) n))
        have HA0 := Lib.hid (Rd.below HR.out HB4.out)
        go_wp2_with (at_builtin; (first | (refine append_acts_any rfl _ _ rfl W.heap.size _ [] (Sch.zacts g.acts) rfl (OwnA.nil _ _) w.heap.size A c (by rw [Sch.length_zacts]; rfl) (by rw [Sch.length_zacts]; exact HA0.out) (by simp; omega) (Nat.le_refl _) ?_; intro v1 w1 hown1 hb1; rw [List.nil_append] at hown1; have HO1 := Lib.hid hown1; have HBX := Lib.hid hb1; have HP1 := Lib.hid (HP0.out.below hb1); obtain ⟨_, _, _, c0, c1, c2, f1, f2, a0, a1', a2', b0, b1, b2, z0, z1, z2⟩ := HP1.out; clear hown1 hb1) | (refine append_act_at rfl _ _ rfl W.heap.size _ (Sch.zacts g.acts) rfl (HO1.out.alloc _) w1.heap.size rfl ((tx : Int), (it : Int), (wt : Int)) (new_act _ _ _) (by rw [Sch.length_zacts]; omega) (by have := HBX.out.size; simp at this ⊢; omega) ?_; intro v2 w2 hown2 hg2 hat2; obtain ⟨A2, cc2, he2⟩ := Rd.val hown2.acts; rw [show (Sch.zacts g.acts ++ [((tx : Int), (it : Int), (wt : Int))]).length = g.acts.length + 1 by simp] at he2; subst he2; have HO2 := Lib.hid hown2; have HBY := Lib.hid (((HBX.out.alloc HBX.out.size (.cells #[.int .i64 tx, .int .i64 it, .int .i64 wt] 28)).grown hg2 (by have := HBX.out.size; simp at this ⊢; omega) (OwnA.blockLe HO1.out))); have HP2 := Lib.hid (HP0.out.belowB HBY.out (by have := HW.out; omega) (by have := HW.out; omega) (by have := HW.out; omega)); obtain ⟨_, _, _, c0, c1, c2, f1, f2, a0, a1', a2', b0, b1, b2, z0, z1, z2⟩ := HP2.out; clear hown2 hg2 hat2)))
        (try simp only [Exit.inBlock, Exit.then])
        refine bodyPost_ret ((results_cell_tmp2 rfl _ _ _).trans (by simp [go_sem, b0, b1, b2]; rfl)) rfl ?_
        rw [hpv.out]
        have hWs := HW.out
        have ho := (((((Only.refl (fun k => k < W.heap.size) w2).setCell (p := ⟨w.heap.size, 2, none⟩) (.inl (by simp only; omega)) (.slice A2 (g.acts.length + 1) cc2)).setCell (p := ⟨w.heap.size + 1 + 1, 0, none⟩) (.inl (by simp only; omega)) (.bool sk)).setCell (p := ⟨w.heap.size + 1 + 1, 1, none⟩) (.inl (by simp only; omega)) (.int .i64 (g.dead : Int))).setCell (p := ⟨w.heap.size + 1 + 1, 2, none⟩) (.inl (by simp only; omega)) (.slice A2 (g.acts.length + 1) cc2))
        have hoo := (HO2.out.only ho (fun k hk hs => by have := (row_lt HO2.out k hk).1; have hs' : k < W.heap.size := hs; omega)).down (base' := w.heap.size) (by omega)
        refine ⟨_, rfl, .inr (by rw [rp_snoc]; exact hoo), ?_⟩
        exact ((((HB4.out.trans (HBY.out.mono (by omega))).setCell (p := ⟨w.heap.size, 2, none⟩) (Nat.le_refl _) _).setCell (p := ⟨w.heap.size + 1 + 1, 0, none⟩) (by simp; omega) _).setCell (p := ⟨w.heap.size + 1 + 1, 1, none⟩) (by simp; omega) _).setCell (p := ⟨w.heap.size + 1 + 1, 2, none⟩) (by simp; omega) _
end Go.Proofs.YtkindaadadggoaaDoor
