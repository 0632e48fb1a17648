/- Two rows of five sets in blocks of their own, and their boxes: what view.Edges builds. Conditions: each law's own premises. -/
import Derived.Test.YtkindaadadggoaaDoorVCom
import Derived.Test.YtkindaadadggoaaDoorRow
import Derived.Test.YtkindaadadggoaaDoorRound
namespace Go.Proofs.YtkindaadadggoaaDoor
open Go.RowKit Go.Shelf
attribute [local go_sem] Oper.semAt_some

theorem run_make5 (w : World) : (Instr.makeSlice 26 (.int .i64 5) (.int .i64 5)).run Tryd.prog w = .ok (.slice (some ⟨w.heap.size, 0, none⟩) 5 5) (w.alloc (.cells #[.int .i64 0, .int .i64 0, .int .i64 0, .int .i64 0, .int .i64 0] 3)) := by
  obtain ⟨i0, hi, hz0, hz1, hz2⟩ := info_parts Tryd.infoInt
  have h := run_make (P := Tryd.prog) w 26 3 i0 (.int .i64 0) Tryd.underlying26 hi hz0 .i64 .i64 5 5 (by decide) (by decide) (by rw [hz2]; decide) (by decide)
  rw [hz1, show madeCells (Value.int .i64 0).cells ((5 : Int).toNat * 1) = #[.int .i64 0, .int .i64 0, .int .i64 0, .int .i64 0, .int .i64 0] from by kernel_rfl] at h
  exact h
abbrev z5 : Obj := .cells #[.int .i64 0, .int .i64 0, .int .i64 0, .int .i64 0, .int .i64 0] 3
theorem own_made5 (w : World) (base g : Nat) (hg : g = w.heap.size) (hb : base ≤ g) : Own (w.alloc z5) base (.slice (some ⟨g, 0, none⟩) 5 5) (zs [0, 0, 0, 0, 0]) := by
  subst hg
  exact ⟨rfl, .inr ⟨w.heap.size, 5, #[.int .i64 0, .int .i64 0, .int .i64 0, .int .i64 0, .int .i64 0], rfl, hb, by show (w.heap.push _)[w.heap.size]? = _; simp, Nat.le_refl _, by decide, rfl, rfl⟩⟩
theorem Own.awayE {w : World} {base g n c : Nat} {l : List Int} (h : Own w base (.slice (some ⟨g, 0, none⟩) n c) l) (p : Addr) (x : Value) (hp : p.block ≠ g) : Own (w.setCell p x) base (.slice (some ⟨g, 0, none⟩) n c) l := by
  refine ⟨h.1, ?_⟩
  rcases h.2 with h2 | ⟨b, cap, cur, hv, hb, hh, r⟩
  · exact .inl h2
  · refine .inr ⟨b, cap, cur, hv, hb, ?_, r⟩
    have e : g = b := by
      injection hv with hv _ _
      injection hv with hv
      exact congrArg Addr.block hv
    rw [Below.heap_setCell _ _ _ b (by omega)]
    exact hh
/-- two rows of five in blocks of their own, and their boxes -/
structure Two (B b : Nat) (w W : World) (g1 g2 : Nat) (X Y : List Nat) : Prop where
  ne : g1 ≠ g2
  l1 : B + 3 ≤ g1 ∧ g1 < B + 5
  l2 : B + 3 ≤ g2 ∧ g2 < B + 5
  c0 : W.cell? ⟨B, 0, none⟩ = some (.pointer (some ⟨b, 0, none⟩))
  c1 : W.cell? ⟨B + 1, 0, none⟩ = some (.slice (some ⟨g1, 0, none⟩) 5 5) ∧ W.frozen? ⟨B + 1, 0, none⟩ = false
  c2 : W.cell? ⟨B + 1 + 1, 0, none⟩ = some (.slice (some ⟨g2, 0, none⟩) 5 5) ∧ W.frozen? ⟨B + 1 + 1, 0, none⟩ = false
  o1 : Own W B (.slice (some ⟨g1, 0, none⟩) 5 5) (zs X)
  o2 : Own W B (.slice (some ⟨g2, 0, none⟩) 5 5) (zs Y)
  sz : B + 5 ≤ W.heap.size
  bw : Below B w W
  lx : X.length = 5
  ly : Y.length = 5
section
variable {B b : Nat} {w W : World} {g1 g2 : Nat} {X Y : List Nat}
theorem Two.cellX (h : Two B b w W g1 g2 X Y) {k : Nat} (hk : k < 5) : W.cell? ⟨g1, k, none⟩ = some (nv (X.getD k 0)) := by
  have := h.o1.lit.2.2.1 k (by rw [length_zs, h.lx]; exact hk)
  rw [zs_getElem] at this
  exact this
theorem Two.cellY (h : Two B b w W g1 g2 X Y) {k : Nat} (hk : k < 5) : W.cell? ⟨g2, k, none⟩ = some (nv (Y.getD k 0)) := by
  have := h.o2.lit.2.2.1 k (by rw [length_zs, h.ly]; exact hk)
  rw [zs_getElem] at this
  exact this
theorem Two.frX (h : Two B b w W g1 g2 X Y) (k : Nat) : W.frozen? ⟨g1, k, none⟩ = false := h.o1.lit.2.2.2.1 k
theorem Two.frY (h : Two B b w W g1 g2 X Y) (k : Nat) : W.frozen? ⟨g2, k, none⟩ = false := h.o2.lit.2.2.2.1 k
theorem Two.setX (h : Two B b w W g1 g2 X Y) (k n : Nat) : Two B b w (W.setCell ⟨g1, k, none⟩ (.int .i64 (n : Int))) g1 g2 (X.set k n) Y := by
  have hl1 := h.l1
  refine ⟨h.ne, h.l1, h.l2, ?_, ⟨?_, ?_⟩, ⟨?_, ?_⟩, ?_, h.o2.awayE _ _ h.ne, by simpa using h.sz, h.bw.setCell (by simp; omega) _, by simpa using h.lx, h.ly⟩
  · exact (World.cell?_setCell_far _ _ _ _ (by simp; omega)).trans h.c0
  · exact (World.cell?_setCell_far _ _ _ _ (by simp; omega)).trans h.c1.1
  · exact (World.frozen?_of_block (Below.heap_setCell _ _ _ _ (by simp; omega))).trans h.c1.2
  · exact (World.cell?_setCell_far _ _ _ _ (by simp; omega)).trans h.c2.1
  · exact (World.frozen?_of_block (Below.heap_setCell _ _ _ _ (by simp; omega))).trans h.c2.2
  · rw [← zs_set]; exact h.o1.lit.2.2.2.2 k n
theorem Two.setY (h : Two B b w W g1 g2 X Y) (k n : Nat) : Two B b w (W.setCell ⟨g2, k, none⟩ (.int .i64 (n : Int))) g1 g2 X (Y.set k n) := by
  have hl1 := h.l2
  refine ⟨h.ne, h.l1, h.l2, ?_, ⟨?_, ?_⟩, ⟨?_, ?_⟩, h.o1.awayE _ _ (Ne.symm h.ne), ?_, by simpa using h.sz, h.bw.setCell (by simp; omega) _, h.lx, by simpa using h.ly⟩
  · exact (World.cell?_setCell_far _ _ _ _ (by simp; omega)).trans h.c0
  · exact (World.cell?_setCell_far _ _ _ _ (by simp; omega)).trans h.c1.1
  · exact (World.frozen?_of_block (Below.heap_setCell _ _ _ _ (by simp; omega))).trans h.c1.2
  · exact (World.cell?_setCell_far _ _ _ _ (by simp; omega)).trans h.c2.1
  · exact (World.frozen?_of_block (Below.heap_setCell _ _ _ _ (by simp; omega))).trans h.c2.2
  · rw [← zs_set]; exact h.o2.lit.2.2.2.2 k n
theorem Two.moreX (h : Two B b w W g1 g2 X Y) (k j : Nat) : Two B b w (W.setCell ⟨g1, k, none⟩ (.int .i64 ((X.getD k 0 ||| 2 ^ j : Nat) : Int))) g1 g2 (Odr.more X k j) Y := h.setX k _
theorem Two.moreY (h : Two B b w W g1 g2 X Y) (k j : Nat) : Two B b w (W.setCell ⟨g2, k, none⟩ (.int .i64 ((Y.getD k 0 ||| 2 ^ j : Nat) : Int))) g1 g2 X (Odr.more Y k j) := h.setY k _
theorem Two.below {W' : World} (h : Two B b w W g1 g2 X Y) (hb : Below W.heap.size W W') : Two B b w W' g1 g2 X Y := by
  have hz := h.sz
  refine ⟨h.ne, h.l1, h.l2, (hb.cell (p := ⟨B, 0, none⟩) (by simp; omega)).trans h.c0, ⟨(hb.cell (p := ⟨B + 1, 0, none⟩) (by simp; omega)).trans h.c1.1, (hb.frozen (p := ⟨B + 1, 0, none⟩) (by simp; omega)).trans h.c1.2⟩, ⟨(hb.cell (p := ⟨B + 1 + 1, 0, none⟩) (by simp; omega)).trans h.c2.1, (hb.frozen (p := ⟨B + 1 + 1, 0, none⟩) (by simp; omega)).trans h.c2.2⟩, h.o1.kept hb, h.o2.kept hb, Nat.le_trans hz hb.size, h.bw.trans (hb.mono (by omega)), h.lx, h.ly⟩
theorem Two.alloc (h : Two B b w W g1 g2 X Y) (o : Obj) : Two B b w (W.alloc o) g1 g2 X Y := h.below ((Below.refl _ _).alloc (Nat.le_refl _) o)
theorem Two.drew (h : Two B b w W g1 g2 X Y) : Two B b w W.drew g1 g2 X Y := h.below (Below.refl _ W).drew
theorem Two.drewN (h : Two B b w W g1 g2 X Y) (n : Nat) : Two B b w (W.drewN n) g1 g2 X Y := h.below (drn (Below.refl _ W) n)
/-- the boxes are written once more -/
theorem Two.again (h : Two B b w W g1 g2 X Y) : Two B b w ((W.setCell ⟨B + 1, 0, none⟩ (.slice (some ⟨g1, 0, none⟩) 5 5)).setCell ⟨B + 1 + 1, 0, none⟩ (.slice (some ⟨g2, 0, none⟩) 5 5)).drew g1 g2 X Y := by
  have l1 := h.l1
  have l2 := h.l2
  refine Two.drew ⟨h.ne, h.l1, h.l2, ?_, ⟨?_, ?_⟩, ⟨?_, ?_⟩, ?_, ?_, by simpa using h.sz, ?_, h.lx, h.ly⟩
  · exact (World.cell?_setCell_far _ _ _ _ (by show B + 1 + 1 ≠ B; omega)).trans ((World.cell?_setCell_far _ _ _ _ (by show B + 1 ≠ B; omega)).trans h.c0)
  · exact (World.cell?_setCell_far _ _ _ _ (by show B + 1 + 1 ≠ B + 1; omega)).trans (World.cell?_setCell_same _ _ _ h.c1.1)
  · simpa using h.c1.2
  · exact World.cell?_setCell_same _ _ _ ((World.cell?_setCell_far _ _ _ _ (by show B + 1 ≠ B + 1 + 1; omega)).trans h.c2.1)
  · simpa using h.c2.2
  · exact (h.o1.awayE _ _ (by show B + 1 ≠ g1; omega)).awayE _ _ (by show B + 1 + 1 ≠ g1; omega)
  · exact (h.o2.awayE _ _ (by show B + 1 ≠ g2; omega)).awayE _ _ (by show B + 1 + 1 ≠ g2; omega)
  · exact (h.bw.setCell (p := ⟨B + 1, 0, none⟩) (by show B ≤ B + 1; omega) _).setCell (p := ⟨B + 1 + 1, 0, none⟩) (by show B ≤ B + 1 + 1; omega) _
theorem ownFrom_two {β : Type} {C : Nat} (X Y : β → List Nat) (hC : B + 5 ≤ C) : OwnFrom C (fun (s : β) W => Two B b w W g1 g2 (X s) (Y s)) := by
  intro s W W' row h hg hr
  have ho := fun {v : Value} {l : List Int} (h : Own W B v l) => ownFrom_own (β := Unit) (B := C) (fun _ => B) (fun _ => v) (fun _ => l) () W W' row h hg hr
  have hc := fun {a : Addr} {v : Value} (h : W.cell? a = some v) => ownFrom_cell1 (β := Unit) (B := C) (fun _ => a) (fun _ => v) () W W' row h hg hr
  have hf := fun {a : Addr} {v : Value} (h : W.cell? a = some v ∧ W.frozen? a = false) => ownFrom_cell (β := Unit) (B := C) (fun _ => a) (fun _ => v) () W W' row h hg hr
  exact ⟨h.ne, h.l1, h.l2, hc h.c0, hf h.c1, hf h.c2, ho h.o1, ho h.o2, Nat.le_trans h.sz hg.size, h.bw.grown hg (by have := h.sz; omega) (fun k hk => by have := (hr k hk).1; omega), h.lx, h.ly⟩
theorem two_laid {W3 : World} (hs : W3.heap.size = B + 1 + 1 + 1) (hb : Below B w W3) (h0 : W3.cell? ⟨B, 0, none⟩ = some (.pointer (some ⟨b, 0, none⟩))) {x1 x2 : Value}
    (h1 : W3.cell? ⟨B + 1, 0, none⟩ = some x1) (f1 : W3.frozen? ⟨B + 1, 0, none⟩ = false) (h2 : W3.cell? ⟨B + 1 + 1, 0, none⟩ = some x2) (f2 : W3.frozen? ⟨B + 1 + 1, 0, none⟩ = false)
    (hg : (g1 = B + 1 + 1 + 1 ∧ g2 = B + 1 + 1 + 1 + 1) ∨ (g2 = B + 1 + 1 + 1 ∧ g1 = B + 1 + 1 + 1 + 1)) :
    Two B b w ((((W3.setCell ⟨B + 1, 0, none⟩ (.slice (some ⟨g1, 0, none⟩) 5 5)).setCell ⟨B + 1 + 1, 0, none⟩ (.slice (some ⟨g2, 0, none⟩) 5 5)).alloc z5).alloc z5).drew g1 g2 [0, 0, 0, 0, 0] [0, 0, 0, 0, 0] := by
  obtain ⟨W4, hW4⟩ : ∃ W4, (W3.setCell ⟨B + 1, 0, none⟩ (.slice (some ⟨g1, 0, none⟩) 5 5)).setCell ⟨B + 1 + 1, 0, none⟩ (.slice (some ⟨g2, 0, none⟩) 5 5) = W4 := ⟨_, rfl⟩
  have hs4 : W4.heap.size = B + 1 + 1 + 1 := by rw [← hW4]; simpa using hs
  have k0 : W4.cell? ⟨B, 0, none⟩ = some (.pointer (some ⟨b, 0, none⟩)) := by
    rw [← hW4]
    exact (World.cell?_setCell_far _ _ _ _ (by show B + 1 + 1 ≠ B; omega)).trans ((World.cell?_setCell_far _ _ _ _ (by show B + 1 ≠ B; omega)).trans h0)
  have k1 : W4.cell? ⟨B + 1, 0, none⟩ = some (.slice (some ⟨g1, 0, none⟩) 5 5) := by
    rw [← hW4]
    exact (World.cell?_setCell_far _ _ _ _ (by simp)).trans (World.cell?_setCell_same _ _ _ h1)
  have k2 : W4.cell? ⟨B + 1 + 1, 0, none⟩ = some (.slice (some ⟨g2, 0, none⟩) 5 5) := by
    rw [← hW4]
    exact World.cell?_setCell_same _ _ _ ((World.cell?_setCell_far _ _ _ _ (by simp)).trans h2)
  have e1 : W4.frozen? ⟨B + 1, 0, none⟩ = false := by rw [← hW4]; simpa using f1
  have e2 : W4.frozen? ⟨B + 1 + 1, 0, none⟩ = false := by rw [← hW4]; simpa using f2
  have hb4 : Below B w W4 := by rw [← hW4]; exact (hb.setCell (p := ⟨B + 1, 0, none⟩) (by show B ≤ B + 1; omega) _).setCell (p := ⟨B + 1 + 1, 0, none⟩) (by show B ≤ B + 1 + 1; omega) _
  rw [hW4]
  clear hW4
  have hbb : Below W4.heap.size W4 ((W4.alloc z5).alloc z5).drew := (((Below.refl _ _).alloc (Nat.le_refl _) _).alloc (by simp) _).drew
  have p1 := own_made5 W4 B (B + 1 + 1 + 1) hs4.symm (by omega)
  have p2 := own_made5 (W4.alloc z5) B (B + 1 + 1 + 1 + 1) (by simpa using hs4.symm) (by omega)
  have q1 : Own ((W4.alloc z5).alloc z5).drew B (.slice (some ⟨B + 1 + 1 + 1, 0, none⟩) 5 5) (zs [0, 0, 0, 0, 0]) := (p1.alloc _).drew
  have q2 : Own ((W4.alloc z5).alloc z5).drew B (.slice (some ⟨B + 1 + 1 + 1 + 1, 0, none⟩) 5 5) (zs [0, 0, 0, 0, 0]) := p2.drew
  refine ⟨by omega, by omega, by omega, (hbb.cell (p := ⟨B, 0, none⟩) (by simp; omega)).trans k0, ⟨(hbb.cell (p := ⟨B + 1, 0, none⟩) (by simp; omega)).trans k1, (hbb.frozen (p := ⟨B + 1, 0, none⟩) (by simp; omega)).trans e1⟩, ⟨(hbb.cell (p := ⟨B + 1 + 1, 0, none⟩) (by simp; omega)).trans k2, (hbb.frozen (p := ⟨B + 1 + 1, 0, none⟩) (by simp; omega)).trans e2⟩, ?_, ?_, ?_, hb4.trans (hbb.mono (by omega)), rfl, rfl⟩
  · rcases hg with ⟨rfl, rfl⟩ | ⟨rfl, rfl⟩
    · exact q1
    · exact q2
  · rcases hg with ⟨rfl, rfl⟩ | ⟨rfl, rfl⟩
    · exact q2
    · exact q1
  · show B + 5 ≤ ((W4.heap.push _).push _).size
    simp; omega
end
set_option maxRecDepth 20000 in
/-- the array of the items' versions, and one of them -/
theorem run_veridx (vs : Nat → Value) (m : Nat) (hm : m < 4) (w : World) : (Instr.index 102 (.agg #[vs 0, vs 1, vs 2, vs 3]) (nv m)).run Tryd.prog w = .ok (vs m) w := by
  have : m = 0 ∨ m = 1 ∨ m = 2 ∨ m = 3 := by omega
  rcases this with rfl | rfl | rfl | rfl <;> rfl
theorem mem_com {v : Vw.V} : bitsOf (Vw.com v) = Vw.committed v := by
  unfold bitsOf Vw.committed
  rw [show List.range 12 = List.range 5 ++ [5, 6, 7, 8, 9, 10, 11] from rfl, List.filter_append, show List.filter (Vw.com v).testBit [5, 6, 7, 8, 9, 10, 11] = [] from ?_, List.append_nil]
  · refine List.filter_congr fun x hx => ?_
    unfold Vw.com
    rw [Vw.testBit_comTo, decide_eq_true (List.mem_range.1 hx), Bool.true_and]
  · refine List.filter_eq_nil_iff.2 fun x hx => ?_
    unfold Vw.com
    rw [Vw.testBit_comTo, decide_eq_false (by simp at hx; omega)]
    simp
end Go.Proofs.YtkindaadadggoaaDoor
