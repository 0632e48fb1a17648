/- Slices of acts that the call itself made: what an append, a store do to them. Conditions: each rule's own premises. -/
import Derived.Test.YtkindaadadggoaaDoorEdges
namespace Go.Proofs.YtkindaadadggoaaDoor
open Go.RowKit

/-- a slice of acts that the call itself made -/
def OwnA (w : World) (base : Nat) (v : Value) (s : List Act3) : Prop := w.ownsRow base 28 3 v s.length (acells s)

theorem Tryd.infoAct : (Tryd.prog.info? 28).map (fun i => (i.zero, i.size, i.bytes)) = some (some (.agg #[.int .i64 0, .int .i64 0, .int .i64 0]), 3, 24) := by kernel_rfl

theorem OwnA.acts {w : World} {base : Nat} {v : Value} {s : List Act3} (h : OwnA w base v s) : Acts w w.heap.size v s := Rd.of_own h
theorem OwnA.nil (w : World) (base : Nat) : OwnA w base (.slice none 0 0) [] := World.ownsRow_nil _ _ _ _
theorem OwnA.kept {w w' : World} {base : Nat} {v : Value} {s : List Act3} (h : OwnA w base v s) (hb : Below w.heap.size w w') : OwnA w' base v s :=
  World.ownsRow.kept (row := none) h ⟨hb.os, hb.tape, hb.output, hb.size, fun k hk _ => hb.block k hk⟩ (by cases hv : v.ownBlock <;> simp)
theorem OwnA.alloc {w : World} {base : Nat} {v : Value} {s : List Act3} (h : OwnA w base v s) (o : Obj) : OwnA (w.alloc o) base v s := World.ownsRow.alloc h o
theorem OwnA.blockLe {w : World} {base : Nat} {v : Value} {s : List Act3} (h : OwnA w base v s) : ∀ k, v.ownBlock = some k → base ≤ k := fun k hk => (h.lt k hk).1

theorem acells_set (s : List Act3) (i : Nat) (a : Act3) (hi : i < s.length) : (((acells s).set (i * 3) (iv a.1)).set (i * 3 + 1) (iv a.2.1)).set (i * 3 + 2) (iv a.2.2) = acells (s.set i a) := by
  induction s generalizing i with
  | nil => simp at hi
  | cons b s ih =>
    have e : ∀ (c : Act3) (l : List Act3), acells (c :: l) = iv c.1 :: iv c.2.1 :: iv c.2.2 :: acells l := fun _ _ => rfl
    cases i with
    | zero => simp [e]
    | succ i =>
      have := ih i (by simpa using hi)
      rw [List.set_cons_succ, e, e, ← this]
      have e1 : (i + 1) * 3 = i * 3 + 3 := by omega
      rw [e1]
      rfl

theorem OwnA.lit {w : World} {base g n cap : Nat} {s : List Act3} (h : OwnA w base (.slice (some ⟨g, 0, none⟩) n cap) s) :
    base ≤ g ∧ g < w.heap.size ∧ n = s.length ∧ (∀ i (hi : i < s.length), w.cell? ⟨g, i * 3, none⟩ = some (iv s[i].1) ∧ w.cell? ⟨g, i * 3 + 1, none⟩ = some (iv s[i].2.1) ∧ w.cell? ⟨g, i * 3 + 2, none⟩ = some (iv s[i].2.2)) ∧
      (∀ i, w.frozen? ⟨g, i, none⟩ = false) ∧
      (∀ i (a : Act3), i < s.length → OwnA (((w.setCell ⟨g, i * 3, none⟩ (iv a.1)).setCell ⟨g, i * 3 + 1, none⟩ (iv a.2.1)).setCell ⟨g, i * 3 + 2, none⟩ (iv a.2.2)) base (.slice (some ⟨g, 0, none⟩) n cap) (s.set i a)) := by
  have hn : n = s.length := by
    rcases h.2 with ⟨h2, _⟩ | ⟨g', cap', cur, h2, _⟩
    · cases h2
    · injection h2
  subst hn
  have hlt := h.lt g rfl
  have hlen := length_acells s
  refine ⟨hlt.1, hlt.2, rfl, fun i hi => ?_, fun i => h.frozenAt i, fun i a hi => ?_⟩
  · obtain ⟨c0, c1, c2⟩ := acells_at s i hi
    exact ⟨(h.cellAt _ (by omega)).trans c0, (h.cellAt _ (by omega)).trans c1, (h.cellAt _ (by omega)).trans c2⟩
  · have h1 := (h.stored (i * 3) (iv a.1)).1
    have h2 := (h1.stored (i * 3 + 1) (iv a.2.1)).1
    have h3 := (h2.stored (i * 3 + 2) (iv a.2.2)).1
    rw [acells_set s i a hi] at h3
    unfold OwnA
    rw [List.length_set]
    exact h3

section
variable {ops : Array Oper} {rest : List Oper} {o : Oper} {a : Act} {Q : Exit → Act → World → Prop} {w : World}

/-- 'append(out, s...)' -/
theorem append_acts (hgd : o.guard = none) (x y : Operand) (ho : o.op = .call { callee := .builtin .append, args := #[x, y], argTypes := #[22, 22] })
    (base : Nat) (v : Value) (l s : List Act3) (hs : a.eval x = v) (hown : OwnA w base v l) (B b off cap : Nat) (hx : a.eval y = .slice (some ⟨b, off, none⟩) s.length cap)
    (hr : Acts w B (.slice (some ⟨b, off, none⟩) s.length cap) s) (hne : 0 < s.length) (hlen : l.length + s.length ≤ 1000000) (hbase : base ≤ w.heap.size)
    (h : ∀ g c w', OwnA w' base (.slice (some ⟨g, 0, none⟩) (l.length + s.length) c) (l ++ s) → Below base w w' → w.grownBy w' v.ownBlock → wpList Tryd.prog ops Q rest (a.put o.dst (.slice (some ⟨g, 0, none⟩) (l.length + s.length) c)) w') : wpList Tryd.prog ops Q (o :: rest) a w := by
  obtain ⟨i0, hi, hz0, hz1, hz2⟩ := info_parts Tryd.infoAct
  obtain ⟨b', off', cap', he, _, _, _, hc⟩ := Rd.shape hr hne
  cases he
  refine wpList_append_own w hgd x y 22 ho base 28 i0 (.agg #[.int .i64 0, .int .i64 0, .int .i64 0]) 3 24 Tryd.underlying22 hi hz0 hz1 hz2 rfl (by decide) v l.length (acells l) hs hown ⟨b, off, none⟩ s.length cap (acells s) hx (length_acells s) ?_ ?_ ?_ ?_ hbase ?_
  · intro j u hj
    rw [← hc j u hj, Go.WideShapes.add_plain]
  · intro u hu
    obtain ⟨c, _, hu⟩ := List.mem_flatMap.1 hu
    simp at hu
    rcases hu with rfl | rfl | rfl <;> rfl
  · unfold maxLen; omega
  · omega
  · intro v' w' hrow hg _
    have hrow' : OwnA w' base v' (l ++ s) := by
      unfold OwnA
      rw [List.length_append, show acells (l ++ s) = acells l ++ acells s from List.flatMap_append]
      exact hrow
    rcases hrow'.2 with ⟨_, h0⟩ | ⟨g, c, cur, rfl, _⟩
    · rw [List.length_append] at h0; omega
    · rw [List.length_append] at hrow' ⊢
      exact h g c w' hrow' ((Below.refl base w).grown hg hbase (OwnA.blockLe hown)) hg

/-- 'append(out, a)' -/
theorem append_act (hgd : o.guard = none) (x y : Operand) (ho : o.op = .call { callee := .builtin .append, args := #[x, y], argTypes := #[22, 22] })
    (base : Nat) (v : Value) (l : List Act3) (hs : a.eval x = v) (hown : OwnA w base v l) (b : Nat) (hx : a.eval y = .slice (some ⟨b, 0, none⟩) 1 1) (c : Act3)
    (h0 : w.cell? ⟨b, 0, none⟩ = some (iv c.1)) (h1 : w.cell? ⟨b, 1, none⟩ = some (iv c.2.1)) (h2 : w.cell? ⟨b, 2, none⟩ = some (iv c.2.2)) (hlen : l.length ≤ 100000) (hbase : base ≤ w.heap.size)
    (h : ∀ g c' w', OwnA w' base (.slice (some ⟨g, 0, none⟩) (l.length + 1) c') (l ++ [c]) → Below base w w' → w.grownBy w' v.ownBlock → wpList Tryd.prog ops Q rest (a.put o.dst (.slice (some ⟨g, 0, none⟩) (l.length + 1) c')) w') : wpList Tryd.prog ops Q (o :: rest) a w := by
  refine append_acts hgd x y ho base v l [c] hs hown w.heap.size b 0 1 hx ⟨rfl, some ⟨b, 0, none⟩, 1, rfl, by simp, by decide, fun _ => ⟨b, 0, rfl, World.block_lt_of_cell? w _ h0, fun j u hj => ?_⟩⟩ (by simp) (by simp; omega) hbase (by simpa using h)
  match j, hj with
  | 0, hj => simp [acells] at hj; subst hj; simpa using h0
  | 1, hj => simp [acells] at hj; subst hj; simpa using h1
  | 2, hj => simp [acells] at hj; subst hj; simpa using h2
  | j + 3, hj => simp [acells] at hj
end

end Go.Proofs.YtkindaadadggoaaDoor
