/- Appends to slices that the call itself made, and where the new slice lies. Conditions: each rule's own premises. -/
import Derived.Test.YtkindaadadggoaaDoorActMem
import Derived.Test.YtkindaadadggoaaDoorObj
namespace Go.Proofs.YtkindaadadggoaaDoor
open Go.RowKit
section
variable {ops : Array Oper} {rest : List Oper} {o : Oper} {a : Go.Act} {Q : Exit → Go.Act → World → Prop} {w : World}
/-- 'append(out, y)' -/
theorem append_int_at (hgd : o.guard = none) (s x : Operand) (ho : o.op = .call { callee := .builtin .append, args := #[s, x], argTypes := #[26, 26] })
    (base : Nat) (v : Value) (l : List Int) (hs : a.eval s = v) (hown : Own w base v l) (g : Nat) (hx : a.eval x = .slice (some ⟨g, 0, none⟩) 1 1) (y : Int) (hc : w.cell? ⟨g, 0, none⟩ = some (iv y))
    (hlen : l.length < 1000000) (hbase : base ≤ w.heap.size)
    (h : ∀ v' w', Own w' base v' (l ++ [y]) → w.grownBy w' v.ownBlock → (v'.ownBlock = v.ownBlock ∨ v'.ownBlock = some w.heap.size) → wpList Tryd.prog ops Q rest (a.put o.dst v') w') : wpList Tryd.prog ops Q (o :: rest) a w := by
  obtain ⟨i0, hi, hz0, hz1, hz2⟩ := info_parts Tryd.infoInt
  refine wpList_append_own_at w hgd s x 26 ho base 3 i0 (.int .i64 0) 1 8 Tryd.underlying26 hi hz0 hz1 hz2 rfl (by decide) v l.length (l.map iv) hs hown ⟨g, 0, none⟩ 1 1 [iv y] hx rfl ?_ ?_ ?_ ?_ hbase ?_
  · intro j u hj
    match j, hj with
    | 0, hj => simp at hj; subst hj; exact hc
  · intro u hu; simp at hu; subst hu; rfl
  · unfold maxLen; omega
  · omega
  · intro v' w' hrow hg _ hat
    exact h v' w' (Own.of_row hrow) hg hat
/-- 'append(out, a)' -/
theorem append_act_at (hgd : o.guard = none) (x y : Operand) (ho : o.op = .call { callee := .builtin .append, args := #[x, y], argTypes := #[22, 22] })
    (base : Nat) (v : Value) (l : List Act3) (hs : a.eval x = v) (hown : OwnA w base v l) (b : Nat) (hx : a.eval y = .slice (some ⟨b, 0, none⟩) 1 1) (c : Act3)
    (hc : ∀ j u, (acells [c])[j]? = some u → w.cell? ⟨b, j, none⟩ = some u) (hlen : l.length ≤ 100000) (hbase : base ≤ w.heap.size)
    (h : ∀ v' w', OwnA w' base v' (l ++ [c]) → w.grownBy w' v.ownBlock → (v'.ownBlock = v.ownBlock ∨ v'.ownBlock = some w.heap.size) → wpList Tryd.prog ops Q rest (a.put o.dst v') w') : wpList Tryd.prog ops Q (o :: rest) a w := by
  obtain ⟨i0, hi, hz0, hz1, hz2⟩ := info_parts Tryd.infoAct
  refine wpList_append_own_at w hgd x y 22 ho base 28 i0 (.agg #[.int .i64 0, .int .i64 0, .int .i64 0]) 3 24 Tryd.underlying22 hi hz0 hz1 hz2 rfl (by decide) v l.length (acells l) hs hown ⟨b, 0, none⟩ 1 1 (acells [c]) hx rfl ?_ ?_ ?_ ?_ hbase ?_
  · intro j u hj
    rw [← hc j u hj, Go.WideShapes.add_plain, Nat.zero_add]
  · intro u hu
    simp [acells] at hu
    rcases hu with rfl | rfl | rfl <;> rfl
  · unfold maxLen; omega
  · omega
  · intro v' w' hrow hg _ hat
    refine h v' w' ?_ hg hat
    unfold OwnA
    rw [List.length_append, show acells (l ++ [c]) = acells l ++ acells [c] from List.flatMap_append]
    exact hrow
end
theorem new_act (w : World) (c : Act3) (t : TypeId) : ∀ j u, (acells [c])[j]? = some u → (w.alloc (.cells #[iv c.1, iv c.2.1, iv c.2.2] t)).cell? ⟨w.heap.size, j, none⟩ = some u := by
  intro j u hj
  rw [World.cell?_alloc_new]
  simpa [acells] using hj
theorem OwnA.only {w w' : World} {S : Nat → Prop} {base : Nat} {v : Value} {l : List Act3} (h : OwnA w base v l) (g : Only S w w') (hoff : Off S v) : OwnA w' base v l := row_only h g hoff
end Go.Proofs.YtkindaadadggoaaDoor
