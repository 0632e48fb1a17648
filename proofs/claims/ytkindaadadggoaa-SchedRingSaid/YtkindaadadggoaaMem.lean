/- The append of one int onto a slice of ints that the call itself owns, and the making of one, as rules of the walk. Conditions: each rule's own premises. -/
import Derived.Test.YtkindaadadggoaaBase
import Derived.Test.YtkindaadadggoaaProg
namespace Go.Proofs.Ytkindaadadggoaa
open Go.RowKit

theorem Try.infoInt : (Try.prog.info? 3).map (fun i => (i.zero, i.size, i.bytes)) = some (some (.int .i64 0), 1, 8) := by kernel_rfl

section
variable {ops : Array Oper} {rest : List Oper} {o : Oper} {a : Act} {Q : Exit → Act → World → Prop} {w : World}

theorem Own.of_row {w' : World} {base : Nat} {v' : Value} {l : List Int} {y : Int} (h : w'.ownsRow base 3 1 v' (l.length + 1) (l.map iv ++ [iv y])) : Own w' base v' (l ++ [y]) := by
  unfold Own
  rw [List.length_append, List.map_append]
  exact h

theorem Own.blockLe {base : Nat} {v : Value} {l : List Int} (h : Own w base v l) : ∀ k, v.ownBlock = some k → base ≤ k := fun k hk => (h.lt k hk).1

/-- 'append(out, y)' -/
theorem append_int (hgd : o.guard = none) (s x : Operand) (ho : o.op = .call { callee := .builtin .append, args := #[s, x], argTypes := #[24, 24] })
    (base : Nat) (v : Value) (l : List Int) (hs : a.eval s = v) (hown : Own w base v l) (g : Nat) (hx : a.eval x = .slice (some ⟨g, 0, none⟩) 1 1) (y : Int) (hc : w.cell? ⟨g, 0, none⟩ = some (iv y))
    (hlen : l.length < 1000000) (hbase : base ≤ w.heap.size)
    (h : ∀ v' w', Own w' base v' (l ++ [y]) → Below base w w' → w.grownBy w' v.ownBlock → wpList Try.prog ops Q rest (a.put o.dst v') w') : wpList Try.prog ops Q (o :: rest) a w := by
  obtain ⟨i0, hi, hz0, hz1, hz2⟩ := info_parts Try.infoInt
  refine wpList_append_own w hgd s x 24 ho base 3 i0 (.int .i64 0) 1 8 Try.underlying24 hi hz0 hz1 hz2 rfl (by decide) v l.length (l.map iv) hs hown ⟨g, 0, none⟩ 1 1 [iv y] hx rfl ?_ ?_ ?_ ?_ hbase ?_
  · intro j u hj
    match j, hj with
    | 0, hj => simp at hj; subst hj; exact hc
  · intro u hu; simp at hu; subst hu; rfl
  · unfold maxLen; omega
  · omega
  · intro v' w' hrow hg _
    exact h v' w' (Own.of_row hrow) ((Below.refl base w).grown hg hbase (Own.blockLe hown)) hg

/-- 'make([]int, n)' -/
theorem make_ints (hgd : o.guard = none) (l c : Operand) (hop : o.op = Op.makeSlice 24 l c) (base n : Nat) (hl : a.eval l = nv n) (hc : a.eval c = nv n) (hn : n ≤ 1000000) (hbase : base ≤ w.heap.size)
    (h : ∀ w', Own w' base (.slice (some ⟨w.heap.size, 0, none⟩) n n) (List.replicate n 0) → Below w.heap.size w w' → wpList Try.prog ops Q rest (a.put o.dst (.slice (some ⟨w.heap.size, 0, none⟩) n n)) w') :
    wpList Try.prog ops Q (o :: rest) a w := by
  obtain ⟨i0, hi, hz0, hz1, hz2⟩ := info_parts Try.infoInt
  refine wpList_make_full w hgd l c 24 hop base 3 i0 (.int .i64 0) 1 Try.underlying24 hi hz0 hz1 .i64 .i64 (n : Int) (n : Int) n hl hc rfl rfl (by rw [hz2]; omega) (by unfold maxLen; omega) hbase ?_
  intro w' hrow hg
  refine h w' ?_ ((Below.refl w.heap.size w).grown hg (Nat.le_refl _) (fun _ h => by cases h))
  unfold Own
  have e := toList_madeCells_one (.int .i64 0) n
  simp only [Value.cells, Nat.mul_one] at hrow
  rw [e] at hrow
  simpa using hrow
end

end Go.Proofs.Ytkindaadadggoaa
