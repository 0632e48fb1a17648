/- The append of one int onto a slice of ints that the call itself owns, and the making of one, as rules of the walk. Conditions: each rule's own premises. -/
import Derived.Test.YtpicjikjinkkpaaDoorBase
import Derived.Test.YtpicjikjinkkpaaDoorProg
namespace Go.Proofs.YtpicjikjinkkpaaDoor
open Go.RowKit

theorem Tryd.infoInt : (Tryd.prog.info? 3).map (fun i => (i.zero, i.size, i.bytes)) = some (some (.int .i64 0), 1, 8) := by kernel_rfl

section
variable {ops : Array Oper} {rest : List Oper} {o : Oper} {a : Act} {Q : Exit → Act → World → Prop} {w : World}

theorem Own.of_row {w' : World} {base : Nat} {v' : Value} {l : List Int} {y : Int} (h : w'.ownsRow base 3 1 v' (l.length + 1) (l.map iv ++ [iv y])) : Own w' base v' (l ++ [y]) := by
  unfold Own
  rw [List.length_append, List.map_append]
  exact h

theorem Own.blockLe {base : Nat} {v : Value} {l : List Int} (h : Own w base v l) : ∀ k, v.ownBlock = some k → base ≤ k := fun k hk => (h.lt k hk).1

/-- 'append(out, y)' -/
theorem append_int (hgd : o.guard = none) (s x : Operand) (ho : o.op = .call { callee := .builtin .append, args := #[s, x], argTypes := #[22, 22] })
    (base : Nat) (v : Value) (l : List Int) (hs : a.eval s = v) (hown : Own w base v l) (g : Nat) (hx : a.eval x = .slice (some ⟨g, 0, none⟩) 1 1) (y : Int) (hc : w.cell? ⟨g, 0, none⟩ = some (iv y))
    (hlen : l.length < 1000000) (hbase : base ≤ w.heap.size)
    (h : ∀ v' w', Own w' base v' (l ++ [y]) → Below base w w' → w.grownBy w' v.ownBlock → wpList Tryd.prog ops Q rest (a.put o.dst v') w') : wpList Tryd.prog ops Q (o :: rest) a w := by
  obtain ⟨i0, hi, hz0, hz1, hz2⟩ := info_parts Tryd.infoInt
  refine wpList_append_own w hgd s x 22 ho base 3 i0 (.int .i64 0) 1 8 Tryd.underlying22 hi hz0 hz1 hz2 rfl (by decide) v l.length (l.map iv) hs hown ⟨g, 0, none⟩ 1 1 [iv y] hx rfl ?_ ?_ ?_ ?_ hbase ?_
  · intro j u hj
    match j, hj with
    | 0, hj => simp at hj; subst hj; exact hc
  · intro u hu; simp at hu; subst hu; rfl
  · unfold maxLen; omega
  · omega
  · intro v' w' hrow hg _
    exact h v' w' (Own.of_row hrow) ((Below.refl base w).grown hg hbase (Own.blockLe hown)) hg

/-- an append of nothing (a nil source, whatever capacity it tells) changes nothing -/
theorem run_append_nothing {P : Program} (w : World) (base : Nat) (t ty e : TypeId) (i : TypeInfo) (size : Nat) (ht : P.underlying t = some (.slice e)) (hi : P.info? e = some i)
    (v : Value) (n : Nat) (xs : List Value) (hown : w.ownsRow base e size v n xs) (c : Nat) : (Builtin.append_ #[t, t] ty #[v, .slice none 0 c]).run P w = .ok v w := by
  rcases hown.2 with ⟨rfl, rfl⟩ | ⟨g, cap, cur, rfl, _, _, hn, _⟩
  · simp [Builtin.append_, run_underlying ht, sizeOf, typeInfo, hi, Builtin.lenOf, Builtin.firstCells]
  · simp [Builtin.append_, run_underlying ht, sizeOf, typeInfo, hi, Builtin.lenOf, Builtin.firstCells, hn, storeCells]

/-- 'append(out, xs...)', xs whatever slice of ints -/
theorem append_ints (hgd : o.guard = none) (s x : Operand) (ho : o.op = .call { callee := .builtin .append, args := #[s, x], argTypes := #[22, 22] })
    (base : Nat) (v : Value) (l : List Int) (hs : a.eval s = v) (hown : Own w base v l) (u : Value) (m : List Int) (B : Nat) (hx : a.eval x = u) (hu : Ints w B u m)
    (hlen : l.length + m.length ≤ 1000000) (hbase : base ≤ w.heap.size)
    (h : ∀ v' w', Own w' base v' (l ++ m) → Below base w w' → w.grownBy w' v.ownBlock → wpList Tryd.prog ops Q rest (a.put o.dst v') w') : wpList Tryd.prog ops Q (o :: rest) a w := by
  obtain ⟨i0, hi, hz0, hz1, hz2⟩ := info_parts Tryd.infoInt
  obtain ⟨h1, A, cap, rfl, h3, h4, h5⟩ := hu
  rcases A with _ | ⟨b, off, spot⟩
  · have hm : m = [] := by
      rcases m with _ | ⟨y, m⟩
      · rfl
      · obtain ⟨b, off, e, _⟩ := h5 (by simp)
        cases e
    subst hm
    refine wpList_plain hgd fun K hK => ?_
    have hrun := run_append_nothing (P := Tryd.prog) w base 22 o.type 3 i0 1 Tryd.underlying22 hi v l.length (l.map iv) hown cap
    unfold Oper.wp
    simp only [List.length_nil] at hx
    simp [execOp, ho, resolve, invoke, builtin, hs, hx, hrun, Result.andThen]
    exact hK _ _ (h v w (by simpa using hown) (Below.refl _ _) ⟨rfl, rfl, rfl, Nat.le_refl _, fun _ _ _ => rfl⟩)
  · refine wpList_append_own w hgd s x 22 ho base 3 i0 (.int .i64 0) 1 8 Tryd.underlying22 hi hz0 hz1 hz2 rfl (by decide) v l.length (l.map iv) hs hown ⟨b, off, spot⟩ m.length cap (m.map iv) hx (by simp) ?_ ?_ ?_ ?_ hbase ?_
    · intro j u hj
      have hjl : j < m.length := by have := (List.getElem?_eq_some_iff.1 hj).1; simpa using this
      obtain ⟨b', off', e, _, hc⟩ := h5 (by omega)
      cases e
      rw [← hc j u hj, Go.WideShapes.add_plain]
    · intro u hu; obtain ⟨z, _, rfl⟩ := List.mem_map.1 hu; rfl
    · unfold maxLen; omega
    · omega
    · intro v' w' hrow hg _
      refine h v' w' ?_ ((Below.refl base w).grown hg hbase (Own.blockLe hown)) hg
      unfold Own
      rw [List.length_append, List.map_append]
      exact hrow

/-- 'make([]int, n)' -/
theorem make_ints (hgd : o.guard = none) (l c : Operand) (hop : o.op = Op.makeSlice 22 l c) (base n : Nat) (hl : a.eval l = nv n) (hc : a.eval c = nv n) (hn : n ≤ 1000000) (hbase : base ≤ w.heap.size)
    (h : ∀ w', Own w' base (.slice (some ⟨w.heap.size, 0, none⟩) n n) (List.replicate n 0) → Below w.heap.size w w' → wpList Tryd.prog ops Q rest (a.put o.dst (.slice (some ⟨w.heap.size, 0, none⟩) n n)) w') :
    wpList Tryd.prog ops Q (o :: rest) a w := by
  obtain ⟨i0, hi, hz0, hz1, hz2⟩ := info_parts Tryd.infoInt
  refine wpList_make_full w hgd l c 22 hop base 3 i0 (.int .i64 0) 1 Tryd.underlying22 hi hz0 hz1 .i64 .i64 (n : Int) (n : Int) n hl hc rfl rfl (by rw [hz2]; omega) (by unfold maxLen; omega) hbase ?_
  intro w' hrow hg
  refine h w' ?_ ((Below.refl w.heap.size w).grown hg (Nat.le_refl _) (fun _ h => by cases h))
  unfold Own
  have e := toList_madeCells_one (.int .i64 0) n
  simp only [Value.cells, Nat.mul_one] at hrow
  rw [e] at hrow
  simpa using hrow
end

end Go.Proofs.YtpicjikjinkkpaaDoor
