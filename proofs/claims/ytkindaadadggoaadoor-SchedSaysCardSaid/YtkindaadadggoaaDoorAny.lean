/- An append of acts whatever the source; errors as values. Conditions: each rule's own premises. -/
import Derived.Test.YtkindaadadggoaaDoorActMem
namespace Go.Proofs.YtkindaadadggoaaDoor
open Go.RowKit

section
variable {ops : Array Oper} {rest : List Oper} {o : Oper} {a : Act} {Q : Exit → Act → World → Prop} {w : World}
theorem run_append_of_nil {P : Program} (w : World) (base : Nat) (t ty e : TypeId) (i : TypeInfo) (size : Nat) (ht : P.underlying t = some (.slice e)) (hi : P.info? e = some i)
    (v : Value) (n : Nat) (xs : List Value) (hown : w.ownsRow base e size v n xs) (c : Nat) : (Builtin.append_ #[t, t] ty #[v, .slice none 0 c]).run P w = .ok v w := by
  rcases hown.2 with ⟨rfl, rfl⟩ | ⟨g, cap, cur, rfl, _, _, hnc, _⟩
  · simp [Builtin.append_, run_underlying ht, sizeOf, typeInfo, hi, Builtin.lenOf, Builtin.firstCells]
  · simp [Builtin.append_, run_underlying ht, sizeOf, typeInfo, hi, Builtin.lenOf, Builtin.firstCells, hnc, storeCells]
/-- 'append(out, s...)', s empty or not -/
theorem append_acts_any (hgd : o.guard = none) (x y : Operand) (ho : o.op = .call { callee := .builtin .append, args := #[x, y], argTypes := #[22, 22] })
    (base : Nat) (v : Value) (l s : List Act3) (hs : a.eval x = v) (hown : OwnA w base v l) (B : Nat) (A : Option Addr) (cap : Nat) (hx : a.eval y = .slice A s.length cap)
    (hr : Acts w B (.slice A s.length cap) s) (hlen : l.length + s.length ≤ 1000000) (hbase : base ≤ w.heap.size)
    (h : ∀ v' w', OwnA w' base v' (l ++ s) → Below base w w' → wpList Tryd.prog ops Q rest (a.put o.dst v') w') : wpList Tryd.prog ops Q (o :: rest) a w := by
  by_cases hne : 0 < s.length
  · obtain ⟨b, off, cap', he, _, _, _, _⟩ := Rd.shape hr hne
    cases he
    exact append_acts hgd x y ho base v l s hs hown B b off cap hx hr hne hlen hbase fun g c w' h1 h2 _ => h _ w' h1 h2
  · have e : s = [] := List.length_eq_zero_iff.1 (by omega)
    subst e
    rw [List.append_nil] at h
    obtain ⟨i0, hi, hz0, hz1, hz2⟩ := info_parts Tryd.infoAct
    cases A with
    | none =>
      refine wpList_plain hgd fun K hK => ?_
      have hrun := run_append_of_nil (P := Tryd.prog) w base 22 o.type 28 i0 3 Tryd.underlying22 hi v l.length (acells l) hown cap
      unfold Oper.wp execOp
      have hx' : a.eval y = .slice none 0 cap := hx
      simp only [ho, resolve, invoke, builtin, Sem.run_bind, Sem.run_pure, Result.andThen_ok, List.map_toArray, List.map_cons, List.map_nil, hs, hx', hrun]
      exact hK _ _ (h v w hown (Below.refl _ _))
    | some ad =>
      refine wpList_append_own w hgd x y 22 ho base 28 i0 (.agg #[.int .i64 0, .int .i64 0, .int .i64 0]) 3 24 Tryd.underlying22 hi hz0 hz1 hz2 rfl (by decide) v l.length (acells l) hs hown ad 0 cap [] hx rfl ?_ ?_ ?_ ?_ hbase ?_
      · intro j u hj; simp at hj
      · intro u hu; simp at hu
      · unfold maxLen; simp at hlen; omega
      · simp at hlen; omega
      · intro v' w' hrow hg _
        refine h v' w' ?_ ((Below.refl base w).grown hg hbase (OwnA.blockLe hown))
        rw [List.append_nil] at hrow
        exact hrow
end
def errv (n : Nat) : Value := if n = 0 then .nilIface else .iface 93 (nv n)
end Go.Proofs.YtkindaadadggoaaDoor
