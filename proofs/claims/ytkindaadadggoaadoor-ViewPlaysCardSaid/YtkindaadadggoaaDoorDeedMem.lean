/- Slices of deeds of one's own, and the append of deeds onto them. Conditions: each rule's own premises. -/
import Derived.Test.YtkindaadadggoaaDoorVDeeds
import Derived.Test.YtkindaadadggoaaDoorMem
namespace Go.Proofs.YtkindaadadggoaaDoor
open Go.RowKit

theorem Tryd.infoDeed : (Tryd.prog.info? 49).map (fun i => (i.zero, i.size, i.bytes)) = some (some (.agg #[.int .i64 0, .int .i64 0, .int .i64 0, .int .i64 0]), 4, 32) := by kernel_rfl
/-- a slice of deeds that lies in a block of its own -/
def OwnD (w : World) (base : Nat) (v : Value) (l : List Deed4V) : Prop := w.ownsRow base 49 4 v l.length (vdcells l)
theorem length_vdcells (l : List Deed4V) : (vdcells l).length = l.length * 4 := by
  induction l with
  | nil => rfl
  | cons d l ih =>
    show (iv d.1 :: iv d.2.1 :: iv d.2.2.1 :: iv d.2.2.2 :: vdcells l).length = _
    simp [ih]
    omega
theorem OwnD.deeds {w : World} {base : Nat} {v : Value} {l : List Deed4V} (h : OwnD w base v l) : VDeeds w w.heap.size v l := Rd.of_own h
theorem OwnD.nil (w : World) (base : Nat) : OwnD w base (.slice none 0 0) [] := World.ownsRow_nil _ _ _ _
theorem OwnD.blockLe {w : World} {base : Nat} {v : Value} {l : List Deed4V} (h : OwnD w base v l) : ∀ k, v.ownBlock = some k → base ≤ k := by
  intro k hk
  rcases h.2 with ⟨hv, _⟩ | ⟨g, c, cur, hv, hg, _⟩
  · rw [hv] at hk; cases hk
  · rw [hv] at hk
    injection hk with hk
    exact hk ▸ hg
section
variable {ops : Array Oper} {rest : List Oper} {o : Oper} {a : Act} {Q : Exit → Act → World → Prop} {w : World}
/-- 'append(out, s...)', s whatever slice of deeds -/
theorem append_deeds (hgd : o.guard = none) (x y : Operand) (ho : o.op = .call { callee := .builtin .append, args := #[x, y], argTypes := #[43, 43] })
    (base : Nat) (v : Value) (l s : List Deed4V) (hs : a.eval x = v) (hown : OwnD w base v l) (B : Nat) (u : Value) (hx : a.eval y = u)
    (hr : VDeeds w B u s) (hlen : l.length + s.length ≤ 1000000) (hbase : base ≤ w.heap.size)
    (h : ∀ v' w', OwnD w' base v' (l ++ s) → Below base w w' → wpList Tryd.prog ops Q rest (a.put o.dst v') w') : wpList Tryd.prog ops Q (o :: rest) a w := by
  obtain ⟨i0, hi, hz0, hz1, hz2⟩ := info_parts Tryd.infoDeed
  by_cases hne : 0 < s.length
  · obtain ⟨b, off, cap, rfl, _, _, _, hc⟩ := Rd.shape hr hne
    refine wpList_append_own w hgd x y 43 ho base 49 i0 (.agg #[.int .i64 0, .int .i64 0, .int .i64 0, .int .i64 0]) 4 32 Tryd.underlying43 hi hz0 hz1 hz2 rfl (by decide) v l.length (vdcells l) hs hown ⟨b, off, none⟩ s.length cap (vdcells s) hx (length_vdcells s) ?_ ?_ ?_ ?_ hbase ?_
    · intro j z hj
      rw [← hc j z hj, Go.WideShapes.add_plain]
    · intro z hz
      obtain ⟨c, _, hz⟩ := List.mem_flatMap.1 hz
      simp at hz
      rcases hz with rfl | rfl | rfl | rfl <;> rfl
    · unfold maxLen; omega
    · omega
    · intro v' w' hrow hg _
      refine h v' w' ?_ ((Below.refl base w).grown hg hbase (OwnD.blockLe hown))
      unfold OwnD
      rw [List.length_append, show vdcells (l ++ s) = vdcells l ++ vdcells s from List.flatMap_append]
      exact hrow
  · have e : s = [] := List.length_eq_zero_iff.1 (by omega)
    subst e
    rw [List.append_nil] at h
    obtain ⟨A, cap, rfl⟩ := Rd.val hr
    cases A with
    | none =>
      refine wpList_plain hgd fun K hK => ?_
      have hrun := run_append_nothing (P := Tryd.prog) w base 43 o.type 49 i0 4 Tryd.underlying43 hi v l.length (vdcells l) hown cap
      unfold Oper.wp execOp
      have hx' : a.eval y = .slice none 0 cap := hx
      simp only [ho, resolve, invoke, builtin, Sem.run_bind, Sem.run_pure, Result.andThen_ok, List.map_toArray, List.map_cons, List.map_nil, hs, hx', hrun]
      exact hK _ _ (h v w hown (Below.refl _ _))
    | some ad =>
      refine wpList_append_own w hgd x y 43 ho base 49 i0 (.agg #[.int .i64 0, .int .i64 0, .int .i64 0, .int .i64 0]) 4 32 Tryd.underlying43 hi hz0 hz1 hz2 rfl (by decide) v l.length (vdcells l) hs hown ad 0 cap [] hx rfl ?_ ?_ ?_ ?_ hbase ?_
      · intro j z hj; simp at hj
      · intro z hz; simp at hz
      · unfold maxLen; simp at hlen; omega
      · simp at hlen; omega
      · intro v' w' hrow hg _
        refine h v' w' ?_ ((Below.refl base w).grown hg hbase (OwnD.blockLe hown))
        rw [List.append_nil] at hrow
        exact hrow
end
/-- the one deed that is appended, in its block -/
theorem one_deed (w : World) (x y z u : Int) : VDeeds (w.alloc (.cells #[.int .i64 x, .int .i64 y, .int .i64 z, .int .i64 u] 49)) (w.heap.size + 1) (.slice (some ⟨w.heap.size, 0, none⟩) 1 1) [(x, y, z, u)] := by
  have h := Rd.lit w (vdcells [(x, y, z, u)]).toArray 49 4 1 1 rfl (by omega) (by decide)
  exact h
end Go.Proofs.YtkindaadadggoaaDoor
