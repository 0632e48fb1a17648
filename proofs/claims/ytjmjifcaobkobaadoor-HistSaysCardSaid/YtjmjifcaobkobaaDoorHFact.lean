/- The closed fact on histories; slices of ops that the call itself made; what is let by is in order. Conditions: each rule's own premises. -/
import Derived.Test.YtjmjifcaobkobaaDoorHRow
namespace Go.Proofs.YtjmjifcaobkobaaDoor
open Go.RowKit His

/-- what is in order is let by -/
theorem code_ok {h : List N6} (hh : Hok h) : histCode (zops h) = 0 := by
  unfold histCode
  rw [if_neg (by rw [length_zops]; have := hh.len; omega)]
  have hc : ∀ k, k < (zops h).length → codeAt (zops h) k = 0 := by
    intro k hk
    have hk' : k < h.length := by simpa using hk
    have e : (zops h).getD k z6 = zop h[k] := by rw [getD_z6 hk]; simp [zops]
    obtain ⟨a0, a1, a2, a3, a4, a5, a6⟩ := hh.rng _ (List.getElem_mem hk')
    have hcl : ¬ ∃ p ∈ (zops h).take k, clash6 p ((zops h).getD k z6) := by
      rintro ⟨p, hp, hc⟩
      rw [e] at hc
      obtain ⟨j, hj, rfl⟩ := List.mem_iff_getElem.1 hp
      rw [List.length_take] at hj
      have hjk : j < k := by omega
      have hjl : j < h.length := by omega
      rw [List.getElem_take] at hc
      have e2 : (zops h)[j]'(by simpa using hjl) = zop h[j] := by simp [zops]
      rw [e2] at hc
      have := List.pairwise_iff_getElem.1 hh.nov j k hjl hk' hjk
      refine this ?_
      unfold clash6 zop at hc
      simp only [pr, fr, tt] at hc ⊢
      omega
    unfold codeAt
    rw [if_pos, if_neg, if_neg hcl]
    · rw [e]
      simp only [zop, fr, tt] at a6 ⊢
      omega
    · rw [e]
      unfold rngs zop
      simp only [pr, ob, wr, vl, fr, tt] at a0 a1 a2 a3 a4 a5 a6 ⊢
      omega
  have : ∀ n, n ≤ (zops h).length → hcode (zops h) n = 0 := by
    intro n
    induction n with
    | zero => intro _; rfl
    | succ n ih => intro hn; rw [hcode, if_pos (ih (by omega))]; exact hc n (by omega)
  exact this _ (Nat.le_refl _)


/-- a slice of ops that the call itself made -/
def OwnO (w : World) (base : Nat) (v : Value) (s : List Z6) : Prop := w.ownsRow base 36 6 v s.length (ocells s)
theorem Tryd.infoOp : (Tryd.prog.info? 36).map (fun i => (i.zero, i.size, i.bytes)) = some (some (.agg #[.int .i64 0, .int .i64 0, .int .i64 0, .int .i64 0, .int .i64 0, .int .i64 0]), 6, 48) := by kernel_rfl
theorem OwnO.ops {w : World} {base : Nat} {v : Value} {s : List Z6} (h : OwnO w base v s) : Ops w w.heap.size v s := Rd.of_own h
theorem OwnO.nil (w : World) (base : Nat) : OwnO w base (.slice none 0 0) [] := World.ownsRow_nil _ _ _ _
theorem OwnO.kept {w w' : World} {base : Nat} {v : Value} {s : List Z6} (h : OwnO w base v s) (hb : Below w.heap.size w w') : OwnO w' base v s :=
  World.ownsRow.kept (row := none) h ⟨hb.os, hb.tape, hb.output, hb.size, fun k hk _ => hb.block k hk⟩ (by cases hv : v.ownBlock <;> simp)
theorem OwnO.alloc {w : World} {base : Nat} {v : Value} {s : List Z6} (h : OwnO w base v s) (o : Obj) : OwnO (w.alloc o) base v s := World.ownsRow.alloc h o
theorem OwnO.blockLe {w : World} {base : Nat} {v : Value} {s : List Z6} (h : OwnO w base v s) : ∀ k, v.ownBlock = some k → base ≤ k := fun k hk => (h.lt k hk).1
section
variable {ops : Array Oper} {rest : List Oper} {o : Oper} {a : Go.Act} {Q : Exit → Go.Act → World → Prop} {w : World}
/-- 'append(out, o)' -/
theorem append_op (hgd : o.guard = none) (x y : Operand) (ho : o.op = .call { callee := .builtin .append, args := #[x, y], argTypes := #[22, 22] })
    (base : Nat) (v : Value) (l : List Z6) (hs : a.eval x = v) (hown : OwnO w base v l) (b : Nat) (hx : a.eval y = .slice (some ⟨b, 0, none⟩) 1 1) (c : Z6)
    (hc : ∀ j u, (ocells [c])[j]? = some u → w.cell? ⟨b, j, none⟩ = some u) (hlen : l.length ≤ 100000) (hbase : base ≤ w.heap.size)
    (h : ∀ v' w', OwnO w' base v' (l ++ [c]) → Below base w w' → wpList Tryd.prog ops Q rest (a.put o.dst v') w') : wpList Tryd.prog ops Q (o :: rest) a w := by
  obtain ⟨i0, hi, hz0, hz1, hz2⟩ := info_parts Tryd.infoOp
  refine wpList_append_own w hgd x y 22 ho base 36 i0 (.agg #[.int .i64 0, .int .i64 0, .int .i64 0, .int .i64 0, .int .i64 0, .int .i64 0]) 6 48 Tryd.underlying22 hi hz0 hz1 hz2 rfl (by decide) v l.length (ocells l) hs hown ⟨b, 0, none⟩ 1 1 (ocells [c]) hx rfl ?_ ?_ ?_ ?_ hbase ?_
  · intro j u hj
    rw [← hc j u hj, Go.WideShapes.add_plain, Nat.zero_add]
  · intro u hu
    simp [ocells] at hu
    rcases hu with rfl | rfl | rfl | rfl | rfl | rfl <;> rfl
  · unfold maxLen; omega
  · omega
  · intro v' w' hrow hg _
    refine h v' w' ?_ ((Below.refl base w).grown hg hbase (OwnO.blockLe hown))
    unfold OwnO
    rw [List.length_append, show ocells (l ++ [c]) = ocells l ++ ocells [c] from List.flatMap_append]
    exact hrow
end
theorem new_op (w : World) (c : Z6) (t : TypeId) : ∀ j u, (ocells [c])[j]? = some u → (w.alloc (.cells #[iv c.1, iv c.2.1, iv c.2.2.1, iv c.2.2.2.1, iv c.2.2.2.2.1, iv c.2.2.2.2.2] t)).cell? ⟨w.heap.size, j, none⟩ = some u := by
  intro j u hj
  rw [World.cell?_alloc_new]
  simpa [ocells] using hj
theorem zops_append (a b : List N6) : zops (a ++ b) = zops a ++ zops b := by simp [zops]

/-- rows of six ints are ops -/
theorem ops_of_recs {w : World} {B : Nat} {v : Value} {recs : List (List Int)} (hr : Rd w B 6 v recs.length (recs.flatMap fun r => r.map iv)) (hl : ∀ r ∈ recs, r.length = 6) :
    ∃ s : List Z6, Ops w B v s := by
  have h : ∃ s : List Z6, s.length = recs.length ∧ ocells s = recs.flatMap fun r => r.map iv := by
    clear hr
    induction recs with
    | nil => exact ⟨[], rfl, rfl⟩
    | cons r recs ih =>
      obtain ⟨s, h1, h2⟩ := ih (fun r' h' => hl r' (List.mem_cons_of_mem _ h'))
      have h3 := hl r (List.mem_cons_self ..)
      match r, h3 with
      | [a, b, c, d, e, f], _ => exact ⟨(a, b, c, d, e, f) :: s, by simp [h1], by rw [List.flatMap_cons, ← h2]; rfl⟩
  obtain ⟨s, h1, h2⟩ := h
  refine ⟨s, ?_⟩
  unfold Ops
  rw [h1, h2]
  exact hr
end Go.Proofs.YtjmjifcaobkobaaDoor
