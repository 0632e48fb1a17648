/- A store, a row of five numbers, and a slice of rows of three in memory: what the law ViewRow keeps. Conditions: each law's own premises. -/
import Derived.Test.YtkindaadadggoaaDoorVMem3
import Derived.Test.YtkindaadadggoaaDoorVRowM
import Derived.Maps.AppendAt
namespace Go.Proofs.YtkindaadadggoaaDoor
open Go.RowKit

theorem Tryd.infoInts : (Tryd.prog.info? 26).map (fun i => (i.zero, i.size, i.bytes)) = some (some (.slice none 0 0), 1, 24) := by kernel_rfl
def sl3 (g : Nat) : Value := .slice (some ⟨g, 0, none⟩) 3 3
section
variable {ops : Array Oper} {rest : List Oper} {o : Oper} {a : Act} {Q : Exit → Act → World → Prop} {w : World}
/-- 'append(rows, row)' -/
theorem append_row_at (hgd : o.guard = none) (s x : Operand) (ho : o.op = .call { callee := .builtin .append, args := #[s, x], argTypes := #[53, 53] })
    (base : Nat) (v : Value) (xs : List Value) (hs : a.eval s = v) (hown : w.ownsRow base 26 1 v xs.length xs) (g : Nat) (hx : a.eval x = .slice (some ⟨g, 0, none⟩) 1 1) (u : Nat) (hc : w.cell? ⟨g, 0, none⟩ = some (sl3 u))
    (hlen : xs.length < 1000000) (hbase : base ≤ w.heap.size)
    (h : ∀ v' w', w'.ownsRow base 26 1 v' (xs ++ [sl3 u]).length (xs ++ [sl3 u]) → w.grownBy w' v.ownBlock → (v'.ownBlock = v.ownBlock ∨ v'.ownBlock = some w.heap.size) → wpList Tryd.prog ops Q rest (a.put o.dst v') w') : wpList Tryd.prog ops Q (o :: rest) a w := by
  obtain ⟨i0, hi, hz0, hz1, hz2⟩ := info_parts Tryd.infoInts
  refine wpList_append_own_at w hgd s x 53 ho base 26 i0 (.slice none 0 0) 1 24 Tryd.underlying53 hi hz0 hz1 hz2 rfl (by decide) v xs.length xs hs hown ⟨g, 0, none⟩ 1 1 [sl3 u] hx rfl ?_ ?_ ?_ ?_ hbase ?_
  · intro j y hj
    match j, hj with
    | 0, hj => simp at hj; subst hj; exact hc
  · intro y hy; simp at hy; subst hy; rfl
  · unfold maxLen; omega
  · omega
  · intro v' w' hrow hg _ hb
    exact h v' w' (by rw [List.length_append]; exact hrow) hg hb
end
def r0 : Vw.R3 := (0, 0, 0)
structure MemR (w0 w : World) (b : Nat) (v : Vw.V) (vs : Nat → Value) (g : Nat) (W : List Nat) (rv : Value) (bs : List Nat) (R : List Vw.R3) : Prop where
  st : StAt w b v vs
  foot : ∀ j, FootV b vs j → j ≠ g ∧ rv.ownBlock ≠ some j ∧ j ∉ bs
  o1 : Own w b (.slice (some ⟨g, 0, none⟩) 5 5) (zs W)
  rl : bs.length = R.length
  rr : w.ownsRow b 26 1 rv R.length (bs.map sl3)
  rg : rv.ownBlock ≠ some g
  rb : ∀ j ∈ bs, b < j ∧ j ≠ g ∧ j < w.heap.size ∧ rv.ownBlock ≠ some j
  rc : ∀ k, k < R.length → w.cell? ⟨bs.getD k 0, 0, none⟩ = some (nv (R.getD k r0).1) ∧ w.cell? ⟨bs.getD k 0, 1, none⟩ = some (nv (R.getD k r0).2.1) ∧ w.cell? ⟨bs.getD k 0, 2, none⟩ = some (iv (R.getD k r0).2.2)
  gl : g < w.heap.size
  bw : Below w0.heap.size w0 w
  hb : w0.heap.size ≤ b ∧ b < g
section
variable {w0 w w' : World} {b g : Nat} {v v' : Vw.V} {vs : Nat → Value} {W : List Nat} {rv : Value} {bs : List Nat} {R : List Vw.R3}
theorem getD_mem_nat {l : List Nat} {k : Nat} (h : k < l.length) : l.getD k 0 ∈ l := by
  rw [List.getD_eq_getElem?_getD, List.getElem?_eq_getElem h]; exact List.getElem_mem h
theorem MemR.below (h : MemR w0 w b v vs g W rv bs R) (hb : Below w.heap.size w w') : MemR w0 w' b v vs g W rv bs R := by
  refine ⟨h.st.below hb, h.foot, h.o1.kept hb, h.rl, row_only h.rr (Only.of_below hb (Nat.le_refl _) (fun _ => False)) (fun _ _ q => q), h.rg, fun j hj => ?_, fun k hk => ?_, Nat.lt_of_lt_of_le h.gl hb.size, h.bw.trans (hb.mono h.bw.size), h.hb⟩
  · obtain ⟨a1, a2, a3, a4⟩ := h.rb j hj
    exact ⟨a1, a2, Nat.lt_of_lt_of_le a3 hb.size, a4⟩
  · have hl := (h.rb _ (getD_mem_nat (l := bs) (k := k) (by rw [h.rl]; exact hk))).2.2.1
    obtain ⟨c1, c2, c3⟩ := h.rc k hk
    exact ⟨(hb.cell (p := ⟨bs.getD k 0, 0, none⟩) hl).trans c1, (hb.cell (p := ⟨bs.getD k 0, 1, none⟩) hl).trans c2, (hb.cell (p := ⟨bs.getD k 0, 2, none⟩) hl).trans c3⟩
theorem MemR.alloc (h : MemR w0 w b v vs g W rv bs R) (o : Obj) : MemR w0 (w.alloc o) b v vs g W rv bs R := h.below ((Below.refl _ _).alloc (Nat.le_refl _) o)
theorem MemR.drew (h : MemR w0 w b v vs g W rv bs R) : MemR w0 w.drew b v vs g W rv bs R := h.below (Below.refl _ w).drew
theorem MemR.drewN (h : MemR w0 w b v vs g W rv bs R) (n : Nat) : MemR w0 (w.drewN n) b v vs g W rv bs R := h.below (drn (Below.refl _ w) n)
/-- behind a method -/
theorem MemR.to (h : MemR w0 w b v vs g W rv bs R) (ht : StTo w b vs v' w') : ∃ vs', MemR w0 w' b v' vs' g W rv bs R := by
  have hbw := ht.below h.bw h.st h.hb.1
  obtain ⟨vs', h1, h2, h3⟩ := ht
  have hrv := row_lt h.rr
  refine ⟨vs', h1, fun j hj => ?_, h.o1.onlyG h2 (fun q => (h.foot _ q).1 rfl), h.rl, row_only h.rr h2 (fun k hk q => (h.foot _ q).2.1 hk), h.rg, fun j hj => ?_, fun k hk => ?_, Nat.lt_of_lt_of_le h.gl h2.size, hbw, h.hb⟩
  · rcases h3 j hj with q | q
    · exact h.foot j q
    · refine ⟨fun e => ?_, fun e => ?_, fun e => ?_⟩
      · have := h.gl; omega
      · have := (hrv _ e).2; omega
      · have := (h.rb j e).2.2.1; omega
  · obtain ⟨a1, a2, a3, a4⟩ := h.rb j hj
    exact ⟨a1, a2, Nat.lt_of_lt_of_le a3 h2.size, a4⟩
  · have hm := getD_mem_nat (l := bs) (k := k) (by rw [h.rl]; exact hk)
    have hl := (h.rb _ hm).2.2.1
    have hS : ¬ FootV b vs (bs.getD k 0) := fun q => (h.foot _ q).2.2 hm
    obtain ⟨c1, c2, c3⟩ := h.rc k hk
    exact ⟨(h2.cell (p := ⟨bs.getD k 0, 0, none⟩) hl hS).trans c1, (h2.cell (p := ⟨bs.getD k 0, 1, none⟩) hl hS).trans c2, (h2.cell (p := ⟨bs.getD k 0, 2, none⟩) hl hS).trans c3⟩
theorem MemR.set1 (h : MemR w0 w b v vs g W rv bs R) (k n : Nat) : MemR w0 (w.setCell ⟨g, k, none⟩ (.int .i64 (n : Int))) b v vs g (W.set k n) rv bs R := by
  have hb := h.hb
  have ho : Only (fun j => j = g) w (w.setCell ⟨g, k, none⟩ (.int .i64 (n : Int))) := (Only.refl (fun j => j = g) w).setCell (p := ⟨g, k, none⟩) (Or.inl rfl) _
  refine ⟨h.st.only ho (fun j hj => (h.foot j hj).1), h.foot, ?_, h.rl, row_only h.rr ho (fun j hj e => h.rg (e ▸ hj)), h.rg, fun j hj => ?_, fun i hi => ?_, by simpa using h.gl, h.bw.setCell (p := ⟨g, k, none⟩) (by show w0.heap.size ≤ g; omega) _, h.hb⟩
  · rw [← zs_set]; exact h.o1.lit.2.2.2.2 k n
  · simpa using h.rb j hj
  · have hm := getD_mem_nat (l := bs) (k := i) (by rw [h.rl]; exact hi)
    have hl := (h.rb _ hm).2.2.1
    have hS := (h.rb _ hm).2.1
    obtain ⟨c1, c2, c3⟩ := h.rc i hi
    exact ⟨(ho.cell (p := ⟨bs.getD i 0, 0, none⟩) hl hS).trans c1, (ho.cell (p := ⟨bs.getD i 0, 1, none⟩) hl hS).trans c2, (ho.cell (p := ⟨bs.getD i 0, 2, none⟩) hl hS).trans c3⟩
/-- one more was read: its row in u, and the slice of rows grown -/
theorem MemR.more {u : Nat} {rv' : Value} {p : Vw.R3} (h : MemR w0 w b v vs g W rv bs R) (hu : b < u ∧ u ≠ g ∧ u < w.heap.size ∧ rv.ownBlock ≠ some u ∧ u ∉ bs ∧ ¬ FootV b vs u)
    (c : w.cell? ⟨u, 0, none⟩ = some (nv p.1) ∧ w.cell? ⟨u, 1, none⟩ = some (nv p.2.1) ∧ w.cell? ⟨u, 2, none⟩ = some (iv p.2.2))
    (hr : w'.ownsRow b 26 1 rv' (bs.map sl3 ++ [sl3 u]).length (bs.map sl3 ++ [sl3 u])) (hg : w.grownBy w' rv.ownBlock) (hn : rv'.ownBlock = rv.ownBlock ∨ rv'.ownBlock = some w.heap.size) : MemR w0 w' b v vs g W rv' (bs ++ [u]) (R ++ [p]) := by
  have hb := h.hb
  have hrv := row_lt h.rr
  obtain ⟨u1, u2, u3, u4, u5, u6⟩ := hu
  have ho : Only (fun j => rv.ownBlock = some j) w w' := (Only.refl _ w).grown hg (fun k hk => .inl hk)
  have hne : ∀ j, rv.ownBlock ≠ some j → j < w.heap.size → rv'.ownBlock ≠ some j := by
    intro j h1 h2 h3
    rcases hn with q | q
    · rw [q] at h3; exact h1 h3
    · rw [q] at h3
      injection h3 with h3
      omega
  have hsz := ho.size
  have hf := h.st.foot
  refine ⟨h.st.only ho (fun j hj => (h.foot j hj).2.1), fun j hj => ?_, h.o1.onlyG ho h.rg, by simp [h.rl], ?_, hne g h.rg h.gl, fun j hj => ?_, fun k hk => ?_, Nat.lt_of_lt_of_le h.gl hsz, ho.below h.bw.size (fun k hk => by have := (hrv k hk).1; omega) |> h.bw.trans, h.hb⟩
  · obtain ⟨f1, f2, f3⟩ := h.foot j hj
    refine ⟨f1, hne j f2 (hf j hj).2, fun hm => ?_⟩
    rcases List.mem_append.1 hm with q | q
    · exact f3 q
    · rw [List.mem_singleton.1 q] at hj; exact u6 hj
  · rw [List.map_append]
    have e : (bs.map sl3 ++ [sl3 u]).length = (R ++ [p]).length := by simp [h.rl]
    rw [e] at hr
    exact hr
  · rcases List.mem_append.1 hj with q | q
    · obtain ⟨a1, a2, a3, a4⟩ := h.rb j q
      exact ⟨a1, a2, Nat.lt_of_lt_of_le a3 hsz, hne j a4 a3⟩
    · rw [List.mem_singleton.1 q]
      exact ⟨u1, u2, Nat.lt_of_lt_of_le u3 hsz, hne u u4 u3⟩
  · rw [List.length_append, List.length_singleton] at hk
    by_cases e : k < R.length
    · have e1 : (bs ++ [u]).getD k 0 = bs.getD k 0 := by
        rw [List.getD_eq_getElem?_getD, List.getD_eq_getElem?_getD, List.getElem?_append_left (by rw [h.rl]; exact e)]
      have e2 : (R ++ [p]).getD k r0 = R.getD k r0 := by
        rw [List.getD_eq_getElem?_getD, List.getD_eq_getElem?_getD, List.getElem?_append_left e]
      rw [e1, e2]
      have hm := getD_mem_nat (l := bs) (k := k) (by rw [h.rl]; exact e)
      have hl := (h.rb _ hm).2.2.1
      have hS := (h.rb _ hm).2.2.2
      obtain ⟨c1, c2, c3⟩ := h.rc k e
      exact ⟨(ho.cell (p := ⟨bs.getD k 0, 0, none⟩) hl hS).trans c1, (ho.cell (p := ⟨bs.getD k 0, 1, none⟩) hl hS).trans c2, (ho.cell (p := ⟨bs.getD k 0, 2, none⟩) hl hS).trans c3⟩
    · have ek : k = R.length := by omega
      have e1 : (bs ++ [u]).getD k 0 = u := by
        rw [ek, ← h.rl]; simp [List.getD_eq_getElem?_getD]
      have e2 : (R ++ [p]).getD k r0 = p := by
        rw [ek]; simp [List.getD_eq_getElem?_getD]
      rw [e1, e2]
      obtain ⟨c1, c2, c3⟩ := c
      exact ⟨(ho.cell (p := ⟨u, 0, none⟩) u3 u4).trans c1, (ho.cell (p := ⟨u, 1, none⟩) u3 u4).trans c2, (ho.cell (p := ⟨u, 2, none⟩) u3 u4).trans c3⟩
/-- the k-th row that was read -/
theorem MemR.row (h : MemR w0 w b v vs g W rv bs R) {k : Nat} (hk : k < R.length) : ∃ q cap, rv = .slice (some ⟨q, 0, none⟩) R.length cap ∧ w.cell? ⟨q, k, none⟩ = some (sl3 (bs.getD k 0)) := by
  have ho := h.rr
  rcases ho.2 with ⟨hv, h0⟩ | ⟨q, cap, cur, hv, hb, hg, hn, hc, hs, ht⟩
  · omega
  · refine ⟨q, cap, hv, ?_⟩
    rw [hv] at ho
    have := World.ownsRow.cellAt ho k (by rw [Nat.mul_one]; exact hk)
    rw [this, List.getElem?_map]
    have hk2 : k < bs.length := by rw [h.rl]; exact hk
    rw [List.getElem?_eq_getElem hk2, List.getD_eq_getElem?_getD, List.getElem?_eq_getElem hk2]
    rfl
theorem MemR.val (h : MemR w0 w b v vs g W rv bs R) : ∃ A cap, rv = .slice A R.length cap := by
  rcases h.rr.2 with ⟨hv, h0⟩ | ⟨q, cap, cur, hv, -⟩
  · exact ⟨none, 0, by rw [hv, h0]⟩
  · exact ⟨_, cap, hv⟩
/-- at the start -/
theorem memR_laid (hs : StAt w b v vs) (hb : Below w0.heap.size w0 w) (h0 : w0.heap.size ≤ b) : MemR w0 (w.alloc z5) b v vs w.heap.size [0, 0, 0, 0, 0] (.slice none 0 0) [] [] := by
  have hbs := hs.1.lt
  have e1 : (w.alloc z5).heap.size = w.heap.size + 1 := by simp
  refine ⟨hs.alloc _, fun j hj => ⟨by have := (hs.foot j hj).2; omega, (fun h => by cases h), (fun h => by cases h)⟩, own_made5 w b w.heap.size rfl (by omega), rfl, World.ownsRow_nil _ _ _ _, (fun h => by cases h), fun j hj => (by cases hj), fun k hk => absurd hk (Nat.not_lt_zero _), by rw [e1]; exact Nat.lt_succ_self _, hb.alloc hb.size _, h0, hbs⟩
end
end Go.Proofs.YtkindaadadggoaaDoor
