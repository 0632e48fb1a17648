/- A store and three rows of five numbers in memory: what the law ViewFirst keeps. Conditions: each law's own premises. -/
import Derived.Test.YtkindaadadggoaaDoorVFact
import Derived.Test.YtkindaadadggoaaDoorVFirM
import Derived.Test.YtkindaadadggoaaDoorVWith
namespace Go.Proofs.YtkindaadadggoaaDoor
open Go.RowKit

structure Mem3 (w0 w : World) (b : Nat) (v : Vw.V) (vs : Nat → Value) (g : Nat) (W Bg En : List Nat) : Prop where
  st : StAt w b v vs
  foot : ∀ j, FootV b vs j → j < g ∨ g + 3 ≤ j
  o1 : Own w b (.slice (some ⟨g, 0, none⟩) 5 5) (zs W)
  o2 : Own w b (.slice (some ⟨g + 1, 0, none⟩) 5 5) (zs Bg)
  o3 : Own w b (.slice (some ⟨g + 2, 0, none⟩) 5 5) (zs En)
  sz : g + 3 ≤ w.heap.size
  bw : Below w0.heap.size w0 w
  hb : w0.heap.size ≤ b ∧ b < g
section
variable {w0 w w' : World} {b g : Nat} {v v' : Vw.V} {vs : Nat → Value} {W Bg En : List Nat}
theorem Mem3.below (h : Mem3 w0 w b v vs g W Bg En) (hb : Below w.heap.size w w') : Mem3 w0 w' b v vs g W Bg En :=
  ⟨h.st.below hb, h.foot, h.o1.kept hb, h.o2.kept hb, h.o3.kept hb, Nat.le_trans h.sz hb.size, h.bw.trans (hb.mono h.bw.size), h.hb⟩
theorem Mem3.alloc (h : Mem3 w0 w b v vs g W Bg En) (o : Obj) : Mem3 w0 (w.alloc o) b v vs g W Bg En := h.below ((Below.refl _ _).alloc (Nat.le_refl _) o)
theorem Mem3.drew (h : Mem3 w0 w b v vs g W Bg En) : Mem3 w0 w.drew b v vs g W Bg En := h.below (Below.refl _ w).drew
theorem Mem3.drewN (h : Mem3 w0 w b v vs g W Bg En) (n : Nat) : Mem3 w0 (w.drewN n) b v vs g W Bg En := h.below (drn (Below.refl _ w) n)
theorem Own.onlyG {S : Nat → Prop} {base gg n c : Nat} {l : List Int} (h : Own w base (.slice (some ⟨gg, 0, none⟩) n c) l) (g : Only S w w') (hS : ¬ S gg) : Own w' base (.slice (some ⟨gg, 0, none⟩) n c) l :=
  row_only h g (fun k hk => by injection hk with hk; have hk' : gg = k := hk; subst hk'; exact hS)
/-- behind a method -/
theorem Mem3.to (h : Mem3 w0 w b v vs g W Bg En) (ht : StTo w b vs v' w') : ∃ vs', Mem3 w0 w' b v' vs' g W Bg En := by
  have hbw := ht.below h.bw h.st h.hb.1
  obtain ⟨vs', h1, h2, h3⟩ := ht
  have hz := h.sz
  refine ⟨vs', h1, fun j hj => ?_, h.o1.onlyG h2 (fun q => by have := h.foot _ q; omega), h.o2.onlyG h2 (fun q => by have := h.foot _ q; omega), h.o3.onlyG h2 (fun q => by have := h.foot _ q; omega), Nat.le_trans h.sz h2.size, hbw, h.hb⟩
  rcases h3 j hj with q | q
  · exact h.foot j q
  · omega
theorem Mem3.set1 (h : Mem3 w0 w b v vs g W Bg En) (k n : Nat) : Mem3 w0 (w.setCell ⟨g, k, none⟩ (.int .i64 (n : Int))) b v vs g (W.set k n) Bg En := by
  have hb := h.hb
  refine ⟨h.st.away _ _ (fun j hj => by have := h.foot j hj; show j ≠ g; omega), h.foot, ?_, h.o2.awayE _ _ (by show g ≠ g + 1; omega), h.o3.awayE _ _ (by show g ≠ g + 2; omega), by simpa using h.sz, h.bw.setCell (p := ⟨g, k, none⟩) (by show w0.heap.size ≤ g; omega) _, h.hb⟩
  rw [← zs_set]; exact h.o1.lit.2.2.2.2 k n
theorem Mem3.set2 (h : Mem3 w0 w b v vs g W Bg En) (k n : Nat) : Mem3 w0 (w.setCell ⟨g + 1, k, none⟩ (.int .i64 (n : Int))) b v vs g W (Bg.set k n) En := by
  have hb := h.hb
  refine ⟨h.st.away _ _ (fun j hj => by have := h.foot j hj; show j ≠ g + 1; omega), h.foot, h.o1.awayE _ _ (by show g + 1 ≠ g; omega), ?_, h.o3.awayE _ _ (by show g + 1 ≠ g + 2; omega), by simpa using h.sz, h.bw.setCell (p := ⟨g + 1, k, none⟩) (by show w0.heap.size ≤ g + 1; omega) _, h.hb⟩
  rw [← zs_set]; exact h.o2.lit.2.2.2.2 k n
theorem Mem3.set3 (h : Mem3 w0 w b v vs g W Bg En) (k n : Nat) : Mem3 w0 (w.setCell ⟨g + 2, k, none⟩ (.int .i64 (n : Int))) b v vs g W Bg (En.set k n) := by
  have hb := h.hb
  refine ⟨h.st.away _ _ (fun j hj => by have := h.foot j hj; show j ≠ g + 2; omega), h.foot, h.o1.awayE _ _ (by show g + 2 ≠ g; omega), h.o2.awayE _ _ (by show g + 2 ≠ g + 1; omega), ?_, by simpa using h.sz, h.bw.setCell (p := ⟨g + 2, k, none⟩) (by show w0.heap.size ≤ g + 2; omega) _, h.hb⟩
  rw [← zs_set]; exact h.o3.lit.2.2.2.2 k n
theorem own_cell {base gg k : Nat} {l : List Nat} (h : Own w base (.slice (some ⟨gg, 0, none⟩) 5 5) (zs l)) (hl : l.length = 5) (hk : k < 5) : w.cell? ⟨gg, k, none⟩ = some (nv (l.getD k 0)) ∧ w.frozen? ⟨gg, k, none⟩ = false := by
  have := h.lit.2.2.1 k (by rw [length_zs, hl]; exact hk)
  rw [zs_getElem] at this
  exact ⟨this, h.lit.2.2.2.1 k⟩
/-- at the start -/
theorem mem3_laid (hs : StAt w b v vs) (hb : Below w0.heap.size w0 w) (h0 : w0.heap.size ≤ b) : Mem3 w0 (((w.alloc z5).alloc z5).alloc z5) b v vs w.heap.size [0, 0, 0, 0, 0] [0, 0, 0, 0, 0] [0, 0, 0, 0, 0] := by
  have hbs := hs.1.lt
  have e1 : (w.alloc z5).heap.size = w.heap.size + 1 := by simp
  have e2 : ((w.alloc z5).alloc z5).heap.size = w.heap.size + 2 := by simp
  have e3 : (((w.alloc z5).alloc z5).alloc z5).heap.size = w.heap.size + 3 := by simp
  refine ⟨((hs.alloc _).alloc _).alloc _, fun j hj => .inl (hs.foot j hj).2, ((own_made5 w b w.heap.size rfl (by omega)).alloc _).alloc _, (own_made5 (w.alloc z5) b (w.heap.size + 1) e1.symm (by omega)).alloc _, own_made5 ((w.alloc z5).alloc z5) b (w.heap.size + 2) e2.symm (by omega), by rw [e3]; exact Nat.le_refl _, ((hb.alloc hb.size _).alloc (by have := hb.size; omega) _).alloc (by have := hb.size; omega) _, h0, hbs⟩
end
end Go.Proofs.YtkindaadadggoaaDoor
