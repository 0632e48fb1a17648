/- The reference's Pass at every act, and what lies where in the statement PriorPlays. Conditions: the contract's own premises. -/
import Derived.Test.YtkindaadadggoaaDoorRPass
import Derived.Test.YtkindaadadggoaaDoorPFact
import Derived.Test.YtkindaadadggoaaDoorActEq
import Derived.Test.YtkindaadadggoaaDoorAs
namespace Go.Proofs.YtkindaadadggoaaDoor
open Go.RowKit

theorem rpass_calls (sk : Bool) (g : Gt.G) (a : Act3) (A : Option Addr) (c : Nat) (w : World) (hr : Acts w w.heap.size (.slice A g.acts.length c) (Sch.zacts g.acts)) (hI : Gt.Inv g) :
    Calls Tryd.prog 19 #[.agg #[.bool sk, nv g.dead, .slice A g.acts.length c], .agg #[iv a.1, iv a.2.1, iv a.2.2]] w fun e w' =>
      ∃ v', e = .returned (.tuple #[.agg #[.bool sk, nv (passI sk g a).1.dead, v'], .bool (passI sk g a).2.1, nv (passI sk g a).2.2]) ∧
        ((v' = .slice A g.acts.length c ∧ (passI sk g a).1.acts = g.acts) ∨ OwnA w' w.heap.size v' (Sch.zacts (passI sk g a).1.acts)) ∧ Below w.heap.size w w' := by
  obtain ⟨x, y, z⟩ := a
  unfold passI
  by_cases hok : actOk (x, y, z)
  · rw [if_pos hok]
    obtain ⟨⟨h1, h2⟩, ⟨h4, h5⟩, h6, h7⟩ := hok
    obtain ⟨tx, rfl⟩ := Int.eq_ofNat_of_zero_le h1
    obtain ⟨it, rfl⟩ := Int.eq_ofNat_of_zero_le h4
    obtain ⟨wt, rfl⟩ := Int.eq_ofNat_of_zero_le h6
    have a1 : tx < 5 := by simp only at h2; omega
    have a2 : it < 4 := by simp only at h5; omega
    have a3 : wt < 2 := by simp only at h7; omega
    show Calls Tryd.prog 19 #[.agg #[.bool sk, nv g.dead, .slice A g.acts.length c], .agg #[nv tx, nv it, nv wt]] w fun e w' =>
      ∃ v', e = .returned (.tuple #[.agg #[.bool sk, nv (Gt.pass sk g (tx, it, wt)).1.dead, v'], .bool (Gt.pass sk g (tx, it, wt)).2.1, nv (Gt.pass sk g (tx, it, wt)).2.2]) ∧
        ((v' = .slice A g.acts.length c ∧ (Gt.pass sk g (tx, it, wt)).1.acts = g.acts) ∨ OwnA w' w.heap.size v' (Sch.zacts (Gt.pass sk g (tx, it, wt)).1.acts)) ∧ Below w.heap.size w w'
    cases hb : g.dead.testBit tx
    · by_cases hn : g.acts.length = 24
      · have hp : Gt.pass sk g (tx, it, wt) = (g, false, 4) := by unfold Gt.pass; rw [if_neg (by rw [hb]; decide), if_pos hn]
        rw [hp]
        exact (rpass_full sk g tx it wt A _ c w a1 a2 a3 hI.2.2.2.2.1 hb (by omega)).mono fun _ _ ⟨h1, h2⟩ => ⟨_, h1, .inl ⟨rfl, rfl⟩, h2⟩
      · exact rpass_main sk g tx it wt A c w hr hI a1 a2 a3 hb hn
    · have hp : Gt.pass sk g (tx, it, wt) = (g, false, 7) := by unfold Gt.pass; rw [if_pos hb]
      rw [hp]
      exact (rpass_dead sk g tx it wt A _ c w a1 a2 a3 hI.2.2.2.2.1 hb).mono fun _ _ ⟨h1, h2⟩ => ⟨_, h1, .inl ⟨rfl, rfl⟩, h2⟩
  · rw [if_neg hok]
    exact (rpass_bad sk g x y z A _ c w hok).mono fun _ _ ⟨h1, h2⟩ => ⟨_, h1, .inl ⟨rfl, rfl⟩, h2⟩

/-- the gate, and the box of the reference's gate -/
structure PM (w : World) (b q : Nat) (sk : Bool) (g : Gt.G) (vg : Value) (d : Gt.G) (v2 : Value) : Prop where
  gate : GateAt w b sk g vg
  lq : q < w.heap.size
  c0 : w.cell? ⟨q, 0, none⟩ = some (.bool sk)
  c1 : w.cell? ⟨q, 1, none⟩ = some (nv d.dead)
  c2 : w.cell? ⟨q, 2, none⟩ = some v2
  f0 : w.frozen? ⟨q, 0, none⟩ = false
  f1 : w.frozen? ⟨q, 1, none⟩ = false
  f2 : w.frozen? ⟨q, 2, none⟩ = false
  own : OwnA w (q + 1) v2 (Sch.zacts d.acts)
  sep : ∀ k, Foot b vg k → k ≠ q ∧ v2.ownBlock ≠ some k
section
variable {w w' : World} {b q : Nat} {sk : Bool} {g g' d : Gt.G} {vg v2 v2' : Value}
theorem PM.below (h : PM w b q sk g vg d v2) (hb : Below w.heap.size w w') : PM w' b q sk g vg d v2 := by
  have ho := Only.of_below hb (Nat.le_refl _) (fun _ => False)
  exact ⟨h.gate.only ho (fun _ _ h => h), Nat.lt_of_lt_of_le h.lq ho.size, (ho.cell h.lq id).trans h.c0, (ho.cell h.lq id).trans h.c1, (ho.cell h.lq id).trans h.c2, (ho.frozen h.lq id).trans h.f0, (ho.frozen h.lq id).trans h.f1, (ho.frozen h.lq id).trans h.f2, h.own.only ho (fun _ _ h => h), h.sep⟩
/-- the reference's step -/
theorem PM.pass (h : PM w b q sk g vg d v2) (hb : Below w.heap.size w w') (hres : (v2' = v2 ∧ g'.acts = d.acts) ∨ OwnA w' w.heap.size v2' (Sch.zacts g'.acts)) (o : Obj) :
    PM ((((w'.alloc o).setCell ⟨q, 0, none⟩ (.bool sk)).setCell ⟨q, 1, none⟩ (nv g'.dead)).setCell ⟨q, 2, none⟩ v2') b q sk g vg g' v2' := by
  have h1 := h.below hb
  have ho : Only (fun k => k = q) w' ((((w'.alloc o).setCell ⟨q, 0, none⟩ (.bool sk)).setCell ⟨q, 1, none⟩ (nv g'.dead)).setCell ⟨q, 2, none⟩ v2') :=
    ((((Only.refl (fun k => k = q) w').alloc o).setCell (p := ⟨q, 0, none⟩) (.inl rfl) _).setCell (p := ⟨q, 1, none⟩) (.inl rfl) _).setCell (p := ⟨q, 2, none⟩) (.inl rfl) _
  have hq := h1.lq
  have hqw := h.lq
  have oa := Only.of_below ((Below.refl w'.heap.size w').alloc (Nat.le_refl _) o) (Nat.le_refl _) (fun _ => False)
  have k0 := (oa.cell hq id).trans h1.c0
  have k1 := (oa.cell hq id).trans h1.c1
  have k2 := (oa.cell hq id).trans h1.c2
  have l0 := (oa.frozen hq id).trans h1.f0
  have l1 := (oa.frozen hq id).trans h1.f1
  have l2 := (oa.frozen hq id).trans h1.f2
  refine ⟨h1.gate.only ho (fun k hk => (h.sep k hk).1), Nat.lt_of_lt_of_le hq ho.size, ?_, ?_, ?_, ?_, ?_, ?_, ?_, fun k hk => ⟨(h.sep k hk).1, ?_⟩⟩
  · simp [go_sem, k0]
  · simp [go_sem, k1]
  · simp [go_sem, k2]
  · simp [go_sem, l0]
  · simp [go_sem, l1]
  · simp [go_sem, l2]
  · rcases hres with ⟨rfl, he⟩ | hown
    · rw [he]
      exact h1.own.only ho (fun k hk hs => by have := (row_lt h1.own k hk).1; have hs' : k = q := hs; omega)
    · exact (hown.only ho (fun k hk hs => by have := (row_lt hown k hk).1; have hs' : k = q := hs; omega)).down (by omega)
  · rcases hres with ⟨rfl, he⟩ | hown
    · exact (h.sep k hk).2
    · intro e
      have := (row_lt hown k e).1
      have := (h.gate.foot k hk).2
      omega
/-- the program's step -/
theorem PM.did (h : PM w b q sk g vg d v2) (ht : GateTo w b sk vg g' w') : ∃ vg', PM w' b q sk g' vg' d v2 := by
  obtain ⟨vg', q1, q2, q3⟩ := ht
  have hn : ¬ Foot b vg q := fun hk => (h.sep q hk).1 rfl
  refine ⟨vg', q1, Nat.lt_of_lt_of_le h.lq q2.size, (q2.cell h.lq hn).trans h.c0, (q2.cell h.lq hn).trans h.c1, (q2.cell h.lq hn).trans h.c2, (q2.frozen h.lq hn).trans h.f0, (q2.frozen h.lq hn).trans h.f1, (q2.frozen h.lq hn).trans h.f2, h.own.only q2 (fun k hk hs => (h.sep k hs).2 hk), fun k hk => ?_⟩
  rcases q3 k hk with g1 | g1
  · exact h.sep k g1
  · have := h.lq
    exact ⟨by omega, fun e => by have := (row_lt h.own k e).2; omega⟩
end
end Go.Proofs.YtkindaadadggoaaDoor
