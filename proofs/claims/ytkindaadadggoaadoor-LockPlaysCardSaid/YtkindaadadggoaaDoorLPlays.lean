/- The walk of the statement LockPlays: at every input it returns true. Conditions: none beyond the handle's. -/
import Derived.Test.YtkindaadadggoaaDoorRLockG
import Derived.Test.YtkindaadadggoaaDoorDeeds
import Derived.Test.YtkindaadadggoaaDoorLFact
import Derived.Test.YtkindaadadggoaaDoorTabW
import Derived.Test.YtkindaadadggoaaDoorTabS
import Derived.Test.YtkindaadadggoaaDoorActEq
import Derived.Test.YtkindaadadggoaaDoorAs
import Derived.Deep.RegionHeld3
import Derived.Handy
namespace Go.Proofs.YtkindaadadggoaaDoor
open Go.RowKit

/-- where a slice lies: above the box, and beside the table -/
def Sl (w : World) (q b : Nat) (vt v : Value) : Prop := ∀ k, v.ownBlock = some k → k ≠ q ∧ k < w.heap.size ∧ ¬ Foot b vt k
structure LM (w : World) (b q : Nat) (l : Lk.L) (vt : Value) (d : Lk.L) (A1 A2 A3 : Option Addr) (n1 n2 n3 : Nat) : Prop where
  tab : TabAt w b l vt
  lq : q < w.heap.size
  nq : ¬ Foot b vt q
  c0 : w.cell? ⟨q, 0, none⟩ = some (.slice A1 20 n1)
  c1 : w.cell? ⟨q, 1, none⟩ = some (.slice A2 5 n2)
  c2 : w.cell? ⟨q, 2, none⟩ = some (nv d.shr)
  c3 : w.cell? ⟨q, 3, none⟩ = some (.slice A3 d.acts.length n3)
  f0 : w.frozen? ⟨q, 0, none⟩ = false
  f1 : w.frozen? ⟨q, 1, none⟩ = false
  f2 : w.frozen? ⟨q, 2, none⟩ = false
  f3 : w.frozen? ⟨q, 3, none⟩ = false
  h1 : Ints w w.heap.size (.slice A1 20 n1) (zs (Lk.holds d))
  h2 : Ints w w.heap.size (.slice A2 5 n2) (Lk.wantsI d)
  h3 : Acts w w.heap.size (.slice A3 d.acts.length n3) (Sch.zacts d.acts)
  s1 : Sl w q b vt (.slice A1 20 n1)
  s2 : Sl w q b vt (.slice A2 5 n2)
  s3 : Sl w q b vt (.slice A3 d.acts.length n3)
section
variable {w w' w2 : World} {b q : Nat} {l l' d d' : Lk.L} {vt v v' : Value} {A1 A2 A3 B1 B2 B3 : Option Addr} {n1 n2 n3 m1 m2 m3 : Nat}
theorem Sl.size (h : Sl w q b vt v) (hs : w.heap.size ≤ w'.heap.size) : Sl w' q b vt v := fun k hk => ⟨(h k hk).1, Nat.lt_of_lt_of_le (h k hk).2.1 hs, (h k hk).2.2⟩
/-- all stays, but for blocks that none of it lies in -/
theorem LM.only {S : Nat → Prop} (h : LM w b q l vt d A1 A2 A3 n1 n2 n3) (ho : Only S w w') (hF : ∀ k, Foot b vt k → ¬ S k) (hq : ¬ S q) (o1 : Off S (.slice A1 20 n1)) (o2 : Off S (.slice A2 5 n2)) (o3 : Off S (.slice A3 d.acts.length n3)) : LM w' b q l vt d A1 A2 A3 n1 n2 n3 :=
  ⟨h.tab.only ho hF, Nat.lt_of_lt_of_le h.lq ho.size, h.nq, (ho.cell h.lq hq).trans h.c0, (ho.cell h.lq hq).trans h.c1, (ho.cell h.lq hq).trans h.c2, (ho.cell h.lq hq).trans h.c3, (ho.frozen h.lq hq).trans h.f0, (ho.frozen h.lq hq).trans h.f1, (ho.frozen h.lq hq).trans h.f2, (ho.frozen h.lq hq).trans h.f3,
    Rd.more (Rd.only h.h1 (Nat.le_refl _) ho o1) ho.size, Rd.more (Rd.only h.h2 (Nat.le_refl _) ho o2) ho.size, Rd.more (Rd.only h.h3 (Nat.le_refl _) ho o3) ho.size, h.s1.size ho.size, h.s2.size ho.size, h.s3.size ho.size⟩
theorem LM.below (h : LM w b q l vt d A1 A2 A3 n1 n2 n3) (hb : Below w.heap.size w w') : LM w' b q l vt d A1 A2 A3 n1 n2 n3 :=
  h.only (Only.of_below hb (Nat.le_refl _) (fun _ => False)) (fun _ _ => id) id (fun _ _ => id) (fun _ _ => id) (fun _ _ => id)
/-- the program's step -/
theorem LM.did (h : LM w b q l vt d A1 A2 A3 n1 n2 n3) (ht : TabTo w b vt l' w') : ∃ vt', LM w' b q l' vt' d A1 A2 A3 n1 n2 n3 := by
  obtain ⟨vt', q1, q2, q3⟩ := ht
  have ss {v : Value} (hs : Sl w q b vt v) : Sl w' q b vt' v := fun k hk => ⟨(hs k hk).1, Nat.lt_of_lt_of_le (hs k hk).2.1 q2.size, fun hf => by
    rcases q3 k hf with g | g
    · exact (hs k hk).2.2 g
    · exact absurd (hs k hk).2.1 (Nat.not_lt.2 g)⟩
  refine ⟨vt', q1, Nat.lt_of_lt_of_le h.lq q2.size, fun hf => ?_, (q2.cell h.lq h.nq).trans h.c0, (q2.cell h.lq h.nq).trans h.c1, (q2.cell h.lq h.nq).trans h.c2, (q2.cell h.lq h.nq).trans h.c3, (q2.frozen h.lq h.nq).trans h.f0, (q2.frozen h.lq h.nq).trans h.f1, (q2.frozen h.lq h.nq).trans h.f2, (q2.frozen h.lq h.nq).trans h.f3,
    Rd.more (Rd.only h.h1 (Nat.le_refl _) q2 fun k hk => (h.s1 k hk).2.2) q2.size, Rd.more (Rd.only h.h2 (Nat.le_refl _) q2 fun k hk => (h.s2 k hk).2.2) q2.size, Rd.more (Rd.only h.h3 (Nat.le_refl _) q2 fun k hk => (h.s3 k hk).2.2) q2.size, ss h.s1, ss h.s2, ss h.s3⟩
  rcases q3 q hf with g | g
  · exact h.nq g
  · exact absurd h.lq (Nat.not_lt.2 g)
theorem Ans.only {S : Nat → Prop} {base base' : Nat} {xs ys : List Int} (h : Ans w base v v' xs ys) (ho : Only S w w') (hS : ∀ k, S k → k < base) (hb : base' ≤ base) : Ans w' base' v v' xs ys :=
  h.imp id fun g => own_down (g.only ho fun k hk hs => absurd (hS k hs) (Nat.not_lt.2 (row_lt g k hk).1)) hb
theorem AnsA.only {S : Nat → Prop} {base base' : Nat} {xs ys : List Act3} (h : AnsA w base v v' xs ys) (ho : Only S w w') (hS : ∀ k, S k → k < base) (hb : base' ≤ base) : AnsA w' base' v v' xs ys :=
  h.imp id fun g => OwnA.down (g.only ho fun k hk hs => absurd (hS k hs) (Nat.not_lt.2 (row_lt g k hk).1)) hb
/-- the reference's step, its own writes behind it -/
theorem LM.lock2 (h : LM w b q l vt d A1 A2 A3 n1 n2 n3) (hb : Below w.heap.size w w') (a1 : Ans w' w.heap.size (.slice A1 20 n1) (.slice B1 20 m1) (zs (Lk.holds d)) (zs (Lk.holds d'))) (a2 : Ans w' w.heap.size (.slice A2 5 n2) (.slice B2 5 m2) (Lk.wantsI d) (Lk.wantsI d'))
    (a3 : AnsA w' w.heap.size (.slice A3 d.acts.length n3) (.slice B3 d'.acts.length m3) (Sch.zacts d.acts) (Sch.zacts d'.acts)) :
    LM ((((w'.setCell ⟨q, 0, none⟩ (.slice B1 20 m1)).setCell ⟨q, 1, none⟩ (.slice B2 5 m2)).setCell ⟨q, 2, none⟩ (nv d'.shr)).setCell ⟨q, 3, none⟩ (.slice B3 d'.acts.length m3)) b q l vt d' B1 B2 B3 m1 m2 m3 := by
  have h1 := h.below hb
  have ho : Only (fun k => k = q) w' ((((w'.setCell ⟨q, 0, none⟩ (.slice B1 20 m1)).setCell ⟨q, 1, none⟩ (.slice B2 5 m2)).setCell ⟨q, 2, none⟩ (nv d'.shr)).setCell ⟨q, 3, none⟩ (.slice B3 d'.acts.length m3)) :=
    ((((Only.refl (fun k => k = q) w').setCell (p := ⟨q, 0, none⟩) (.inl rfl) _).setCell (p := ⟨q, 1, none⟩) (.inl rfl) _).setCell (p := ⟨q, 2, none⟩) (.inl rfl) _).setCell (p := ⟨q, 3, none⟩) (.inl rfl) _
  have hlq := h.lq
  have k0 := h1.c0
  have k1 := h1.c1
  have k2 := h1.c2
  have k3 := h1.c3
  have l0 := h1.f0
  have l1 := h1.f1
  have l2 := h1.f2
  have l3 := h1.f3
  have r1 : Ints w' w'.heap.size (.slice B1 20 m1) (zs (Lk.holds d')) ∧ Sl w' q b vt (.slice B1 20 m1) := by
    rcases a1 with ⟨e1, e2⟩ | g
    · rw [e1, e2]; exact ⟨h1.h1, h1.s1⟩
    · exact ⟨g.ints, fun k hk => ⟨by have := (row_lt g k hk).1; omega, (row_lt g k hk).2, fun hf => by have := (row_lt g k hk).1; have := (h.tab.foot k hf).2; omega⟩⟩
  have r2 : Ints w' w'.heap.size (.slice B2 5 m2) (Lk.wantsI d') ∧ Sl w' q b vt (.slice B2 5 m2) := by
    rcases a2 with ⟨e1, e2⟩ | g
    · rw [e1, e2]; exact ⟨h1.h2, h1.s2⟩
    · exact ⟨g.ints, fun k hk => ⟨by have := (row_lt g k hk).1; omega, (row_lt g k hk).2, fun hf => by have := (row_lt g k hk).1; have := (h.tab.foot k hf).2; omega⟩⟩
  have r3 : Acts w' w'.heap.size (.slice B3 d'.acts.length m3) (Sch.zacts d'.acts) ∧ Sl w' q b vt (.slice B3 d'.acts.length m3) := by
    rcases a3 with ⟨e1, e2⟩ | g
    · rw [e1, e2]; exact ⟨h1.h3, h1.s3⟩
    · exact ⟨g.acts, fun k hk => ⟨by have := (row_lt g k hk).1; omega, (row_lt g k hk).2, fun hf => by have := (row_lt g k hk).1; have := (h.tab.foot k hf).2; omega⟩⟩
  have off {v : Value} (hs : Sl w' q b vt v) : Off (fun k => k = q) v := fun k hk (e : k = q) => by have := (hs k hk).1; omega
  refine ⟨h1.tab.only ho fun k hk (e : k = q) => h.nq (e ▸ hk), Nat.lt_of_lt_of_le h1.lq ho.size, h.nq, ?_, ?_, ?_, ?_, ?_, ?_, ?_, ?_,
    Rd.more (Rd.only r1.1 (Nat.le_refl _) ho (off r1.2)) ho.size, Rd.more (Rd.only r2.1 (Nat.le_refl _) ho (off r2.2)) ho.size, Rd.more (Rd.only r3.1 (Nat.le_refl _) ho (off r3.2)) ho.size, r1.2.size ho.size, r2.2.size ho.size, r3.2.size ho.size⟩
  all_goals simp [go_sem, k0, k1, k2, k3, l0, l1, l2, l3]
end
theorem results_cell1 {fn : Func} {p : Tmp} {ty : TypeId} (h : fn.results = #[.cell p ty]) (tmps : Array Value) (P : Program) (w : World) :
    (results fn tmps).run P w = ((asAddr (tmps.getD p undef)).run P w).andThen fun a w₁ => ((loadVar ty a).run P w₁) := by
  simp only [results, h]
  simp [Sem.run_bind, Result.andThen]
set_option maxRecDepth 20000 in
set_option maxHeartbeats 2000000 in
theorem rnew_calls (w : World) : Calls Tryd.prog 39 #[] w fun e w' =>
    ∃ B1 B2 m1 m2, e = .returned (.agg #[.slice B1 20 m1, .slice B2 5 m2, .int .i64 0, .slice none 0 0]) ∧ Own w' w.heap.size (.slice B1 20 m1) (zs (Lk.holds Lk.l0)) ∧
      (Ints w' w'.heap.size (.slice B2 5 m2) (Lk.wantsI Lk.l0) ∧ ∀ k, (Value.slice B2 5 m2).ownBlock = some k → w.heap.size ≤ k ∧ k < w'.heap.size) ∧ Below w.heap.size w w' := by
  have HH := Lib.hid (show List.replicate 20 0 = zs (Lk.holds Lk.l0) by decide)
  have HWI := Lib.hid (show ([-1, -1, -1, -1, -1] : List Int) = Lk.wantsI Lk.l0 by decide)
  go_enter Tryd.func39, Tryd.ntmps39
  go_wp2_with (at_make; refine make_ints rfl _ _ rfl w.heap.size 20 rfl rfl (by omega) (by simp) ?_; intro w1 hown hb; have g0 : w1.cell? ⟨w.heap.size, 0, none⟩ = some (.slice none 0 0) := (hb.cell (p := ⟨w.heap.size, 0, none⟩) (by simp)).trans (by rw [World.cell?_alloc_new]; rfl); have g1 : w1.cell? ⟨w.heap.size, 1, none⟩ = some (.slice none 0 0) := (hb.cell (p := ⟨w.heap.size, 1, none⟩) (by simp)).trans (by rw [World.cell?_alloc_new]; rfl); have g2 : w1.cell? ⟨w.heap.size, 2, none⟩ = some (.int .i64 0) := (hb.cell (p := ⟨w.heap.size, 2, none⟩) (by simp)).trans (by rw [World.cell?_alloc_new]; rfl); have g3 : w1.cell? ⟨w.heap.size, 3, none⟩ = some (.slice none 0 0) := (hb.cell (p := ⟨w.heap.size, 3, none⟩) (by simp)).trans (by rw [World.cell?_alloc_new]; rfl); have q0 : w1.frozen? ⟨w.heap.size, 0, none⟩ = false := (World.frozen?_of_block (hb.block w.heap.size (by simp))).trans (World.frozen?_alloc_new ..); have q1 : w1.frozen? ⟨w.heap.size, 1, none⟩ = false := (World.frozen?_of_block (hb.block w.heap.size (by simp))).trans (World.frozen?_alloc_new ..); have q2 : w1.frozen? ⟨w.heap.size, 2, none⟩ = false := (World.frozen?_of_block (hb.block w.heap.size (by simp))).trans (World.frozen?_alloc_new ..); have q3 : w1.frozen? ⟨w.heap.size, 3, none⟩ = false := (World.frozen?_of_block (hb.block w.heap.size (by simp))).trans (World.frozen?_alloc_new ..); have hz : w.heap.size + 1 ≤ w1.heap.size := (by have := hb.size; simpa using this); have hB1 : Below w.heap.size w w1 := ((Below.refl w.heap.size w).alloc (Nat.le_refl _) _).trans (hb.mono (by simp)); clear hb; have G0 := fun o : Obj => (((Below.refl w1.heap.size w1).alloc (Nat.le_refl _) o).cell (p := ⟨w.heap.size, 0, none⟩) (by simp only; omega)).trans g0; have G1 := fun o : Obj => (((Below.refl w1.heap.size w1).alloc (Nat.le_refl _) o).cell (p := ⟨w.heap.size, 1, none⟩) (by simp only; omega)).trans g1; have G2 := fun o : Obj => (((Below.refl w1.heap.size w1).alloc (Nat.le_refl _) o).cell (p := ⟨w.heap.size, 2, none⟩) (by simp only; omega)).trans g2; have G3 := fun o : Obj => (((Below.refl w1.heap.size w1).alloc (Nat.le_refl _) o).cell (p := ⟨w.heap.size, 3, none⟩) (by simp only; omega)).trans g3; have Q0 := fun o : Obj => (World.frozen?_of_block (((Below.refl w1.heap.size w1).alloc (Nat.le_refl _) o).block w.heap.size (by omega))).trans q0; have Q1 := fun o : Obj => (World.frozen?_of_block (((Below.refl w1.heap.size w1).alloc (Nat.le_refl _) o).block w.heap.size (by omega))).trans q1; have Q2 := fun o : Obj => (World.frozen?_of_block (((Below.refl w1.heap.size w1).alloc (Nat.le_refl _) o).block w.heap.size (by omega))).trans q2; have Q3 := fun o : Obj => (World.frozen?_of_block (((Below.refl w1.heap.size w1).alloc (Nat.le_refl _) o).block w.heap.size (by omega))).trans q3)
  clear g0 g1 g2 g3 q0 q1 q2 q3
  have H0 := G0 (.cells #[.int .i64 (-1), .int .i64 (-1), .int .i64 (-1), .int .i64 (-1), .int .i64 (-1)] 3)
  have H1 := G1 (.cells #[.int .i64 (-1), .int .i64 (-1), .int .i64 (-1), .int .i64 (-1), .int .i64 (-1)] 3)
  have H2 := G2 (.cells #[.int .i64 (-1), .int .i64 (-1), .int .i64 (-1), .int .i64 (-1), .int .i64 (-1)] 3)
  have H3 := G3 (.cells #[.int .i64 (-1), .int .i64 (-1), .int .i64 (-1), .int .i64 (-1), .int .i64 (-1)] 3)
  have HL := Ints.lit w1 [-1, -1, -1, -1, -1] 3 (by decide)
  have HWS : (w1.alloc (.cells #[.int .i64 (-1), .int .i64 (-1), .int .i64 (-1), .int .i64 (-1), .int .i64 (-1)] 3)).heap.size = w1.heap.size + 1 := by simp
  have HO := hown.alloc (.cells #[.int .i64 (-1), .int .i64 (-1), .int .i64 (-1), .int .i64 (-1), .int .i64 (-1)] 3)
  have HB := hB1.alloc (by omega) (.cells #[.int .i64 (-1), .int .i64 (-1), .int .i64 (-1), .int .i64 (-1), .int .i64 (-1)] 3)
  replace HL : Ints (w1.alloc (.cells #[.int .i64 (-1), .int .i64 (-1), .int .i64 (-1), .int .i64 (-1), .int .i64 (-1)] 3)) (w1.heap.size + 1) (.slice (some ⟨w1.heap.size, 0, none⟩) 5 5) [-1, -1, -1, -1, -1] := HL
  rw [← HWS, HWI.out] at HL
  generalize w1.alloc _ = W at *
  clear G0 G1 G2 G3 Q0 Q1 Q2 Q3
  have ho := ((((Only.refl (fun j => j = w.heap.size) W).setCell (p := ⟨w.heap.size, 0, none⟩) (.inl rfl) (.slice (some ⟨w.heap.size + 1, 0, none⟩) 20 20)).setCell (p := ⟨w.heap.size, 1, none⟩) (.inl rfl) (.slice (some ⟨w1.heap.size, 0, none⟩) 5 5)).setCell (p := ⟨w.heap.size, 2, none⟩) (.inl rfl) (.int .i64 0)).setCell (p := ⟨w.heap.size, 3, none⟩) (.inl rfl) (.slice none 0 0)
  (try simp only [Exit.inBlock, Exit.then])
  refine bodyPost_ret ((results_cell1 rfl _ _ _).trans (by simp [go_sem, H0, H1, H2, H3]; rfl)) rfl ?_
  refine ⟨_, _, _, _, rfl, ?_, ⟨?_, ?_⟩, (((HB.setCell (p := ⟨w.heap.size, 0, none⟩) (Nat.le_refl _) _).setCell (p := ⟨w.heap.size, 1, none⟩) (Nat.le_refl _) _).setCell (p := ⟨w.heap.size, 2, none⟩) (Nat.le_refl _) _).setCell (p := ⟨w.heap.size, 3, none⟩) (Nat.le_refl _) _⟩
  · rw [← HH.out]
    have hl : Own W w.heap.size (.slice (some ⟨w.heap.size + 1, 0, none⟩) 20 20) (List.replicate 20 0) := by
      have h := HO
      rw [show ∀ o : Obj, (w.alloc o).heap.size = w.heap.size + 1 from fun o => by simp] at h
      exact h
    exact hl.only ho (fun k hk (e : k = w.heap.size) => by cases hk; have e' : w.heap.size + 1 = w.heap.size := e; omega)
  · exact Rd.more (Rd.only HL (Nat.le_refl _) ho (fun k hk (e : k = w.heap.size) => by cases hk; have e' : w1.heap.size = w.heap.size := e; omega)) ho.size
  · intro k hk
    cases hk
    exact ⟨show w.heap.size ≤ w1.heap.size by omega, Nat.lt_of_lt_of_le (show w1.heap.size < W.heap.size by omega) ho.size⟩
theorem perrorw (c : Nat) (w : World) (hg : ErrTy w) : Calls Tryd.prog 20 #[errv c, nv c] w fun e w' => e = .returned (.bool true) ∧ Below w.heap.size w w' := by
  have h := error_calls c (c : Int) w hg
  rw [decide_eq_true rfl] at h
  exact h
/-- the reference's step, told as a slice of each kind -/
theorem rlock_s (l : Lk.L) (d : Deed4) (A1 A2 A3 : Option Addr) (n1 n2 n3 : Nat) (w : World) (hI : Lk.Inv l) (hr : Ints w w.heap.size (.slice A1 20 n1) (zs (Lk.holds l))) (hu : Ints w w.heap.size (.slice A2 5 n2) (Lk.wantsI l)) (ha : Acts w w.heap.size (.slice A3 l.acts.length n3) (Sch.zacts l.acts)) :
    Calls Tryd.prog 40 #[.agg #[.slice A1 20 n1, .slice A2 5 n2, nv l.shr, .slice A3 l.acts.length n3], .agg #[iv d.1, iv d.2.1, iv d.2.2.1, iv d.2.2.2]] w fun e w' =>
      ∃ B1 B2 B3 m1 m2 m3, e = .returned (.tuple #[.agg #[.slice B1 20 m1, .slice B2 5 m2, nv (lstepI l d).1.shr, .slice B3 (lstepI l d).1.acts.length m3], nv (lstepI l d).2]) ∧
    Ans w' w.heap.size (.slice A1 20 n1) (.slice B1 20 m1) (zs (Lk.holds l)) (zs (Lk.holds (lstepI l d).1)) ∧ Ans w' w.heap.size (.slice A2 5 n2) (.slice B2 5 m2) (Lk.wantsI l) (Lk.wantsI (lstepI l d).1) ∧
    AnsA w' w.heap.size (.slice A3 l.acts.length n3) (.slice B3 (lstepI l d).1.acts.length m3) (Sch.zacts l.acts) (Sch.zacts (lstepI l d).1.acts) ∧ Below w.heap.size w w' := rlock_calls l d A1 A2 A3 n1 n2 n3 w hI hr hu ha
set_option maxRecDepth 20000 in
set_option maxHeartbeats 16000000 in
theorem lplays_ok (s : List Deed4) (v : Value) (w : World) (hr : Deeds w w.heap.size v s) (hE : ErrTy w) :
    Calls Tryd.prog 10 #[v] w fun e w' => e = .returned (.bool true) ∧ Below w.heap.size w w' := by
  have HR := Lib.hid hr
  have HE := Lib.hid hE
  obtain ⟨A, cap, rfl⟩ := Rd.val hr
  have hn := Lib.hid (lnew_calls w)
  clear hr hE
  go_enter Tryd.func10, Tryd.ntmps10
  go_wp2_with fail
  (with_reducible refine hn.out.mono ?_)
  rintro e w2 ⟨rfl, hg2, hb2⟩
  have hn2 := Lib.hid (rnew_calls w2)
  go_wp2_with fail
  (with_reducible refine hn2.out.mono ?_)
  rintro e w3 ⟨B1, B2, m1, m2, rfl, ho1, ⟨hi2, hs2⟩, hb3⟩
  have hs23 := hb3.size
  have hw2 : w.heap.size < w2.heap.size := hg2.1.lt
  have HQ := Lib.hid (show w.heap.size ≤ w3.heap.size by omega)
  have hg3 := hg2.only (Only.of_below hb3 (Nat.le_refl _) (fun _ => False)) (fun _ _ h => h)
  have HB0 := Lib.hid ((hb2.trans (hb3.mono hb2.size)).alloc (by omega) (.cells #[.slice B1 20 m1, .slice B2 5 m2, .int .i64 0, .slice none 0 0] 62))
  have HM0 := Lib.hid (show LM (w3.alloc (.cells #[.slice B1 20 m1, .slice B2 5 m2, .int .i64 0, .slice none 0 0] 62)) w.heap.size w3.heap.size Lk.l0 (.slice none 0 0) Lk.l0 B1 B2 none m1 m2 0 from
    ⟨hg3.alloc _, by simp, fun hk => by (have := (hg2.foot _ hk).2; omega), by rw [World.cell?_alloc_new]; rfl, by rw [World.cell?_alloc_new]; rfl, by rw [World.cell?_alloc_new]; rfl, by rw [World.cell?_alloc_new]; rfl,
      World.frozen?_alloc_new .., World.frozen?_alloc_new .., World.frozen?_alloc_new .., World.frozen?_alloc_new .., Rd.more (Rd.alloc ho1.ints (Nat.le_refl _) _) (by simp), Rd.more (Rd.alloc hi2 (Nat.le_refl _) _) (by simp), (OwnA.nil _ 0).acts,
      fun k hk => ⟨by (have := (row_lt ho1 k hk).2; omega), by (have := (row_lt ho1 k hk).2; simp; omega), fun hf => by (have := (row_lt ho1 k hk).1; have := (hg2.foot k hf).2; omega)⟩,
      fun k hk => ⟨by (have := (hs2 k hk).2; omega), by (have := (hs2 k hk).2; simp; omega), fun hf => by (have := (hs2 k hk).1; have := (hg2.foot k hf).2; omega)⟩, fun k hk => by cases hk⟩)
  clear hn hn2 hg2 hb2 ho1 hi2 hs2 hb3 hg3 hs23 hw2
  go_wp2_with fail
  go_loopw [5] (fun i wr => ∃ (k : Nat) (l : Lk.L) (vt : Value) (A1 A2 A3 : Option Addr) (n1 n2 n3 : Nat), k ≤ s.length ∧ i = nv k ∧ Hid (Lk.Inv l) ∧ Hid (LM wr w.heap.size w3.heap.size l vt l A1 A2 A3 n1 n2 n3) ∧ Hid (Below w.heap.size w wr)) (fun i _ => s.length - (intOf i).toNat)
  case atStart => exact ⟨0, Lk.l0, _, _, _, _, _, _, _, Nat.zero_le _, rfl, Lib.hid Lk.inv0, HM0, HB0⟩
  case round =>
    clear HM0 HB0
    obtain ⟨k, l, vt, A1, A2, A3, n1, n2, n3, hk, rfl, hinv, hm, hb⟩ := hrel
    have hsz := hb.out.size
    by_cases hkl : k < s.length ∧ k < 80
    · obtain ⟨hk1, hk2⟩ := hkl
      obtain ⟨b1, off, cap', he, hbb, d0, d1, d2, d3⟩ := Deeds.at_ (Rd.below HR.out hb.out) hk1
      cases he
      generalize hsk : s[k] = a at *
      clear hsk
      have hp := Lib.hid fun (w5 : World) (h5 : Below wr.heap.size wr w5) => rlock_s l a A1 A2 A3 n1 n2 n3 w5 hinv.out (hm.out.below h5).h1 (hm.out.below h5).h2 (hm.out.below h5).h3
      have hI := Lib.hid (Lk.Inv.stepI hinv.out a)
      have hac := Lib.hid hI.out.2.2.2.2.2.2.1
      have hdo := Lib.hid fun (w5 : World) (h5 : TabAt w5 w.heap.size l vt) => ldo_calls l a w.heap.size vt w5 h5 hinv.out
      obtain ⟨x, y, z, u⟩ := a
      simp only at d0 d1 d2 d3 hp hdo
      generalize (lstepI l (x, y, z, u)).2 = c at *
      generalize (lstepI l (x, y, z, u)).1 = l' at *
      obtain ⟨_, hq, _, c0, c1, c2, c3, f0, f1, f2, f3, _, _, _, _, _, _⟩ := hm.out
      have hbw : b1 < wr.heap.size := by omega
      have HBX := Lib.hid hb.out
      have HM := Lib.hid hm.out
      have HSZ := Lib.hid hsz
      clear hm hb
      generalize w3.heap.size = q at *
      go_wp2_with fail
      go_region_held3 (fun w' => w'.cell? ⟨q, 0, none⟩ = some (.slice A1 20 n1) ∧ w'.cell? ⟨q, 1, none⟩ = some (.slice A2 5 n2) ∧ w'.cell? ⟨q, 2, none⟩ = some (nv l.shr) ∧ w'.cell? ⟨q, 3, none⟩ = some (.slice A3 l.acts.length n3) ∧ w'.cell? ⟨b1, off + k * 4, none⟩ = some (.int .i64 x) ∧ w'.cell? ⟨b1, off + k * 4 + 1, none⟩ = some (.int .i64 y) ∧ w'.cell? ⟨b1, off + k * 4 + 2, none⟩ = some (.int .i64 z) ∧ w'.cell? ⟨b1, off + k * 4 + 3, none⟩ = some (.int .i64 u) ∧ Below wr.heap.size wr w')
        (first | exact ⟨c0, c1, c2, c3, d0, d1, d2, d3, (Below.refl _ _).drew⟩ | (refine ⟨(Below.cell (w := wr) (B := wr.heap.size) ?_ hq).trans c0, (Below.cell (w := wr) (B := wr.heap.size) ?_ hq).trans c1, (Below.cell (w := wr) (B := wr.heap.size) ?_ hq).trans c2, (Below.cell (w := wr) (B := wr.heap.size) ?_ hq).trans c3, (Below.cell (w := wr) (B := wr.heap.size) ?_ hbw).trans d0, (Below.cell (w := wr) (B := wr.heap.size) ?_ hbw).trans d1, (Below.cell (w := wr) (B := wr.heap.size) ?_ hbw).trans d2, (Below.cell (w := wr) (B := wr.heap.size) ?_ hbw).trans d3, ?_⟩ <;> go_grown))
        (first | (go_at_call 40; refine (hp.out wr.drew (Below.refl _ _).drew).mono ?_; rintro e w1 ⟨B1, B2, B3, m1, m2, m3, rfl, r1, r2, r3, hbl⟩; have hbz : Below wr.heap.size wr w1 := (Below.refl _ _).drew.trans hbl; have hsz1 : wr.heap.size ≤ w1.heap.size := hbz.size) | (go_at_call 40; refine (hp.out (wr.drew.alloc (.cells #[.slice none 0 0, .slice none 0 0, .int .i64 0, .slice none 0 0] 62)) ((Below.refl _ _).drew.alloc (Nat.le_refl _) _)).mono ?_; rintro e w1 ⟨B1, B2, B3, m1, m2, m3, rfl, r1, r2, r3, hbl⟩; have hbz : Below wr.heap.size wr w1 := ((Below.refl wr.heap.size wr).drew.alloc (Nat.le_refl _) _).trans (hbl.mono (by simp)); have hsz1 : wr.heap.size ≤ w1.heap.size := hbz.size; have y0 : w1.cell? ⟨wr.heap.size, 0, none⟩ = some (.slice none 0 0) := (hbl.cell (p := ⟨wr.heap.size, 0, none⟩) (by simp)).trans (by rw [show wr.heap.size = wr.drew.heap.size from rfl, World.cell?_alloc_new]; rfl); have y1 : w1.cell? ⟨wr.heap.size, 1, none⟩ = some (.slice none 0 0) := (hbl.cell (p := ⟨wr.heap.size, 1, none⟩) (by simp)).trans (by rw [show wr.heap.size = wr.drew.heap.size from rfl, World.cell?_alloc_new]; rfl); have y2 : w1.cell? ⟨wr.heap.size, 2, none⟩ = some (.int .i64 0) := (hbl.cell (p := ⟨wr.heap.size, 2, none⟩) (by simp)).trans (by rw [show wr.heap.size = wr.drew.heap.size from rfl, World.cell?_alloc_new]; rfl); have y3 : w1.cell? ⟨wr.heap.size, 3, none⟩ = some (.slice none 0 0) := (hbl.cell (p := ⟨wr.heap.size, 3, none⟩) (by simp)).trans (by rw [show wr.heap.size = wr.drew.heap.size from rfl, World.cell?_alloc_new]; rfl); have z0 : w1.frozen? ⟨wr.heap.size, 0, none⟩ = false := (World.frozen?_of_block (hbl.block wr.heap.size (by simp))).trans (World.frozen?_alloc_new ..); have z1 : w1.frozen? ⟨wr.heap.size, 1, none⟩ = false := (World.frozen?_of_block (hbl.block wr.heap.size (by simp))).trans (World.frozen?_alloc_new ..); have z2 : w1.frozen? ⟨wr.heap.size, 2, none⟩ = false := (World.frozen?_of_block (hbl.block wr.heap.size (by simp))).trans (World.frozen?_alloc_new ..); have z3 : w1.frozen? ⟨wr.heap.size, 3, none⟩ = false := (World.frozen?_of_block (hbl.block wr.heap.size (by simp))).trans (World.frozen?_alloc_new ..); have hY := Lib.hid hbl))
      · skip
        have hbW : Below wr.heap.size wr (w1.alloc (.cells #[.slice B1 20 m1, .slice B2 5 m2, .int .i64 (l'.shr : Int), .slice B3 l'.acts.length m3] 62)) := hbz.alloc hsz1 _
        have HSS : ∀ j, (fun _ : Nat => False) j → j < wr.heap.size := fun _ h => h.elim
        have q1 : Ans (w1.alloc (.cells #[.slice B1 20 m1, .slice B2 5 m2, .int .i64 (l'.shr : Int), .slice B3 l'.acts.length m3] 62)) wr.heap.size (.slice A1 20 n1) (.slice B1 20 m1) (zs (Lk.holds l)) (zs (Lk.holds l')) := r1.only ((Only.refl (fun _ => False) w1).alloc _) HSS (by simp)
        have q2 : Ans (w1.alloc (.cells #[.slice B1 20 m1, .slice B2 5 m2, .int .i64 (l'.shr : Int), .slice B3 l'.acts.length m3] 62)) wr.heap.size (.slice A2 5 n2) (.slice B2 5 m2) (Lk.wantsI l) (Lk.wantsI l') := r2.only ((Only.refl (fun _ => False) w1).alloc _) HSS (by simp)
        have q3 : AnsA (w1.alloc (.cells #[.slice B1 20 m1, .slice B2 5 m2, .int .i64 (l'.shr : Int), .slice B3 l'.acts.length m3] 62)) wr.heap.size (.slice A3 l.acts.length n3) (.slice B3 l'.acts.length m3) (Sch.zacts l.acts) (Sch.zacts l'.acts) := r3.only ((Only.refl (fun _ => False) w1).alloc _) HSS (by simp)
        have x0 : (w1.alloc (.cells #[.slice B1 20 m1, .slice B2 5 m2, .int .i64 (l'.shr : Int), .slice B3 l'.acts.length m3] 62)).cell? ⟨w1.heap.size, 0, none⟩ = some (.slice B1 20 m1) := by rw [World.cell?_alloc_new]; rfl
        have x1 : (w1.alloc (.cells #[.slice B1 20 m1, .slice B2 5 m2, .int .i64 (l'.shr : Int), .slice B3 l'.acts.length m3] 62)).cell? ⟨w1.heap.size, 1, none⟩ = some (.slice B2 5 m2) := by rw [World.cell?_alloc_new]; rfl
        have x2 : (w1.alloc (.cells #[.slice B1 20 m1, .slice B2 5 m2, .int .i64 (l'.shr : Int), .slice B3 l'.acts.length m3] 62)).cell? ⟨w1.heap.size, 2, none⟩ = some (.int .i64 (l'.shr : Int)) := by rw [World.cell?_alloc_new]; rfl
        have x3 : (w1.alloc (.cells #[.slice B1 20 m1, .slice B2 5 m2, .int .i64 (l'.shr : Int), .slice B3 l'.acts.length m3] 62)).cell? ⟨w1.heap.size, 3, none⟩ = some (.slice B3 l'.acts.length m3) := by rw [World.cell?_alloc_new]; rfl
        clear r1 r2 r3 hbl hbz HSS
        generalize w1.heap.size = yb at *
        generalize w1.alloc _ = WW at *
        have HM1 := Lib.hid (HM.out.below hbW)
        have HM7 := Lib.hid (HM.out.lock2 hbW q1 q2 q3)
        have hb6 := Lib.hid (HBX.out.trans (hbW.mono HSZ.out))
        clear q1 q2 q3 c0 c1 c2 c3 f0 f1 f2 f3
        obtain ⟨_, _, _, c0, c1, c2, c3, f0, f1, f2, f3, _, _, _, _, _, _⟩ := HM1.out
        have hne : ∀ j j', (⟨q, j, none⟩ : Addr) ≠ ⟨b1, j', none⟩ := fun j j' e => by
          have h1 : q = b1 := congrArg Addr.block e
          have := HQ.out
          omega
        have e0 : ((((WW.setCell ⟨q, 0, none⟩ (.slice B1 20 m1)).setCell ⟨q, 1, none⟩ (.slice B2 5 m2)).setCell ⟨q, 2, none⟩ (.int .i64 (l'.shr : Int))).setCell ⟨q, 3, none⟩ (.slice B3 l'.acts.length m3)).cell? ⟨b1, off + k * 4, none⟩ = some (.int .i64 x) := by rw [World.cell?_setCell_other (h := hne _ _), World.cell?_setCell_other (h := hne _ _), World.cell?_setCell_other (h := hne _ _), World.cell?_setCell_other (h := hne _ _)]; exact (hbW.cell hbw).trans d0
        have e1 : ((((WW.setCell ⟨q, 0, none⟩ (.slice B1 20 m1)).setCell ⟨q, 1, none⟩ (.slice B2 5 m2)).setCell ⟨q, 2, none⟩ (.int .i64 (l'.shr : Int))).setCell ⟨q, 3, none⟩ (.slice B3 l'.acts.length m3)).cell? ⟨b1, off + k * 4 + 1, none⟩ = some (.int .i64 y) := by rw [World.cell?_setCell_other (h := hne _ _), World.cell?_setCell_other (h := hne _ _), World.cell?_setCell_other (h := hne _ _), World.cell?_setCell_other (h := hne _ _)]; exact (hbW.cell hbw).trans d1
        have e2 : ((((WW.setCell ⟨q, 0, none⟩ (.slice B1 20 m1)).setCell ⟨q, 1, none⟩ (.slice B2 5 m2)).setCell ⟨q, 2, none⟩ (.int .i64 (l'.shr : Int))).setCell ⟨q, 3, none⟩ (.slice B3 l'.acts.length m3)).cell? ⟨b1, off + k * 4 + 2, none⟩ = some (.int .i64 z) := by rw [World.cell?_setCell_other (h := hne _ _), World.cell?_setCell_other (h := hne _ _), World.cell?_setCell_other (h := hne _ _), World.cell?_setCell_other (h := hne _ _)]; exact (hbW.cell hbw).trans d2
        have e3 : ((((WW.setCell ⟨q, 0, none⟩ (.slice B1 20 m1)).setCell ⟨q, 1, none⟩ (.slice B2 5 m2)).setCell ⟨q, 2, none⟩ (.int .i64 (l'.shr : Int))).setCell ⟨q, 3, none⟩ (.slice B3 l'.acts.length m3)).cell? ⟨b1, off + k * 4 + 3, none⟩ = some (.int .i64 u) := by rw [World.cell?_setCell_other (h := hne _ _), World.cell?_setCell_other (h := hne _ _), World.cell?_setCell_other (h := hne _ _), World.cell?_setCell_other (h := hne _ _)]; exact (hbW.cell hbw).trans d3
        have hb7 := Lib.hid ((((hb6.out.setCell (p := ⟨q, 0, none⟩) HQ.out (.slice B1 20 m1)).setCell (p := ⟨q, 1, none⟩) HQ.out (.slice B2 5 m2)).setCell (p := ⟨q, 2, none⟩) HQ.out (nv l'.shr)).setCell (p := ⟨q, 3, none⟩) HQ.out (.slice B3 l'.acts.length m3))
        clear hne hbW d0 d1 d2 d3
        go_wp2_with fail
        (with_reducible refine (hdo.out _ HM7.out.tab).mono ?_)
        rintro e w8 ⟨rfl, ht⟩
        obtain ⟨vt', hm8⟩ := HM7.out.did ht
        have HB8 := Lib.hid (ht.below hb7.out HM7.out.tab (Nat.le_refl _))
        have her := Lib.hid (perrorw c w8 (HE.out.below HB8.out))
        have HM8 := Lib.hid hm8
        clear ht hm8 HM7 hb7 hb6 HM1 hdo hp HM HBX HSZ e0 e1 e2 e3 c0 c1 c2 c3 f0 f1 f2 f3 x0 x1 x2 x3
        generalize errv c = ev at *
        go_wp2_with fail
        (with_reducible refine her.out.mono ?_)
        rintro e w9 ⟨rfl, hb9⟩
        have HM9 := Lib.hid (HM8.out.below hb9)
        have HB9 := Lib.hid (HB8.out.trans (hb9.mono HB8.out.size))
        clear her hb9 HM8 HB8
        have hga := Lib.hid fun (w5 : World) (h5 : Below w9.heap.size w9 w5) => lacts_calls l' w.heap.size vt' w5 (HM9.out.below h5).tab hac.out
        have heq := Lib.hid fun (v5 : Value) (w5 : World) (bb : Nat) (ho : OwnA w5 bb v5 (Sch.zacts l'.acts)) (h5 : Below w9.heap.size w9 w5) => acts_eq_calls v5 (.slice B3 l'.acts.length m3) l'.acts l'.acts w5.heap.size w5 (Nat.le_refl _) ho.acts (HM9.out.below h5).h3
        simp only [decide_true] at heq
        have hwa := Lib.hid fun (w5 : World) (h5 : Below w9.heap.size w9 w5) => waits_calls l' w.heap.size vt' w5 (HM9.out.below h5).tab hI.out
        have hrw := Lib.hid fun (w5 : World) (h5 : Below w9.heap.size w9 w5) => rwaits_calls l' (.slice B1 20 m1) (.slice B2 5 m2) (.slice B3 l'.acts.length m3) w5.heap.size w5 (Nat.le_refl _) hI.out (HM9.out.below h5).h1 (HM9.out.below h5).h2
        have hin := Lib.hid fun (v5 v6 : Value) (w5 : World) (h5 : Ints w5 w5.heap.size v5 (zs (Lk.waits l'))) (h6 : Ints w5 w5.heap.size v6 (zs (Lk.waits l'))) => ints_calls v5 v6 _ _ w5.heap.size w5 (Nat.le_refl _) h5 h6
        simp only [decide_true] at hin
        have hst := Lib.hid fun (w5 : World) (h5 : Below w9.heap.size w9 w5) => stuck_calls l' w.heap.size vt' w5 (HM9.out.below h5).tab hI.out
        have hrs := Lib.hid fun (w5 : World) (h5 : Below w9.heap.size w9 w5) => rstuck_calls l' (.slice B1 20 m1) (.slice B2 5 m2) (.slice B3 l'.acts.length m3) w5.heap.size w5 (Nat.le_refl _) hI.out (HM9.out.below h5).h1 (HM9.out.below h5).h2
        obtain ⟨_, hq9, _, c0, c1, c2, c3, _, _, _, _, _, _, _, _, _, _⟩ := HM9.out
        generalize Lk.stuck l' = sk at *
        have tss : ((sk : Int) != (sk : Int)) = false := by simp
        go_wp2_with fail
        go_region_held3 (fun w' => w'.cell? ⟨q, 0, none⟩ = some (.slice B1 20 m1) ∧ w'.cell? ⟨q, 1, none⟩ = some (.slice B2 5 m2) ∧ w'.cell? ⟨q, 2, none⟩ = some (nv l'.shr) ∧ w'.cell? ⟨q, 3, none⟩ = some (.slice B3 l'.acts.length m3) ∧ Below w9.heap.size w9 w')
          (first | exact ⟨c0, c1, c2, c3, (Below.refl _ _).drew⟩ | (refine ⟨(Below.cell (w := w9) (B := w9.heap.size) ?_ hq9).trans c0, (Below.cell (w := w9) (B := w9.heap.size) ?_ hq9).trans c1, (Below.cell (w := w9) (B := w9.heap.size) ?_ hq9).trans c2, (Below.cell (w := w9) (B := w9.heap.size) ?_ hq9).trans c3, ?_⟩ <;> go_grown))
          (first | (go_at_call 35; refine (hga.out w9.drew (Below.refl _ _).drew).mono ?_; rintro e w10 ⟨v5, rfl, ho5, hbl10⟩; have hb10 : Below w9.heap.size w9 w10 := (Below.refl _ _).drew.trans hbl10) | (go_at_call 21; refine (heq.out v5 w10 _ ho5 hb10).mono ?_; rintro e w11 ⟨rfl, hbl11⟩; have hb11 : Below w9.heap.size w9 w11 := hb10.trans (hbl11.mono hb10.size)) | (go_at_call 37; refine (hwa.out w11 hb11).mono ?_; rintro e w12 ⟨v7, rfl, ho7, hbl12⟩; have hb12 : Below w9.heap.size w9 w12 := hb11.trans (hbl12.mono hb11.size)) | (go_at_call 42; refine (hrw.out w12 hb12).mono ?_; rintro e w13 ⟨v8, rfl, ho8, hbl13⟩; have hb13 : Below w9.heap.size w9 w13 := hb12.trans (hbl13.mono hb12.size); have hi7 := (ho7.kept hbl13).ints; have hi8 := ho8.ints) | (go_at_call 41; refine (hin.out v7 v8 w13 hi7 hi8).mono ?_; rintro e w14 ⟨rfl, hbl14⟩; have hb14 : Below w9.heap.size w9 w14 := hb13.trans (hbl14.mono hb13.size)) | (go_at_call 36; refine (hst.out w14 hb14).mono ?_; rintro e w15 ⟨rfl, hbl15⟩; have hb15 : Below w9.heap.size w9 w15 := hb14.trans (hbl15.mono hb14.size)) | (go_at_call 43; refine (hrs.out w15 hb15).mono ?_; rintro e w16 ⟨rfl, hbl16⟩; have hb16 : Below w9.heap.size w9 w16 := hb15.trans (hbl16.mono hb15.size)))
        have HM16 := Lib.hid (HM9.out.below hb16)
        have HB16 := Lib.hid (HB9.out.trans (hb16.mono HB9.out.size))
        clear hga heq hwa hrw hin hst hrs
        go_wp2_with fail
        go_roundw
        case rel => exact ⟨k + 1, l', vt', _, _, _, _, _, _, by omega, by go_num, hI, HM16, HB16⟩
        case measure => simp [intOf]; omega
      · skip
        have hbW : Below wr.heap.size wr ((((w1.setCell ⟨wr.heap.size, 0, none⟩ (.slice B1 20 m1)).setCell ⟨wr.heap.size, 1, none⟩ (.slice B2 5 m2)).setCell ⟨wr.heap.size, 2, none⟩ (.int .i64 (l'.shr : Int))).setCell ⟨wr.heap.size, 3, none⟩ (.slice B3 l'.acts.length m3)) := (((hbz.setCell (p := ⟨wr.heap.size, 0, none⟩) (Nat.le_refl _) _).setCell (p := ⟨wr.heap.size, 1, none⟩) (Nat.le_refl _) _).setCell (p := ⟨wr.heap.size, 2, none⟩) (Nat.le_refl _) _).setCell (p := ⟨wr.heap.size, 3, none⟩) (Nat.le_refl _) _
        have HSS : ∀ j, (fun j : Nat => j = wr.heap.size) j → j < (wr.drew.alloc (.cells #[.slice none 0 0, .slice none 0 0, .int .i64 0, .slice none 0 0] 62)).heap.size := fun j (e : j = wr.heap.size) => by simp; omega
        have q1 : Ans ((((w1.setCell ⟨wr.heap.size, 0, none⟩ (.slice B1 20 m1)).setCell ⟨wr.heap.size, 1, none⟩ (.slice B2 5 m2)).setCell ⟨wr.heap.size, 2, none⟩ (.int .i64 (l'.shr : Int))).setCell ⟨wr.heap.size, 3, none⟩ (.slice B3 l'.acts.length m3)) wr.heap.size (.slice A1 20 n1) (.slice B1 20 m1) (zs (Lk.holds l)) (zs (Lk.holds l')) := r1.only (((((Only.refl (fun j => j = wr.heap.size) w1).setCell (p := ⟨wr.heap.size, 0, none⟩) (.inl rfl) _).setCell (p := ⟨wr.heap.size, 1, none⟩) (.inl rfl) _).setCell (p := ⟨wr.heap.size, 2, none⟩) (.inl rfl) _).setCell (p := ⟨wr.heap.size, 3, none⟩) (.inl rfl) _) HSS (by simp)
        have q2 : Ans ((((w1.setCell ⟨wr.heap.size, 0, none⟩ (.slice B1 20 m1)).setCell ⟨wr.heap.size, 1, none⟩ (.slice B2 5 m2)).setCell ⟨wr.heap.size, 2, none⟩ (.int .i64 (l'.shr : Int))).setCell ⟨wr.heap.size, 3, none⟩ (.slice B3 l'.acts.length m3)) wr.heap.size (.slice A2 5 n2) (.slice B2 5 m2) (Lk.wantsI l) (Lk.wantsI l') := r2.only (((((Only.refl (fun j => j = wr.heap.size) w1).setCell (p := ⟨wr.heap.size, 0, none⟩) (.inl rfl) _).setCell (p := ⟨wr.heap.size, 1, none⟩) (.inl rfl) _).setCell (p := ⟨wr.heap.size, 2, none⟩) (.inl rfl) _).setCell (p := ⟨wr.heap.size, 3, none⟩) (.inl rfl) _) HSS (by simp)
        have q3 : AnsA ((((w1.setCell ⟨wr.heap.size, 0, none⟩ (.slice B1 20 m1)).setCell ⟨wr.heap.size, 1, none⟩ (.slice B2 5 m2)).setCell ⟨wr.heap.size, 2, none⟩ (.int .i64 (l'.shr : Int))).setCell ⟨wr.heap.size, 3, none⟩ (.slice B3 l'.acts.length m3)) wr.heap.size (.slice A3 l.acts.length n3) (.slice B3 l'.acts.length m3) (Sch.zacts l.acts) (Sch.zacts l'.acts) := r3.only (((((Only.refl (fun j => j = wr.heap.size) w1).setCell (p := ⟨wr.heap.size, 0, none⟩) (.inl rfl) _).setCell (p := ⟨wr.heap.size, 1, none⟩) (.inl rfl) _).setCell (p := ⟨wr.heap.size, 2, none⟩) (.inl rfl) _).setCell (p := ⟨wr.heap.size, 3, none⟩) (.inl rfl) _) HSS (by simp)
        have x0 : ((((w1.setCell ⟨wr.heap.size, 0, none⟩ (.slice B1 20 m1)).setCell ⟨wr.heap.size, 1, none⟩ (.slice B2 5 m2)).setCell ⟨wr.heap.size, 2, none⟩ (.int .i64 (l'.shr : Int))).setCell ⟨wr.heap.size, 3, none⟩ (.slice B3 l'.acts.length m3)).cell? ⟨wr.heap.size, 0, none⟩ = some (.slice B1 20 m1) := by simp [go_sem, y0]
        have x1 : ((((w1.setCell ⟨wr.heap.size, 0, none⟩ (.slice B1 20 m1)).setCell ⟨wr.heap.size, 1, none⟩ (.slice B2 5 m2)).setCell ⟨wr.heap.size, 2, none⟩ (.int .i64 (l'.shr : Int))).setCell ⟨wr.heap.size, 3, none⟩ (.slice B3 l'.acts.length m3)).cell? ⟨wr.heap.size, 1, none⟩ = some (.slice B2 5 m2) := by simp [go_sem, y1]
        have x2 : ((((w1.setCell ⟨wr.heap.size, 0, none⟩ (.slice B1 20 m1)).setCell ⟨wr.heap.size, 1, none⟩ (.slice B2 5 m2)).setCell ⟨wr.heap.size, 2, none⟩ (.int .i64 (l'.shr : Int))).setCell ⟨wr.heap.size, 3, none⟩ (.slice B3 l'.acts.length m3)).cell? ⟨wr.heap.size, 2, none⟩ = some (.int .i64 (l'.shr : Int)) := by simp [go_sem, y2]
        have x3 : ((((w1.setCell ⟨wr.heap.size, 0, none⟩ (.slice B1 20 m1)).setCell ⟨wr.heap.size, 1, none⟩ (.slice B2 5 m2)).setCell ⟨wr.heap.size, 2, none⟩ (.int .i64 (l'.shr : Int))).setCell ⟨wr.heap.size, 3, none⟩ (.slice B3 l'.acts.length m3)).cell? ⟨wr.heap.size, 3, none⟩ = some (.slice B3 l'.acts.length m3) := by simp [go_sem, y3]
        clear r1 r2 r3 hbl hbz HSS y0 y1 y2 y3 z0 z1 z2 z3 hY
        generalize hWW : ((((w1.setCell ⟨wr.heap.size, 0, none⟩ (.slice B1 20 m1)).setCell ⟨wr.heap.size, 1, none⟩ (.slice B2 5 m2)).setCell ⟨wr.heap.size, 2, none⟩ (.int .i64 (l'.shr : Int))).setCell ⟨wr.heap.size, 3, none⟩ (.slice B3 l'.acts.length m3)) = WW at *
        clear hWW
        have HM1 := Lib.hid (HM.out.below hbW)
        have HM7 := Lib.hid (HM.out.lock2 hbW q1 q2 q3)
        have hb6 := Lib.hid (HBX.out.trans (hbW.mono HSZ.out))
        clear q1 q2 q3 c0 c1 c2 c3 f0 f1 f2 f3
        obtain ⟨_, _, _, c0, c1, c2, c3, f0, f1, f2, f3, _, _, _, _, _, _⟩ := HM1.out
        have hne : ∀ j j', (⟨q, j, none⟩ : Addr) ≠ ⟨b1, j', none⟩ := fun j j' e => by
          have h1 : q = b1 := congrArg Addr.block e
          have := HQ.out
          omega
        have e0 : ((((WW.setCell ⟨q, 0, none⟩ (.slice B1 20 m1)).setCell ⟨q, 1, none⟩ (.slice B2 5 m2)).setCell ⟨q, 2, none⟩ (.int .i64 (l'.shr : Int))).setCell ⟨q, 3, none⟩ (.slice B3 l'.acts.length m3)).cell? ⟨b1, off + k * 4, none⟩ = some (.int .i64 x) := by rw [World.cell?_setCell_other (h := hne _ _), World.cell?_setCell_other (h := hne _ _), World.cell?_setCell_other (h := hne _ _), World.cell?_setCell_other (h := hne _ _)]; exact (hbW.cell hbw).trans d0
        have e1 : ((((WW.setCell ⟨q, 0, none⟩ (.slice B1 20 m1)).setCell ⟨q, 1, none⟩ (.slice B2 5 m2)).setCell ⟨q, 2, none⟩ (.int .i64 (l'.shr : Int))).setCell ⟨q, 3, none⟩ (.slice B3 l'.acts.length m3)).cell? ⟨b1, off + k * 4 + 1, none⟩ = some (.int .i64 y) := by rw [World.cell?_setCell_other (h := hne _ _), World.cell?_setCell_other (h := hne _ _), World.cell?_setCell_other (h := hne _ _), World.cell?_setCell_other (h := hne _ _)]; exact (hbW.cell hbw).trans d1
        have e2 : ((((WW.setCell ⟨q, 0, none⟩ (.slice B1 20 m1)).setCell ⟨q, 1, none⟩ (.slice B2 5 m2)).setCell ⟨q, 2, none⟩ (.int .i64 (l'.shr : Int))).setCell ⟨q, 3, none⟩ (.slice B3 l'.acts.length m3)).cell? ⟨b1, off + k * 4 + 2, none⟩ = some (.int .i64 z) := by rw [World.cell?_setCell_other (h := hne _ _), World.cell?_setCell_other (h := hne _ _), World.cell?_setCell_other (h := hne _ _), World.cell?_setCell_other (h := hne _ _)]; exact (hbW.cell hbw).trans d2
        have e3 : ((((WW.setCell ⟨q, 0, none⟩ (.slice B1 20 m1)).setCell ⟨q, 1, none⟩ (.slice B2 5 m2)).setCell ⟨q, 2, none⟩ (.int .i64 (l'.shr : Int))).setCell ⟨q, 3, none⟩ (.slice B3 l'.acts.length m3)).cell? ⟨b1, off + k * 4 + 3, none⟩ = some (.int .i64 u) := by rw [World.cell?_setCell_other (h := hne _ _), World.cell?_setCell_other (h := hne _ _), World.cell?_setCell_other (h := hne _ _), World.cell?_setCell_other (h := hne _ _)]; exact (hbW.cell hbw).trans d3
        have hb7 := Lib.hid ((((hb6.out.setCell (p := ⟨q, 0, none⟩) HQ.out (.slice B1 20 m1)).setCell (p := ⟨q, 1, none⟩) HQ.out (.slice B2 5 m2)).setCell (p := ⟨q, 2, none⟩) HQ.out (nv l'.shr)).setCell (p := ⟨q, 3, none⟩) HQ.out (.slice B3 l'.acts.length m3))
        clear hne hbW d0 d1 d2 d3
        go_wp2_with fail
        (with_reducible refine (hdo.out _ HM7.out.tab).mono ?_)
        rintro e w8 ⟨rfl, ht⟩
        obtain ⟨vt', hm8⟩ := HM7.out.did ht
        have HB8 := Lib.hid (ht.below hb7.out HM7.out.tab (Nat.le_refl _))
        have her := Lib.hid (perrorw c w8 (HE.out.below HB8.out))
        have HM8 := Lib.hid hm8
        clear ht hm8 HM7 hb7 hb6 HM1 hdo hp HM HBX HSZ e0 e1 e2 e3 c0 c1 c2 c3 f0 f1 f2 f3 x0 x1 x2 x3
        generalize errv c = ev at *
        go_wp2_with fail
        (with_reducible refine her.out.mono ?_)
        rintro e w9 ⟨rfl, hb9⟩
        have HM9 := Lib.hid (HM8.out.below hb9)
        have HB9 := Lib.hid (HB8.out.trans (hb9.mono HB8.out.size))
        clear her hb9 HM8 HB8
        have hga := Lib.hid fun (w5 : World) (h5 : Below w9.heap.size w9 w5) => lacts_calls l' w.heap.size vt' w5 (HM9.out.below h5).tab hac.out
        have heq := Lib.hid fun (v5 : Value) (w5 : World) (bb : Nat) (ho : OwnA w5 bb v5 (Sch.zacts l'.acts)) (h5 : Below w9.heap.size w9 w5) => acts_eq_calls v5 (.slice B3 l'.acts.length m3) l'.acts l'.acts w5.heap.size w5 (Nat.le_refl _) ho.acts (HM9.out.below h5).h3
        simp only [decide_true] at heq
        have hwa := Lib.hid fun (w5 : World) (h5 : Below w9.heap.size w9 w5) => waits_calls l' w.heap.size vt' w5 (HM9.out.below h5).tab hI.out
        have hrw := Lib.hid fun (w5 : World) (h5 : Below w9.heap.size w9 w5) => rwaits_calls l' (.slice B1 20 m1) (.slice B2 5 m2) (.slice B3 l'.acts.length m3) w5.heap.size w5 (Nat.le_refl _) hI.out (HM9.out.below h5).h1 (HM9.out.below h5).h2
        have hin := Lib.hid fun (v5 v6 : Value) (w5 : World) (h5 : Ints w5 w5.heap.size v5 (zs (Lk.waits l'))) (h6 : Ints w5 w5.heap.size v6 (zs (Lk.waits l'))) => ints_calls v5 v6 _ _ w5.heap.size w5 (Nat.le_refl _) h5 h6
        simp only [decide_true] at hin
        have hst := Lib.hid fun (w5 : World) (h5 : Below w9.heap.size w9 w5) => stuck_calls l' w.heap.size vt' w5 (HM9.out.below h5).tab hI.out
        have hrs := Lib.hid fun (w5 : World) (h5 : Below w9.heap.size w9 w5) => rstuck_calls l' (.slice B1 20 m1) (.slice B2 5 m2) (.slice B3 l'.acts.length m3) w5.heap.size w5 (Nat.le_refl _) hI.out (HM9.out.below h5).h1 (HM9.out.below h5).h2
        obtain ⟨_, hq9, _, c0, c1, c2, c3, _, _, _, _, _, _, _, _, _, _⟩ := HM9.out
        generalize Lk.stuck l' = sk at *
        have tss : ((sk : Int) != (sk : Int)) = false := by simp
        go_wp2_with fail
        go_region_held3 (fun w' => w'.cell? ⟨q, 0, none⟩ = some (.slice B1 20 m1) ∧ w'.cell? ⟨q, 1, none⟩ = some (.slice B2 5 m2) ∧ w'.cell? ⟨q, 2, none⟩ = some (nv l'.shr) ∧ w'.cell? ⟨q, 3, none⟩ = some (.slice B3 l'.acts.length m3) ∧ Below w9.heap.size w9 w')
          (first | exact ⟨c0, c1, c2, c3, (Below.refl _ _).drew⟩ | (refine ⟨(Below.cell (w := w9) (B := w9.heap.size) ?_ hq9).trans c0, (Below.cell (w := w9) (B := w9.heap.size) ?_ hq9).trans c1, (Below.cell (w := w9) (B := w9.heap.size) ?_ hq9).trans c2, (Below.cell (w := w9) (B := w9.heap.size) ?_ hq9).trans c3, ?_⟩ <;> go_grown))
          (first | (go_at_call 35; refine (hga.out w9.drew (Below.refl _ _).drew).mono ?_; rintro e w10 ⟨v5, rfl, ho5, hbl10⟩; have hb10 : Below w9.heap.size w9 w10 := (Below.refl _ _).drew.trans hbl10) | (go_at_call 21; refine (heq.out v5 w10 _ ho5 hb10).mono ?_; rintro e w11 ⟨rfl, hbl11⟩; have hb11 : Below w9.heap.size w9 w11 := hb10.trans (hbl11.mono hb10.size)) | (go_at_call 37; refine (hwa.out w11 hb11).mono ?_; rintro e w12 ⟨v7, rfl, ho7, hbl12⟩; have hb12 : Below w9.heap.size w9 w12 := hb11.trans (hbl12.mono hb11.size)) | (go_at_call 42; refine (hrw.out w12 hb12).mono ?_; rintro e w13 ⟨v8, rfl, ho8, hbl13⟩; have hb13 : Below w9.heap.size w9 w13 := hb12.trans (hbl13.mono hb12.size); have hi7 := (ho7.kept hbl13).ints; have hi8 := ho8.ints) | (go_at_call 41; refine (hin.out v7 v8 w13 hi7 hi8).mono ?_; rintro e w14 ⟨rfl, hbl14⟩; have hb14 : Below w9.heap.size w9 w14 := hb13.trans (hbl14.mono hb13.size)) | (go_at_call 36; refine (hst.out w14 hb14).mono ?_; rintro e w15 ⟨rfl, hbl15⟩; have hb15 : Below w9.heap.size w9 w15 := hb14.trans (hbl15.mono hb14.size)) | (go_at_call 43; refine (hrs.out w15 hb15).mono ?_; rintro e w16 ⟨rfl, hbl16⟩; have hb16 : Below w9.heap.size w9 w16 := hb15.trans (hbl16.mono hb15.size)))
        have HM16 := Lib.hid (HM9.out.below hb16)
        have HB16 := Lib.hid (HB9.out.trans (hb16.mono HB9.out.size))
        clear hga heq hwa hrw hin hst hrs
        go_wp2_with fail
        go_roundw
        case rel => exact ⟨k + 1, l', vt', _, _, _, _, _, _, by omega, by go_num, hI, HM16, HB16⟩
        case measure => simp [intOf]; omega
    · have hend : (((k : Int) < (s.length : Int)) ∧ decide ((k : Int) < 80) = false) ∨ ¬ k < s.length := by
        by_cases h : k < s.length
        · exact .inl ⟨by omega, by simp; omega⟩
        · exact .inr h
      clear hkl
      rcases hend with ⟨t1, t2⟩ | hkk
      · have t1' : k < s.length := by omega
        go_wp2_with fail
        go_ret
        exact ⟨rfl, hb.out⟩
      · go_wp2_with fail
        go_ret
        exact ⟨rfl, hb.out⟩
theorem lplays_calls (v : Value) (recs : List (List Int)) (w : World) (hr : Rd w w.heap.size 4 v recs.length (recs.flatMap fun r => r.map iv)) (hl : ∀ r ∈ recs, r.length = 4) (hE : ErrTy w) :
    Calls Tryd.prog 10 #[v] w fun e w' => e = .returned (.bool true) ∧ Below w.heap.size w w' := by
  obtain ⟨s, hs⟩ := deeds_of_recs hr hl
  exact lplays_ok s v w hs hE
end Go.Proofs.YtkindaadadggoaaDoor
