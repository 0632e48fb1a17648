/- What the reference's search remembers, in memory: of each set that was done a list of states. Conditions: each law's own premises. -/
import Derived.Test.YtjmjifcaobkobaaDoorHGood
import Derived.Maps.AppendAt
import Derived.Laws.StructEq
namespace Go.Proofs.YtjmjifcaobkobaaDoor
open Go.RowKit Go.Maps His

abbrev T3 := Nat × Nat × Nat
def tcells (l : List T3) : List Value := l.flatMap fun t => [nv t.1, nv t.2.1, nv t.2.2]
def ls3 (t : T3) : List Nat := [t.1, t.2.1, t.2.2]
abbrev vnil : Value := .slice none 0 0
theorem length_tcells (l : List T3) : (tcells l).length = l.length * 3 := by
  induction l with
  | nil => rfl
  | cons t l ih => simp [tcells] at *; omega
theorem tcells_at (l : List T3) (k : Nat) (hk : k < l.length) : (tcells l)[k * 3]? = some (nv l[k].1) ∧ (tcells l)[k * 3 + 1]? = some (nv l[k].2.1) ∧ (tcells l)[k * 3 + 2]? = some (nv l[k].2.2) := by
  induction l generalizing k with
  | nil => simp at hk
  | cons t l ih =>
    have e : tcells (t :: l) = nv t.1 :: nv t.2.1 :: nv t.2.2 :: tcells l := rfl
    cases k with
    | zero => exact ⟨rfl, rfl, rfl⟩
    | succ k =>
      obtain ⟨h1, h2, h3⟩ := ih k (by simpa using hk)
      rw [e, show (k + 1) * 3 = k * 3 + 3 by omega]
      exact ⟨h1, h2, h3⟩
theorem Tryd.infoT3 : (Tryd.prog.info? 44).map (fun i => (i.zero, i.size, i.bytes)) = some (some (.agg #[.int .i64 0, .int .i64 0, .int .i64 0]), 3, 24) := by kernel_rfl
theorem Tryd.infoT3s : (Tryd.prog.info? 53).map (fun i => (i.zero, i.size, i.bytes)) = some (some (.slice none 0 0), 1, 24) := by kernel_rfl
def OwnT (w : World) (base : Nat) (v : Value) (l : List T3) : Prop := w.ownsRow base 44 3 v l.length (tcells l)
theorem OwnT.at_ {w : World} {base : Nat} {v : Value} {l : List T3} (h : OwnT w base v l) {k : Nat} (hk : k < l.length) :
    ∃ q cap, v = .slice (some ⟨q, 0, none⟩) l.length cap ∧ base ≤ q ∧ w.cell? ⟨q, k * 3, none⟩ = some (nv l[k].1) ∧ w.cell? ⟨q, k * 3 + 1, none⟩ = some (nv l[k].2.1) ∧ w.cell? ⟨q, k * 3 + 2, none⟩ = some (nv l[k].2.2) := by
  have h0 := h
  rcases h.2 with ⟨_, h2⟩ | ⟨q, cap, cur, rfl, hb, _⟩
  · omega
  · obtain ⟨c0, c1, c2⟩ := tcells_at l k hk
    have hl := length_tcells l
    exact ⟨q, cap, rfl, hb, (World.ownsRow.cellAt h0 _ (by omega)).trans c0, (World.ownsRow.cellAt h0 _ (by omega)).trans c1, (World.ownsRow.cellAt h0 _ (by omega)).trans c2⟩
theorem OwnT.val {w : World} {base : Nat} {v : Value} {l : List T3} (h : OwnT w base v l) : ∃ A cap, v = .slice A l.length cap := by
  rcases h.2 with ⟨hv, h2⟩ | ⟨q, cap, cur, rfl, hb, _⟩
  · exact ⟨none, 0, by rw [hv, h2]⟩
  · exact ⟨_, cap, rfl⟩

/-- the memory: its box b, the block g of its lists, the lists' slices -/
structure StkAt (w : World) (b g N n : Nat) (G : Nat → List Nat → Prop) (vs : List Value) (L : Nat → List T3) : Prop where
  bx : w.cell? ⟨b, 0, none⟩ = some (.slice (some ⟨g, 0, none⟩) N N)
  row : w.ownsRow g 53 1 (.slice (some ⟨g, 0, none⟩) N N) N vs
  len : vs.length = N
  own : ∀ d, d < N → OwnT w (b + 1) (vs.getD d vnil) (L d)
  inj : ∀ d d' k, d < N → d' < N → (vs.getD d vnil).ownBlock = some k → (vs.getD d' vnil).ownBlock = some k → d = d'
  good : ∀ d, d < N → ∀ t ∈ L d, G d (ls3 t)
  few : ∀ d, d < N → (L d).length ≤ n
  lt : g < b
  blt : b < w.heap.size
/-- its blocks -/
def FK (g N : Nat) (vs : List Value) (k : Nat) : Prop := k = g ∨ ∃ d, d < N ∧ (vs.getD d vnil).ownBlock = some k
def updL (L : Nat → List T3) (d : Nat) (x : List T3) : Nat → List T3 := fun e => if e = d then x else L e
section
variable {w w' : World} {b g N n : Nat} {G : Nat → List Nat → Prop} {vs : List Value} {L : Nat → List T3}
theorem StkAt.foot (h : StkAt w b g N n G vs L) : ∀ k, FK g N vs k → g ≤ k ∧ k < w.heap.size ∧ k ≠ b := by
  have hl := h.lt
  have hb := h.blt
  rintro k (rfl | ⟨d, hd, hk⟩)
  · exact ⟨Nat.le_refl _, by omega, by omega⟩
  · have := row_lt (h.own d hd) k hk
    exact ⟨by omega, this.2, by omega⟩
theorem StkAt.only {S : Nat → Prop} (h : StkAt w b g N n G vs L) (ho : Only S w w') (hS : ∀ k, FK g N vs k → ¬ S k) (hb : ¬ S b) : StkAt w' b g N n G vs L :=
  ⟨(ho.cell (p := ⟨b, 0, none⟩) h.blt hb).trans h.bx, row_only h.row ho (fun k hk => by cases hk; exact hS g (.inl rfl)), h.len, fun d hd => row_only (h.own d hd) ho (fun k hk => hS k (.inr ⟨d, hd, hk⟩)), h.inj, h.good, h.few, h.lt, Nat.lt_of_lt_of_le h.blt ho.size⟩
theorem StkAt.alloc (h : StkAt w b g N n G vs L) (o : Obj) : StkAt (w.alloc o) b g N n G vs L :=
  h.only ((Only.refl (fun _ => False) w).alloc o) (fun _ _ h => h) (fun h => h)
theorem StkAt.drewN (h : StkAt w b g N n G vs L) (m : Nat) : StkAt (w.drewN m) b g N n G vs L :=
  h.only ((Only.refl (fun _ => False) w).drewN m) (fun _ _ h => h) (fun h => h)
theorem StkAt.below (h : StkAt w b g N n G vs L) (hb : Below w.heap.size w w') : StkAt w' b g N n G vs L :=
  h.only (Only.of_below hb (Nat.le_refl _) (fun _ => False)) (fun _ _ h => h) (fun h => h)
theorem StkAt.mono (h : StkAt w b g N n G vs L) {n' : Nat} (hn : n ≤ n') : StkAt w b g N n' G vs L :=
  ⟨h.bx, h.row, h.len, h.own, h.inj, h.good, fun d hd => Nat.le_trans (h.few d hd) hn, h.lt, h.blt⟩
theorem StkAt.cell (h : StkAt w b g N n G vs L) {d : Nat} (hd : d < N) : w.cell? ⟨g, d, none⟩ = some (vs.getD d vnil) := by
  have := World.ownsRow.cellAt h.row d (by rw [Nat.mul_one]; exact hd)
  rw [this, List.getD_eq_getElem?_getD, List.getElem?_eq_getElem (by rw [h.len]; exact hd)]
  rfl
theorem StkAt.frozen (h : StkAt w b g N n G vs L) (d : Nat) : w.frozen? ⟨g, d, none⟩ = false := World.ownsRow.frozenAt h.row d
/-- one state more -/
theorem StkAt.push {w1 : World} {d : Nat} {v' : Value} {t : T3} (h : StkAt w b g N n G vs L) (hd : d < N) (hg : w.grownBy w1 (vs.getD d vnil).ownBlock) (ho : OwnT w1 (b + 1) v' (L d ++ [t]))
    (hat : v'.ownBlock = (vs.getD d vnil).ownBlock ∨ v'.ownBlock = some w.heap.size) (hG : G d (ls3 t)) :
    StkAt (w1.setCell ⟨g, d, none⟩ v') b g N (n + 1) G (vs.set d v') (updL L d (L d ++ [t])) := by
  have hlt := h.lt
  have hbl := h.blt
  have hown := row_lt (h.own d hd)
  have ho1 : Only (fun k => (vs.getD d vnil).ownBlock = some k) w w1 := (Only.refl _ w).grown hg (fun k hk => .inl hk)
  have ho2 : Only (fun k => k = g) w1 (w1.setCell ⟨g, d, none⟩ v') := (Only.refl (fun k => k = g) w1).setCell (p := ⟨g, d, none⟩) (.inl rfl) v'
  have hgetD : ∀ e, (vs.set d v').getD e vnil = if d = e then v' else vs.getD e vnil := fun e => by
    rw [List.getD_eq_getElem?_getD, List.getD_eq_getElem?_getD, List.getElem?_set]
    by_cases he : d = e
    · subst he
      have : d < vs.length := by rw [h.len]; exact hd
      simp [this]
    · simp [he]
  refine ⟨?_, ?_, by rw [List.length_set]; exact h.len, fun e he => ?_, fun e e' k he he' hk hk' => ?_, fun e he u hu => ?_, fun e he => ?_, hlt, by simpa using Nat.lt_of_lt_of_le hbl ho1.size⟩
  · refine (ho2.cell (p := ⟨b, 0, none⟩) (Nat.lt_of_lt_of_le hbl ho1.size) (by show ¬ b = g; omega)).trans ((ho1.cell (p := ⟨b, 0, none⟩) hbl (fun e => ?_)).trans h.bx)
    have := (hown b e).1; omega
  · have h1 := row_only h.row ho1 (fun k hk e => by cases hk; have := (hown g e).1; omega)
    exact (World.ownsRow.stored h1 d v').1
  · rw [hgetD]
    unfold updL
    by_cases hed : e = d
    · subst hed
      rw [if_pos rfl, if_pos rfl]
      refine row_only ho ho2 (fun k hk e => ?_)
      subst e
      rcases hat with q | q
      · rw [q] at hk; have := (hown _ hk).1; omega
      · rw [q] at hk; injection hk with hk; omega
    · rw [if_neg (fun q => hed q.symm), if_neg hed]
      have h1 := row_only (h.own e he) ho1 (fun k hk q => hed (h.inj e d k he hd hk q))
      exact row_only h1 ho2 (fun k hk q => by have := (row_lt (h.own e he) k hk).1; omega)
  · rw [hgetD] at hk hk'
    have key : ∀ e, e < N → e ≠ d → (vs.getD e vnil).ownBlock = some k → v'.ownBlock = some k → False := fun e he hne q1 q2 => by
      rcases hat with q | q
      · rw [q] at q2; exact hne (h.inj e d k he hd q1 q2)
      · rw [q] at q2
        injection q2 with q2
        have := (row_lt (h.own e he) k q1).2
        omega
    by_cases h1 : d = e
    · by_cases h2 : d = e'
      · rw [← h1, h2]
      · rw [if_pos h1] at hk
        rw [if_neg h2] at hk'
        exact (key e' he' (fun q => h2 q.symm) hk' hk).elim
    · by_cases h2 : d = e'
      · rw [if_neg h1] at hk
        rw [if_pos h2] at hk'
        exact (key e he (fun q => h1 q.symm) hk hk').elim
      · rw [if_neg h1] at hk
        rw [if_neg h2] at hk'
        exact h.inj e e' k he he' hk hk'
  · unfold updL at hu
    by_cases hed : e = d
    · subst hed
      rw [if_pos rfl] at hu
      rcases List.mem_append.1 hu with q | q
      · exact h.good e he u q
      · rw [List.mem_singleton.1 q]; exact hG
    · rw [if_neg hed] at hu
      exact h.good e he u hu
  · unfold updL
    by_cases hed : e = d
    · subst hed
      rw [if_pos rfl, List.length_append, List.length_singleton]
      have := h.few e he; omega
    · rw [if_neg hed]
      have := h.few e he; omega
theorem FK.push {v' : Value} {d k : Nat} (hat : v'.ownBlock = (vs.getD d vnil).ownBlock ∨ v'.ownBlock = some w.heap.size) (hd : d < N) (hk : FK g N (vs.set d v') k) : FK g N vs k ∨ w.heap.size ≤ k := by
  rcases hk with rfl | ⟨e, he, hk⟩
  · exact .inl (.inl rfl)
  · rw [List.getD_eq_getElem?_getD, List.getElem?_set] at hk
    by_cases hed : d = e
    · subst hed
      by_cases hl : d < vs.length
      · simp only [if_true, hl, Option.getD_some] at hk
        rcases hat with q | q
        · rw [q] at hk; exact .inl (.inr ⟨d, hd, hk⟩)
        · rw [q] at hk; injection hk with hk; right; omega
      · simp only [if_true, hl, if_false, Option.getD_none] at hk
        cases hk
    · rw [if_neg hed, ← List.getD_eq_getElem?_getD] at hk
      exact .inl (.inr ⟨e, he, hk⟩)
end
section
variable {ops : Array Oper} {rest : List Oper} {o : Oper} {a : Go.Act} {Q : Exit → Go.Act → World → Prop} {w : World}
/-- 'make([][][3]int, n)' -/
theorem make_rows (hgd : o.guard = none) (l c : Operand) (hop : o.op = Op.makeSlice 41 l c) (base n : Nat) (hl : a.eval l = nv n) (hc : a.eval c = nv n) (hn : n ≤ 1000000) (hbase : base ≤ w.heap.size)
    (h : ∀ w', w'.ownsRow base 53 1 (.slice (some ⟨w.heap.size, 0, none⟩) n n) n (List.replicate n vnil) → Below w.heap.size w w' → wpList Tryd.prog ops Q rest (a.put o.dst (.slice (some ⟨w.heap.size, 0, none⟩) n n)) w') :
    wpList Tryd.prog ops Q (o :: rest) a w := by
  obtain ⟨i0, hi, hz0, hz1, hz2⟩ := info_parts Tryd.infoT3s
  refine wpList_make_full w hgd l c 41 hop base 53 i0 vnil 1 Tryd.underlying41 hi hz0 hz1 .i64 .i64 (n : Int) (n : Int) n hl hc rfl rfl (by rw [hz2]; omega) (by unfold maxLen; omega) hbase ?_
  intro w' hrow hg
  refine h w' ?_ ((Below.refl w.heap.size w).grown hg (Nat.le_refl _) (fun _ h => by cases h))
  have e := toList_madeCells_one vnil n
  simp only [Value.cells, Nat.mul_one] at hrow
  rw [e] at hrow
  simpa using hrow
set_option maxRecDepth 20000 in
/-- 'append(s.l[done], v)' -/
theorem run_append_t3 (w : World) (base : Nat) (v : Value) (l : List T3) (hown : OwnT w base v l) (q : Nat) (t : T3) (c0 : w.cell? ⟨q, 0, none⟩ = some (nv t.1)) (c1 : w.cell? ⟨q, 1, none⟩ = some (nv t.2.1)) (c2 : w.cell? ⟨q, 2, none⟩ = some (nv t.2.2))
    (hlen : l.length ≤ 2 ^ 40) (hbase : base ≤ w.heap.size) (ty : TypeId) :
    ∃ v' w', (Builtin.append_ #[53, 53] ty #[v, .slice (some ⟨q, 0, none⟩) 1 1]).run Tryd.prog w = .ok v' w' ∧ OwnT w' base v' (l ++ [t]) ∧ w.grownBy w' v.ownBlock ∧ (v'.ownBlock = v.ownBlock ∨ v'.ownBlock = some w.heap.size) := by
  obtain ⟨i0, hi, hz0, hz1, hz2⟩ := info_parts Tryd.infoT3
  obtain ⟨v', w', hr, h2, h3, h4, h5⟩ := run_append_own_at (P := Tryd.prog) w base 53 ty 44 i0 (.agg #[.int .i64 0, .int .i64 0, .int .i64 0]) 3 24 Tryd.underlying53 hi hz0 hz1 hz2 rfl (by decide) v l.length (tcells l) hown ⟨q, 0, none⟩ 1 1 [nv t.1, nv t.2.1, nv t.2.2] rfl (by
    intro j u hj
    match j, hj with
    | 0, hj => simp at hj; subst hj; exact c0
    | 1, hj => simp at hj; subst hj; exact c1
    | 2, hj => simp at hj; subst hj; exact c2
    | j + 3, hj => simp at hj) (by intro u hu; simp at hu; rcases hu with rfl | rfl | rfl <;> rfl) (by unfold maxLen; omega) (by omega) hbase
  refine ⟨v', w', hr, ?_, h3, h5⟩
  unfold OwnT
  rw [List.length_append, List.length_singleton, show tcells (l ++ [t]) = tcells l ++ [nv t.1, nv t.2.1, nv t.2.2] from by simp [tcells]]
  exact h2
end
end Go.Proofs.YtjmjifcaobkobaaDoor
