/- Plain words on a gate that lets acts through by the order of numbers of their transactions. No program is in sight. Conditions: none. -/
import Derived.Test.YtkindaadadggoaaDoorSchedM
import Derived.Test.YtkindaadadggoaaDoorRowM
namespace Go.Proofs.YtkindaadadggoaaDoor
namespace Gt
open Odr Sch

/-- one more than the greatest that read an item, that wrote it; who is stopped; what was done -/
structure G where
  rd : List Nat
  wr : List Nat
  dead : Nat
  acts : List N3
def g0 : G := ⟨[0, 0, 0, 0], [0, 0, 0, 0], 0, []⟩

def late (g : G) (a : N3) : Bool := decide (a.1 + 1 < g.wr.getD a.2.1 0)
def early (g : G) (a : N3) : Bool := decide (a.1 + 1 < g.rd.getD a.2.1 0)
def clashes (skips : Bool) (g : G) (a : N3) : Bool := (a.2.2 == 0 && late g a) || (a.2.2 == 1 && early g a) || (a.2.2 == 1 && late g a && !skips)
/-- an act of small numbers comes: the gate then, whether it was done, what is wrong -/
def pass (skips : Bool) (g : G) (a : N3) : G × Bool × Nat :=
  if g.dead.testBit a.1 = true then (g, false, 7)
  else if g.acts.length = 24 then (g, false, 4)
  else if clashes skips g a = true then ({ g with dead := g.dead ||| 2 ^ a.1 }, false, 6)
  else if a.2.2 = 1 then (if late g a = true then (g, false, 0) else ({ g with wr := g.wr.set a.2.1 (a.1 + 1), acts := g.acts ++ [a] }, true, 0))
  else ({ g with rd := g.rd.set a.2.1 (max (g.rd.getD a.2.1 0) (a.1 + 1)), acts := g.acts ++ [a] }, true, 0)

/-- one more than the greatest of those that did so -/
def top (w item : Nat) : List N3 → Nat
  | [] => 0
  | a :: l => if a.2.1 = item ∧ a.2.2 = w then max (a.1 + 1) (top w item l) else top w item l
theorem top_snoc (w item : Nat) (l : List N3) (a : N3) : top w item (l ++ [a]) = if a.2.1 = item ∧ a.2.2 = w then max (top w item l) (a.1 + 1) else top w item l := by
  induction l with
  | nil => simp only [List.nil_append, top]; split <;> omega
  | cons b l ih =>
    rw [List.cons_append, top, ih, top]
    repeat' split
    all_goals omega
theorem lt_top {w item : Nat} {l : List N3} {n : Nat} : n + 1 < top w item l ↔ ∃ a ∈ l, a.2.1 = item ∧ a.2.2 = w ∧ n < a.1 := by
  induction l with
  | nil => simp [top]
  | cons b l ih =>
    rw [top]
    constructor
    · intro h
      split at h
      · rename_i hc
        rcases Nat.lt_or_ge (n + 1) (top w item l) with h1 | h1
        · obtain ⟨a, ha, h2⟩ := ih.1 h1
          exact ⟨a, List.mem_cons_of_mem _ ha, h2⟩
        · exact ⟨b, List.mem_cons_self .., hc.1, hc.2, by omega⟩
      · obtain ⟨a, ha, h2⟩ := ih.1 h
        exact ⟨a, List.mem_cons_of_mem _ ha, h2⟩
    · rintro ⟨a, ha, h1, h2, h3⟩
      rcases List.mem_cons.1 ha with rfl | ha
      · rw [if_pos ⟨h1, h2⟩]; omega
      · have := ih.2 ⟨a, ha, h1, h2, h3⟩
        split <;> omega

/-- what always holds of a gate -/
def Inv (g : G) : Prop := g.rd.length = 4 ∧ g.wr.length = 4 ∧ (∀ i, i < 4 → g.rd.getD i 0 = top 0 i g.acts) ∧ (∀ i, i < 4 → g.wr.getD i 0 = top 1 i g.acts) ∧
  g.dead < 32 ∧ g.acts.length ≤ 24 ∧ (∀ a ∈ g.acts, Ok3 a) ∧ (∀ i, i < 4 → g.rd.getD i 0 ≤ 5) ∧ (∀ i, i < 4 → g.wr.getD i 0 ≤ 5) ∧
  g.acts.Pairwise (fun a b => a.2.1 = b.2.1 → 0 < a.2.2 + b.2.2 → a.1 ≤ b.1)
theorem inv0 : Inv g0 := by
  refine ⟨rfl, rfl, ?_, ?_, by decide, by decide, by simp [g0], ?_, ?_, by simp [g0]⟩
  all_goals
    intro i hi
    have : i = 0 ∨ i = 1 ∨ i = 2 ∨ i = 3 := by omega
    rcases this with rfl | rfl | rfl | rfl <;> simp [g0, top]

theorem not_lt_top {w item : Nat} {l : List N3} {n : Nat} (h : top w item l ≤ n + 1) {a : N3} (ha : a ∈ l) (h1 : a.2.1 = item) (h2 : a.2.2 = w) : a.1 ≤ n := by
  rcases Nat.lt_or_ge n a.1 with h3 | h3
  · have := lt_top.2 ⟨a, ha, h1, h2, h3⟩; omega
  · exact h3

theorem inv_pass (skips : Bool) {g : G} (hg : Inv g) {a : N3} (ha : Ok3 a) : Inv (pass skips g a).1 := by
  obtain ⟨h1, h2, h3, h4, h5, h6, h7, h8, h9, h10⟩ := hg
  obtain ⟨a1, a2, a3⟩ := ha
  unfold pass
  split
  · exact ⟨h1, h2, h3, h4, h5, h6, h7, h8, h9, h10⟩
  split
  · exact ⟨h1, h2, h3, h4, h5, h6, h7, h8, h9, h10⟩
  rename_i hlen
  split
  · refine ⟨h1, h2, h3, h4, Nat.or_lt_two_pow (n := 5) h5 (Nat.pow_lt_pow_right (by omega) a1), h6, h7, h8, h9, h10⟩
  rename_i hcl
  have hcl' : clashes skips g a = false := by simpa using hcl
  unfold clashes at hcl'
  simp only [Bool.or_eq_false_iff, Bool.and_eq_false_iff] at hcl'
  obtain ⟨⟨c1, c2⟩, c3⟩ := hcl'
  have hlen' : (g.acts ++ [a]).length ≤ 24 := by rw [List.length_append]; simp; omega
  have hok : ∀ b ∈ g.acts ++ [a], Ok3 b := by
    intro b hb
    rcases List.mem_append.1 hb with hb | hb
    · exact h7 b hb
    · simp at hb; subst hb; exact ⟨a1, a2, a3⟩
  split
  · rename_i hw
    split
    · exact ⟨h1, h2, h3, h4, h5, h6, h7, h8, h9, h10⟩
    · rename_i hl
      have hl' : g.wr.getD a.2.1 0 ≤ a.1 + 1 := by
        unfold late at hl; simpa using hl
      have he : g.rd.getD a.2.1 0 ≤ a.1 + 1 := by
        rcases c2 with c | c
        · rw [hw] at c; simp at c
        · unfold early at c; simpa using c
      refine ⟨h1, by simpa using h2, fun i hi => ?_, fun i hi => ?_, h5, hlen', hok, h8, fun i hi => ?_, ?_⟩
      · rw [h3 i hi, top_snoc, if_neg (by omega)]
      · rw [getD_set, top_snoc]
        have := h4 i hi
        by_cases e : a.2.1 = i
        · subst e
          rw [if_pos ⟨rfl, by omega⟩, if_pos ⟨rfl, hw⟩]; omega
        · rw [if_neg (fun h => e h.1), if_neg (fun h => e h.1), this]
      · rw [getD_set]
        split
        · omega
        · exact h9 i hi
      · rw [List.pairwise_append]
        refine ⟨h10, by simp, fun b hb c hc => ?_⟩
        simp at hc
        subst hc
        intro e1 e2
        have hb3 := (h7 b hb).2.2
        by_cases hb0 : b.2.2 = 0
        · exact not_lt_top (by rw [← h3 _ a2]; exact he) hb e1 hb0
        · exact not_lt_top (by rw [← h4 _ a2]; exact hl') hb e1 (by omega)
  · rename_i hw
    have hw0 : a.2.2 = 0 := by omega
    have hl' : g.wr.getD a.2.1 0 ≤ a.1 + 1 := by
      rcases c1 with c | c
      · rw [hw0] at c; simp at c
      · unfold late at c; simpa using c
    refine ⟨by simpa using h1, h2, fun i hi => ?_, fun i hi => ?_, h5, hlen', hok, fun i hi => ?_, h9, ?_⟩
    · rw [getD_set, top_snoc]
      have := h3 i hi
      by_cases e : a.2.1 = i
      · subst e
        rw [if_pos ⟨rfl, by omega⟩, if_pos ⟨rfl, hw0⟩, this]
      · rw [if_neg (fun h => e h.1), if_neg (fun h => e h.1), this]
    · rw [h4 i hi, top_snoc, if_neg (by omega)]
    · rw [getD_set]
      split
      · have := h8 _ a2; omega
      · exact h8 i hi
    · rw [List.pairwise_append]
      refine ⟨h10, by simp, fun b hb c hc => ?_⟩
      simp at hc
      subst hc
      intro e1 e2
      have hb3 := (h7 b hb).2.2
      exact not_lt_top (by rw [← h4 _ a2]; exact hl') hb e1 (by omega)

/-- BERNSTEIN, GOODMAN: what goes by numbers is serial -/
theorem row_of_sorted {l : List N3} (hok : ∀ a ∈ l, Ok3 a) (h : l.Pairwise (fun a b => a.2.1 = b.2.1 → 0 < a.2.2 + b.2.2 → a.1 ≤ b.1)) : ∃ r, Rw.row (edges l) = some r := by
  refine Rw.row_of_irr fun i => ?_
  have hlt : ∀ x y, rel (edges l) x y = true → x < y := by
    intro x y hxy
    obtain ⟨j, hj, i, hi, hc, rfl, rfl⟩ := (rel_edges hok x y).1 hxy
    have hp := List.pairwise_iff_getElem.1 h i j (by omega) hj hi
    have e1 : l.getD i d3 = l[i] := by simp [List.getD_eq_getElem?_getD, List.getElem?_eq_getElem (show i < l.length by omega)]
    have e2 : l.getD j d3 = l[j] := by simp [List.getD_eq_getElem?_getD, List.getElem?_eq_getElem hj]
    rw [e1, e2] at hc ⊢
    unfold clash at hc
    simp only [Bool.and_eq_true, bne_iff_ne, beq_iff_eq, decide_eq_true_eq] at hc
    have := hp hc.2.1 hc.2.2
    omega
  by_cases g : rel (closed (edges l)) i i = true
  · rw [closed_iff] at g
    have := g (fun x y => x < y) (fun a b h => hlt a b h) (fun a b c h1 h2 => Nat.lt_trans h1 h2)
    exact absurd this (Nat.lt_irrefl i)
  · simpa using g

/-- the gate behind acts; an act out of range leaves it as it is -/
def go (skips : Bool) : G → List (Option N3) → G
  | g, [] => g
  | g, none :: s => go skips g s
  | g, some a :: s => go skips (pass skips g a).1 s

end Gt
end Go.Proofs.YtkindaadadggoaaDoor
