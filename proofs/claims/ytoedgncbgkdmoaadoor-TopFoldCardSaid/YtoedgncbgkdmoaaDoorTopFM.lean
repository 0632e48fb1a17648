/- Plain words: a word as an order of its places. No program is in sight. Conditions: none. -/
import Derived.Test.YtoedgncbgkdmoaaDoorFoldA
import Derived.Test.YtoedgncbgkdmoaaDoorExtF
import Derived.Test.YtoedgncbgkdmoaaDoorRanksM
namespace Go.Proofs.YtoedgncbgkdmoaaDoor
namespace Fld
open Odr

/-- what must stay behind, closed: later places alone, of greater rank -/
theorem closed_ahead {m t : List Nat} {i j : Nat} (h : rel (closed (ahead m t)) i j = true) : i < j ∧ j < t.length ∧ rkAt (stay m t) i < rkAt (stay m t) j := by
  rw [closed_iff] at h
  refine h (fun i j => i < j ∧ j < t.length ∧ rkAt (stay m t) i < rkAt (stay m t) j) ?_ ?_
  · intro a b hab
    obtain ⟨h1, h2, h3⟩ := (rel_ahead m t a b).1 hab
    exact ⟨h1, h2, rkAt_ge h1 h3⟩
  · rintro a b c ⟨h1, h2, h3⟩ ⟨g1, g2, g3⟩
    exact ⟨by omega, g2, by omega⟩
theorem valid_ahead {m t : List Nat} (ht : t.length ≤ 12) : Valid (ahead m t) :=
  ⟨by rw [length_ahead]; exact ht, fits_ahead m t, fun i => by
    by_cases h : rel (closed (ahead m t)) i i = true
    · have := (closed_ahead h).1; omega
    · simpa using h⟩
theorem closed_of {l : List Nat} {i j : Nat} (h : rel l i j = true) : rel (closed l) i j = true := by
  rw [closed_iff]
  intro P h1 _
  exact h1 i j h
/-- a place's rank in the order is its rank in the word -/
theorem rk_ahead {m t : List Nat} (ht : t.length ≤ 12) : ∀ j, j < t.length → rk (closed (ahead m t)) j = rkAt (stay m t) j := by
  have hv := valid_ahead (m := m) ht
  have hc : (closed (ahead m t)).length = t.length := by rw [length_closed, length_ahead]
  have htr : ∀ i j k, rel (closed (ahead m t)) i j = true → rel (closed (ahead m t)) j k = true → rel (closed (ahead m t)) i k = true := fun i j k h1 h2 => closed_trans h1 h2
  intro j
  induction j using Nat.strongRecOn with
  | ind j ih =>
    intro hj
    apply Nat.le_antisymm
    · by_cases h0 : 0 < rk (closed (ahead m t)) j
      · obtain ⟨i, hi, hr, he⟩ := rk_step htr hv.irr h0
        obtain ⟨h1, _, h3⟩ := closed_ahead hr
        have := ih i h1 (by omega)
        omega
      · omega
    · rcases rkAt_at (stay m t) j with h | ⟨i, hi, hs, he⟩
      · omega
      · have h1 := ih i hi (by omega)
        have h2 := rk_lt htr hv.irr (closed_of ((rel_ahead m t i j).2 ⟨hi, hj, hs⟩))
        omega
/-- two rising lists of the same things are one -/
theorem rising_eq : ∀ {l k : List Nat}, l.Pairwise (· < ·) → k.Pairwise (· < ·) → (∀ x, x ∈ l ↔ x ∈ k) → l = k := by
  intro l
  induction l with
  | nil =>
    intro k _ _ h
    cases k with
    | nil => rfl
    | cons b k => exact absurd ((h b).2 (List.mem_cons_self ..)) (by simp)
  | cons a l ih =>
    intro k hl hk h
    cases k with
    | nil => exact absurd ((h a).1 (List.mem_cons_self ..)) (by simp)
    | cons b k =>
      rw [List.pairwise_cons] at hl hk
      have hab : a = b := by
        rcases List.mem_cons.1 ((h a).1 (List.mem_cons_self ..)) with e | e
        · exact e
        · rcases List.mem_cons.1 ((h b).2 (List.mem_cons_self ..)) with e' | e'
          · exact e'.symm
          · have := hk.1 a e; have := hl.1 b e'; omega
      subst hab
      congr 1
      refine ih hl.2 hk.2 fun x => ⟨fun hx => ?_, fun hx => ?_⟩
      · rcases List.mem_cons.1 ((h x).1 (List.mem_cons_of_mem _ hx)) with e | e
        · subst e; have := hl.1 x hx; omega
        · exact e
      · rcases List.mem_cons.1 ((h x).2 (List.mem_cons_of_mem _ hx)) with e | e
        · subst e; have := hk.1 x hx; omega
        · exact e
/-- the letters of a row of places -/
def spell (t r : List Nat) : List Nat := r.map fun p => t.getD p 0
theorem spell_range (t : List Nat) : spell t (List.range t.length) = t := by
  unfold spell
  apply List.ext_getElem (by simp)
  intro i h1 h2
  simp [List.getD_eq_getElem?_getD, List.getElem?_eq_getElem h2]
theorem proj_spell (t r : List Nat) (a b : Nat) : proj (spell t r) a b = spell t (r.filter fun p => decide (t.getD p 0 = a ∨ t.getD p 0 = b)) := by
  unfold proj spell
  rw [List.filter_map]
  congr 1
  refine List.filter_congr fun x _ => ?_
  simp [Function.comp]
theorem idx_lt_pairwise {r : List Nat} (hn : r.Nodup) {P : Nat → Prop} [DecidablePred P] (h : ∀ p q, p ∈ r → q ∈ r → P p → P q → r.idxOf p < r.idxOf q → p < q) : (r.filter fun p => decide (P p)).Pairwise (· < ·) := by
  rw [List.pairwise_filter, List.pairwise_iff_getElem]
  intro i j hi hj hij h1 h2
  have e1 : r.idxOf r[i] = i := hn.idxOf_getElem i hi
  have e2 : r.idxOf r[j] = j := hn.idxOf_getElem j hj
  exact h _ _ (List.getElem_mem hi) (List.getElem_mem hj) (by simpa using h1) (by simpa using h2) (by rw [e1, e2]; exact hij)
/-- any row of the places spells the same word -/
theorem spell_alike {m t r : List Nat} (hg : Good m) (hrow : isRow (closed (ahead m t)) t.length r) : Alike m (spell t r) t := by
  obtain ⟨hn, hm, hk⟩ := hrow
  intro a b ha hb hd
  have e : proj t a b = proj (spell t (List.range t.length)) a b := by rw [spell_range]
  rw [e, proj_spell, proj_spell]
  congr 1
  apply rising_eq
  · refine idx_lt_pairwise hn fun p q hp hq h1 h2 hi => ?_
    have hp' := (hm p).1 hp
    have hq' := (hm q).1 hq
    by_cases hpq : p < q
    · exact hpq
    · exfalso
      by_cases he : p = q
      · subst he; omega
      · have hqp : q < p := by omega
        have hs : stay m t q p = true := by
          unfold stay
          have hsym : rel m b a = false := by
            by_cases h : rel m b a = true
            · rw [hg.2.2.2 _ _ h] at hd; cases hd
            · simpa using h
          rcases h1 with h1 | h1 <;> rcases h2 with h2 | h2 <;> rw [h1, h2]
          · rw [hg.2.2.1]; rfl
          · rw [hsym]; rfl
          · rw [hd]; rfl
          · rw [hg.2.2.1]; rfl
        have := hk q p (closed_of ((rel_ahead m t q p).2 ⟨hqp, hp', hs⟩))
        omega
  · exact (List.pairwise_lt_range).filter _
  · intro x
    rw [List.mem_filter, List.mem_filter, hm x, List.mem_range]
end Fld
end Go.Proofs.YtoedgncbgkdmoaaDoor
