/- Plain words on who freed what when: what clashes is done behind the other one's freeing. No program is in sight. Conditions: none. -/
import Derived.Test.YtkindaadadggoaaDoorStuckM
namespace Go.Proofs.YtkindaadadggoaaDoor
namespace Lk
open Odr Sch

/-- of each act that was done: it holds still, or was freed behind it -/
structure Ap (l : L) (free : List Int) (at_ : List Nat) (i : Nat) : Prop where
  len : free.length = 20
  lat : at_.length = l.acts.length
  past : ∀ k, at_.getD k 0 < i ∨ at_.length ≤ k
  has : ∀ k, k < l.acts.length → Suff l (l.acts.getD k d3).1 (l.acts.getD k d3).2.1 (l.acts.getD k d3).2.2 ∨ (at_.getD k 0 : Int) ≤ free.getD ((l.acts.getD k d3).1 * 4 + (l.acts.getD k d3).2.1) (-1)
theorem ap0 : Ap l0 (List.replicate 20 (-1)) [] 0 := ⟨by simp, rfl, fun k => .inr (by simp), fun k hk => by simp [l0] at hk⟩
theorem Ap.later {l : L} {free : List Int} {at_ : List Nat} {i : Nat} (h : Ap l free at_ i) : Ap l free at_ (i + 1) :=
  ⟨h.len, h.lat, fun k => (h.past k).imp (fun h => by omega) id, h.has⟩
/-- a deed that frees nothing and does nothing -/
theorem Ap.stay {l : L} {free : List Int} {at_ : List Nat} {i : Nat} (h : Ap l free at_ i) {d : N4} (hd : Ok4 d) (h2 : ¬ (d.1 = 2 ∧ (lstep l d).2 = 0)) (h3 : ¬ (d.1 = 3 ∧ (lstep l d).2 = 0)) : Ap (lstep l d).1 free at_ (i + 1) := by
  have ha := acts_step h3 hd
  refine ⟨h.len, by rw [ha]; exact h.lat, fun k => (h.past k).imp (fun h => by omega) id, fun k hk => ?_⟩
  rw [ha] at hk ⊢
  rcases h.has k hk with g | g
  · rcases suff_keep (d := d) g with g | ⟨g1, g2, _⟩
    · exact .inl g
    · exact absurd ⟨g1, g2⟩ h2
  · exact .inr g
theorem getD_isset (l : List Int) (i j : Nat) (x z : Int) : (l.set i x).getD j z = if i = j ∧ i < l.length then x else l.getD j z := by
  rw [List.getD_eq_getElem?_getD, List.getD_eq_getElem?_getD, List.getElem?_set]
  by_cases h : i = j
  · subst h
    by_cases h' : i < l.length
    · simp [h']
    · simp [h']
  · simp [h]
/-- a freeing -/
theorem Ap.free {l : L} {free : List Int} {at_ : List Nat} {i : Nat} (hI : Inv l) (h : Ap l free at_ i) {d : N4} (hd : Ok4 d) (h2 : d.1 = 2) : Ap (lstep l d).1 (free.set (d.2.1 * 4 + d.2.2.1) (i : Int)) at_ (i + 1) := by
  have ha := acts_step (l := l) (d := d) (fun h => by omega) hd
  obtain ⟨_, _, _, _, _, _, _, h8, _, _⟩ := hI
  refine ⟨by rw [List.length_set]; exact h.len, by rw [ha]; exact h.lat, fun k => (h.past k).imp (fun h => by omega) id, fun k hk => ?_⟩
  rw [ha] at hk ⊢
  have hp : (at_.getD k 0 : Int) ≤ (i : Int) := by
    rcases h.past k with g | g
    · omega
    · have := h.lat; omega
  rw [getD_isset]
  have hok := getD_ok h8 k
  obtain ⟨o1, o2, _⟩ := hok
  obtain ⟨_, d2, d3', _⟩ := hd
  by_cases e : d.2.1 * 4 + d.2.2.1 = (l.acts.getD k d3).1 * 4 + (l.acts.getD k d3).2.1
  · right
    rw [if_pos ⟨e, by have := h.len; omega⟩]
    exact hp
  · rw [if_neg (fun g => e g.1)]
    rcases h.has k hk with g | g
    · rcases suff_keep (d := d) g with g | ⟨_, _, g3, g4⟩
      · exact .inl g
      · exact absurd (by rw [g3, g4]) e
    · exact .inr g
/-- an act -/
theorem Ap.act {l : L} {free : List Int} {at_ : List Nat} {i : Nat} (h : Ap l free at_ i) {d : N4} (hd : Ok4 d) (h3 : d.1 = 3) (h0 : (lstep l d).2 = 0) : Ap (lstep l d).1 free (at_ ++ [i]) (i + 1) := by
  obtain ⟨hs, he⟩ := suff_done hd h3 h0
  rw [he]
  refine ⟨h.len, by simp [h.lat], fun k => ?_, fun k hk => ?_⟩
  · by_cases e : k < at_.length
    · left
      rw [List.getD_eq_getElem?_getD, List.getElem?_append_left e, ← List.getD_eq_getElem?_getD]
      rcases h.past k with g | g <;> omega
    · by_cases e2 : k = at_.length
      · left
        subst e2
        rw [List.getD_eq_getElem?_getD]; simp
      · right
        simp; omega
  · simp only at hk ⊢
    rw [List.length_append, List.length_singleton] at hk
    by_cases e : k < l.acts.length
    · have e1 : (l.acts ++ [(d.2.1, d.2.2.1, d.2.2.2)]).getD k d3 = l.acts.getD k d3 := by
        rw [List.getD_eq_getElem?_getD, List.getElem?_append_left e, ← List.getD_eq_getElem?_getD]
      have e2 : (at_ ++ [i]).getD k 0 = at_.getD k 0 := by
        rw [List.getD_eq_getElem?_getD, List.getElem?_append_left (by rw [h.lat]; exact e), ← List.getD_eq_getElem?_getD]
      rw [e1, e2]
      exact h.has k e
    · have e1 : k = l.acts.length := by omega
      subst e1
      left
      have e1 : (l.acts ++ [(d.2.1, d.2.2.1, d.2.2.2)]).getD l.acts.length d3 = (d.2.1, d.2.2.1, d.2.2.2) := by
        rw [List.getD_eq_getElem?_getD]; simp
      rw [e1]
      exact hs
/-- who writes is alone -/
theorem Ap.alone {l : L} {free : List Int} {at_ : List Nat} {i : Nat} (hI : Inv l) (h : Ap l free at_ i) {d : N4} (hd : Ok4 d) (h3 : d.1 = 3) (h0 : (lstep l d).2 = 0) {k : Nat} (hk : k < l.acts.length)
    (hx : (l.acts.getD k d3).1 ≠ d.2.1) (hi : (l.acts.getD k d3).2.1 = d.2.2.1) (hw : 0 < (l.acts.getD k d3).2.2 + d.2.2.2) : (at_.getD k 0 : Int) ≤ free.getD ((l.acts.getD k d3).1 * 4 + (l.acts.getD k d3).2.1) (-1) := by
  obtain ⟨hs, _⟩ := suff_done hd h3 h0
  rcases h.has k hk with g | g
  · rw [hi] at g
    exact (suff_excl hI g hs hx hw).elim
  · exact g
end Lk
end Go.Proofs.YtkindaadadggoaaDoor
