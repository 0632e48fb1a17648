/- Plain words on who reads of whom, and that one transaction behind the other each reads the same. No program is in sight. Conditions: none. -/
import Derived.Test.YtkindaadadggoaaDoorOrderedM
namespace Go.Proofs.YtkindaadadggoaaDoor
namespace Sch
open Odr

/-- who wrote an item last, of the first n acts (-1: nobody) -/
def lastW (t : List N3) (it : Nat) : Nat → Int
  | 0 => -1
  | n + 1 => if (t.getD n d3).2.1 = it ∧ (t.getD n d3).2.2 = 1 then (n : Int) else lastW t it n
/-- of each act that reads who wrote what it reads, else -1 -/
def readAt (t : List N3) (i : Nat) : Int := if (t.getD i d3).2.2 = 1 then -1 else lastW t (t.getD i d3).2.1 i
def reads (t : List N3) : List Int := (List.range t.length).map (readAt t)
@[simp] theorem length_reads (t : List N3) : (reads t).length = t.length := by simp [reads]

theorem lastW_lt (t : List N3) (it n : Nat) : -1 ≤ lastW t it n ∧ lastW t it n < n := by
  induction n with
  | zero => simp [lastW]
  | succ n ih => rw [lastW]; split <;> omega
theorem lastW_some {t : List N3} {it n : Nat} {k : Nat} (h : lastW t it n = (k : Int)) : k < n ∧ (t.getD k d3).2.1 = it ∧ (t.getD k d3).2.2 = 1 ∧ ∀ q, k < q → q < n → ¬ ((t.getD q d3).2.1 = it ∧ (t.getD q d3).2.2 = 1) := by
  induction n with
  | zero => simp [lastW] at h
  | succ n ih =>
    rw [lastW] at h
    split at h
    · rename_i hc
      have e : n = k := by omega
      subst e
      exact ⟨by omega, hc.1, hc.2, fun q h1 h2 => by omega⟩
    · rename_i hc
      obtain ⟨h1, h2, h3, h4⟩ := ih h
      refine ⟨by omega, h2, h3, fun q g1 g2 => ?_⟩
      by_cases e : q = n
      · subst e; exact hc
      · exact h4 q g1 (by omega)
theorem lastW_none {t : List N3} {it n : Nat} (h : lastW t it n = -1) : ∀ q, q < n → ¬ ((t.getD q d3).2.1 = it ∧ (t.getD q d3).2.2 = 1) := by
  induction n with
  | zero => intro q hq; omega
  | succ n ih =>
    rw [lastW] at h
    split at h
    · omega
    · rename_i hc
      intro q hq
      by_cases e : q = n
      · subst e; exact hc
      · exact ih h q (by omega)
theorem lastW_eq {t : List N3} {it n k : Nat} (h1 : k < n) (h2 : (t.getD k d3).2.1 = it ∧ (t.getD k d3).2.2 = 1) (h3 : ∀ q, k < q → q < n → ¬ ((t.getD q d3).2.1 = it ∧ (t.getD q d3).2.2 = 1)) : lastW t it n = (k : Int) := by
  induction n with
  | zero => omega
  | succ n ih =>
    rw [lastW]
    by_cases e : k = n
    · subst e; rw [if_pos h2]
    · rw [if_neg (h3 n (by omega) (by omega))]
      exact ih (by omega) (fun q g1 g2 => h3 q g1 (by omega))
theorem lastW_eq_none {t : List N3} {it n : Nat} (h3 : ∀ q, q < n → ¬ ((t.getD q d3).2.1 = it ∧ (t.getD q d3).2.2 = 1)) : lastW t it n = -1 := by
  induction n with
  | zero => rfl
  | succ n ih =>
    rw [lastW, if_neg (h3 n (by omega))]
    exact ih (fun q g => h3 q (by omega))
theorem lastW_cases (t : List N3) (it n : Nat) : lastW t it n = -1 ∨ ∃ k : Nat, k < n ∧ lastW t it n = (k : Int) := by
  have := lastW_lt t it n
  by_cases h : lastW t it n = -1
  · exact .inl h
  · exact .inr ⟨(lastW t it n).toNat, by omega, by omega⟩

/-- places told in a row that keeps the order of two acts at one item of which one writes -/
def Keeps (t : List N3) (l : List Nat) : Prop := l.Nodup ∧ l.length = t.length ∧ (∀ x ∈ l, x < t.length) ∧
  ∀ p q, p < q → q < l.length → (t.getD (l.getD p 0) d3).2.1 = (t.getD (l.getD q 0) d3).2.1 → ((t.getD (l.getD p 0) d3).2.2 = 1 ∨ (t.getD (l.getD q 0) d3).2.2 = 1) → l.getD p 0 < l.getD q 0

theorem getD_at {l : List Nat} {k : Nat} (h : k < l.length) : l.getD k 0 = l[k] := by
  rw [List.getD_eq_getElem?_getD, List.getElem?_eq_getElem h]; rfl
theorem getD_told (t : List N3) {l : List Nat} {k : Nat} (h : k < l.length) : (l.map fun i => t.getD i d3).getD k d3 = t.getD (l.getD k 0) d3 := by
  rw [List.getD_eq_getElem?_getD, List.getElem?_map, List.getElem?_eq_getElem h, getD_at h]; rfl

theorem keeps_last {t : List N3} {l : List Nat} (hk : Keeps t l) {it n m : Nat} (hn : n ≤ l.length) (hm : m ≤ t.length)
    (hset : ∀ q, q < l.length → (t.getD (l.getD q 0) d3).2.1 = it → (t.getD (l.getD q 0) d3).2.2 = 1 → (q < n ↔ l.getD q 0 < m)) :
    lastW t it m = (if lastW (l.map fun i => t.getD i d3) it n = -1 then -1 else ((l.getD (lastW (l.map fun i => t.getD i d3) it n).toNat 0 : Nat) : Int)) := by
  obtain ⟨h1, h2, h3, h4⟩ := hk
  have hsurj : ∀ j, j < t.length → ∃ q, q < l.length ∧ l.getD q 0 = j := by
    intro j hj
    have := nodup_all h1 h3 h2 j hj
    obtain ⟨q, hq, e⟩ := List.mem_iff_getElem.1 this
    exact ⟨q, hq, by rw [getD_at hq, e]⟩
  rcases lastW_cases (l.map fun i => t.getD i d3) it n with h | ⟨k, hkn, h⟩
  · rw [if_pos h]
    refine lastW_eq_none fun j hj hc => ?_
    obtain ⟨q, hq, rfl⟩ := hsurj j (by omega)
    have := lastW_none h q ((hset q hq hc.1 hc.2).2 hj)
    rw [getD_told t hq] at this
    exact this hc
  · rw [if_neg (by omega), h, Int.toNat_natCast]
    obtain ⟨g1, g2, g3, g4⟩ := lastW_some h
    have hkl : k < l.length := by omega
    rw [getD_told t hkl] at g2 g3
    refine lastW_eq ((hset k hkl g2 g3).1 g1) ⟨g2, g3⟩ fun j j1 j2 hc => ?_
    obtain ⟨q, hq, rfl⟩ := hsurj j (by omega)
    have hqn := (hset q hq hc.1 hc.2).2 j2
    rcases Nat.lt_trichotomy q k with e | e | e
    · have := h4 q k e hkl (hc.1.trans g2.symm) (.inl hc.2)
      omega
    · subst e; omega
    · have := g4 q e hqn
      rw [getD_told t hq] at this
      exact this hc

/-- each act reads of the same one -/
theorem keeps_reads {t : List N3} {l : List Nat} (hk : Keeps t l) {k : Nat} (hkl : k < l.length) :
    readAt t (l.getD k 0) = (if readAt (l.map fun i => t.getD i d3) k = -1 then -1 else ((l.getD (readAt (l.map fun i => t.getD i d3) k).toNat 0 : Nat) : Int)) := by
  have hlt : l.getD k 0 < t.length := by rw [getD_at hkl]; exact hk.2.2.1 _ (List.getElem_mem hkl)
  unfold readAt
  rw [getD_told t hkl]
  by_cases hw : (t.getD (l.getD k 0) d3).2.2 = 1
  · rw [if_pos hw, if_pos hw]; simp
  · rw [if_neg hw, if_neg hw]
    refine keeps_last hk (by omega) (by omega) fun q hq h1 h2 => ?_
    constructor
    · intro h; exact hk.2.2.2 q k h hkl h1 (.inl h2)
    · intro h
      rcases Nat.lt_trichotomy q k with e | e | e
      · exact e
      · subst e; omega
      · have := hk.2.2.2 k q e hq h1.symm (.inr h2); omega
/-- and the same ones write last -/
theorem keeps_final {t : List N3} {l : List Nat} (hk : Keeps t l) (it : Nat) :
    lastW t it t.length = (if lastW (l.map fun i => t.getD i d3) it l.length = -1 then -1 else ((l.getD (lastW (l.map fun i => t.getD i d3) it l.length).toNat 0 : Nat) : Int)) := by
  refine keeps_last hk (Nat.le_refl _) (Nat.le_refl _) fun q hq _ _ => ?_
  have hlt : l.getD q 0 < t.length := by rw [getD_at hq]; exact hk.2.2.1 _ (List.getElem_mem hq)
  exact ⟨fun _ => hlt, fun _ => hq⟩

theorem places_sorted (t : List N3) (x : Nat) : (places t x).Pairwise (· < ·) := by
  unfold places
  exact List.Pairwise.filter _ List.pairwise_lt_range
theorem mem_places {t : List N3} {x i : Nat} : i ∈ places t x ↔ i < t.length ∧ (t.getD i d3).1 = x := by
  unfold places
  rw [List.mem_filter, List.mem_range]
  simp

/-- in the row of a serial schedule the order of two that clash is kept -/
theorem keeps_of_row {t : List N3} (ht : ∀ a ∈ t, Ok3 a) {r : List Nat} (hr : Rw.row (edges t) = some r) : Keeps t (r.flatMap (places t)) := by
  obtain ⟨r1, r2, r3, r4⟩ := Rw.row_spec hr
  rw [length_edges] at r1 r3
  have hall := nodup_all r2 r3 r1
  have hpw : (r.flatMap (places t)).Pairwise fun i j => ((t.getD i d3).1 = (t.getD j d3).1 ∧ i < j) ∨ before r (t.getD i d3).1 (t.getD j d3).1 := by
    rw [List.pairwise_flatMap]
    constructor
    · intro x _
      refine (places_sorted t x).imp_of_mem fun {i j} hi hj hij => .inl ⟨(mem_places.1 hi).2.trans (mem_places.1 hj).2.symm, hij⟩
    · rw [List.pairwise_iff_getElem]
      intro p q hp hq hpq i hi j hj
      exact .inr ⟨p, q, hp, hq, (mem_places.1 hi).2.symm, (mem_places.1 hj).2.symm, hpq⟩
  refine ⟨?_, ?_, ?_, ?_⟩
  · refine hpw.imp fun {i j} h => ?_
    rintro rfl
    rcases h with ⟨_, h⟩ | h
    · omega
    · exact before.irr r2 h
  · rw [← length_ordered ht r2 hall, ← map_ordered, List.length_map]
  · intro x hx
    obtain ⟨y, _, hy⟩ := List.mem_flatMap.1 hx
    exact (mem_places.1 hy).1
  · intro p q hpq hq hit hw
    have hp : p < (r.flatMap (places t)).length := by omega
    have h := List.pairwise_iff_getElem.1 hpw p q hp hq hpq
    have mp := List.getElem_mem hp
    have mq := List.getElem_mem hq
    rw [getD_at hp, getD_at hq] at hit hw ⊢
    generalize (r.flatMap (places t))[p] = i at *
    generalize (r.flatMap (places t))[q] = j at *
    rcases h with ⟨_, h⟩ | h
    · exact h
    · rcases Nat.lt_trichotomy i j with e | e | e
      · exact e
      · subst e; exact absurd h (before.irr r2)
      · exfalso
        have hne : (t.getD j d3).1 ≠ (t.getD i d3).1 := fun e' => before.irr r2 (e' ▸ h)
        have hcl : clash (t.getD j d3) (t.getD i d3) = true := by
          unfold clash
          simp only [Bool.and_eq_true, bne_iff_ne, beq_iff_eq, decide_eq_true_eq]
          exact ⟨hne, hit.symm, by omega⟩
        have hi : i < t.length := by
          obtain ⟨y, _, hy⟩ := List.mem_flatMap.1 mp
          exact (mem_places.1 hy).1
        have hrel := (rel_edges ht _ _).2 ⟨i, hi, j, e, hcl, rfl, rfl⟩
        have hin : (t.getD i d3).1 ∈ r := hall _ (getD_ok ht i).1
        obtain ⟨k, hk, ek⟩ := List.mem_iff_getElem.1 hin
        have := r4 k hk _ (by rw [ek]; exact hrel)
        obtain ⟨m, hm, em⟩ := List.mem_iff_getElem.1 this
        rw [List.length_take] at hm
        rw [List.getElem_take] at em
        have hb : before r (t.getD j d3).1 (t.getD i d3).1 := ⟨m, k, by omega, hk, em, ek, by omega⟩
        exact before.irr r2 (h.trans r2 hb)

end Sch
end Go.Proofs.YtkindaadadggoaaDoor
