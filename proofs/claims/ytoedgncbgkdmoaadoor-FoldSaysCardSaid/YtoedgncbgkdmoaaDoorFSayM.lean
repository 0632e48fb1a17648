/- Plain words: the reference's least word, what stays ahead, and whether two words look alike, against the program's. No program is in sight. Conditions: none. -/
import Derived.Test.YtoedgncbgkdmoaaDoorFoldA
import Derived.Test.YtoedgncbgkdmoaaDoorExtM
namespace Go.Proofs.YtoedgncbgkdmoaaDoor
namespace Fld
open Odr

/-- the places that are not done -/
def undone (n : Nat) (d : List Bool) : List Nat := (List.range n).filter fun p => !d.getD p false
/-- what is left of a word -/
def left (t : List Nat) (d : List Bool) : List Nat := (undone t.length d).map fun p => t.getD p 0
theorem mem_undone {n : Nat} {d : List Bool} {p : Nat} : p ∈ undone n d ↔ p < n ∧ d.getD p false = false := by
  unfold undone
  rw [List.mem_filter, List.mem_range]
  simp
theorem sorted_undone (n : Nat) (d : List Bool) : (undone n d).Pairwise (· < ·) := (List.pairwise_lt_range).filter _
/-- may a place that is not done come next? -/
def rok (m t : List Nat) (d : List Bool) (j : Nat) : Bool := !d.getD j false && (List.range j).all fun i => d.getD i false || !stay m t i j
theorem rok_iff {m t : List Nat} {d : List Bool} {j : Nat} : rok m t d j = true ↔ d.getD j false = false ∧ ∀ i, i < j → d.getD i false = false → stay m t i j = false := by
  unfold rok
  rw [Bool.and_eq_true, List.all_eq_true]
  simp only [List.mem_range, Bool.or_eq_true, Bool.not_eq_true']
  refine and_congr Iff.rfl ⟨fun h i hi hd => ?_, fun h i hi => ?_⟩
  · rcases h i hi with h | h
    · rw [hd] at h; cases h
    · exact h
  · cases hd : d.getD i false
    · exact .inr (h i hi hd)
    · exact .inl rfl
/-- the part that the inner loop has seen -/
def rokTo (m t : List Nat) (d : List Bool) (j i : Nat) : Bool := !d.getD j false && (List.range i).all fun i => d.getD i false || !stay m t i j
theorem rokTo_succ (m t : List Nat) (d : List Bool) (j i : Nat) : rokTo m t d j (i + 1) = (rokTo m t d j i && (d.getD i false || !stay m t i j)) := by
  unfold rokTo
  rw [List.range_succ, List.all_append, Bool.and_assoc]
  simp
/-- the place of the least letter that may, of the first ones -/
def rbest (m t : List Nat) (d : List Bool) : Nat → Option Nat
  | 0 => none
  | j + 1 => if rok m t d j = true ∧ (∀ b, rbest m t d j = some b → t.getD j 0 < t.getD b 0) then some j else rbest m t d j
theorem rbest_spec (m t : List Nat) (d : List Bool) (n : Nat) : (∀ b, rbest m t d n = some b → b < n ∧ rok m t d b = true ∧ ∀ i, i < n → rok m t d i = true → t.getD b 0 ≤ t.getD i 0) ∧
    (rbest m t d n = none → ∀ i, i < n → rok m t d i = false) := by
  induction n with
  | zero => exact ⟨(fun b h => by cases h), (fun _ i h => by omega)⟩
  | succ n ih =>
    rw [rbest]
    split
    · rename_i hc
      refine ⟨fun b h => ?_, fun h => by cases h⟩
      injection h with h
      subst h
      refine ⟨by omega, hc.1, fun i hi ho => ?_⟩
      by_cases e : i = n
      · subst e; exact Nat.le_refl _
      · cases hb : rbest m t d n with
        | none => rw [ih.2 hb i (by omega)] at ho; cases ho
        | some b =>
          have h1 := hc.2 b hb
          have h2 := (ih.1 b hb).2.2 i (by omega) ho
          omega
    · rename_i hc
      refine ⟨fun b h => ?_, fun h i hi => ?_⟩
      · obtain ⟨h1, h2, h3⟩ := ih.1 b h
        refine ⟨by omega, h2, fun i hi ho => ?_⟩
        by_cases e : i = n
        · subst e
          exact Nat.le_of_not_lt fun hh => hc ⟨ho, fun b' hb' => by rw [h] at hb'; injection hb' with hb'; subst hb'; exact hh⟩
        · exact h3 i (by omega) ho
      · by_cases e : i = n
        · subst e
          cases ho : rok m t d i
          · rfl
          · exact absurd ⟨ho, fun b hb => by rw [h] at hb; cases hb⟩ hc
        · exact ih.2 h i (by omega)
/-- the places ahead of one that is not done, and those behind it -/
theorem undone_split {n : Nat} {d : List Bool} {j : Nat} (hj : j ∈ undone n d) : ∃ a b, undone n d = a ++ j :: b ∧ (∀ p ∈ a, p < j) ∧ (∀ p ∈ b, j < p) := by
  obtain ⟨a, b, e⟩ := List.append_of_mem hj
  have hs := sorted_undone n d
  rw [e, List.pairwise_append, List.pairwise_cons] at hs
  exact ⟨a, b, e, fun p hp => hs.2.2 p hp j (List.mem_cons_self ..), fun p hp => hs.2.1.1 p hp⟩
theorem undone_set {n : Nat} {d : List Bool} {j : Nat} (hd : d.length = n) (hj : j < n) : undone n (d.set j true) = (undone n d).filter fun p => decide (p ≠ j) := by
  unfold undone
  rw [List.filter_filter]
  refine List.filter_congr fun p hp => ?_
  rw [List.getD_eq_getElem?_getD, List.getElem?_set]
  by_cases h : j = p
  · subst h
    rw [if_pos rfl, if_pos (by omega)]
    simp
  · have h2 : p ≠ j := fun e => h e.symm
    rw [if_neg h, ← List.getD_eq_getElem?_getD]
    simp [h2]
theorem left_split {t : List Nat} {d : List Bool} {j : Nat} (hd : d.length = t.length) (hj : j < t.length) (hu : d.getD j false = false) :
    ∃ a b : List Nat, left t d = a.map (fun p => t.getD p 0) ++ t.getD j 0 :: b.map (fun p => t.getD p 0) ∧ left t (d.set j true) = a.map (fun p => t.getD p 0) ++ b.map (fun p => t.getD p 0) ∧
      (∀ p, p ∈ a ↔ p < j ∧ d.getD p false = false) := by
  have hm : j ∈ undone t.length d := mem_undone.2 ⟨hj, hu⟩
  obtain ⟨a, b, e, h1, h2⟩ := undone_split hm
  refine ⟨a, b, by unfold left; rw [e]; simp, ?_, fun p => ⟨fun hp => ⟨h1 p hp, (mem_undone.1 (by rw [e]; exact List.mem_append_left _ hp)).2⟩, fun ⟨hp, hdp⟩ => ?_⟩⟩
  · unfold left
    rw [undone_set hd hj, e, List.filter_append, List.filter_cons_of_neg (by simp), ← List.map_append]
    congr 2
    · exact List.filter_eq_self.2 fun p hp => by have := h1 p hp; simp; omega
    · exact List.filter_eq_self.2 fun p hp => by have := h2 p hp; simp; omega
  · have hq : p ∈ undone t.length d := mem_undone.2 ⟨by omega, hdp⟩
    rw [e] at hq
    rcases List.mem_append.1 hq with hq | hq
    · exact hq
    · rcases List.mem_cons.1 hq with rfl | hq
      · omega
      · have := h2 p hq; omega
theorem avail_left {m t : List Nat} {d : List Bool} (hg : Good m) (hd : d.length = t.length) {a : Nat} : Avail m (left t d) a ↔ ∃ j, j < t.length ∧ rok m t d j = true ∧ t.getD j 0 = a := by
  constructor
  · rintro ⟨w1, w2, e, h⟩
    unfold left at e
    obtain ⟨p1, p2, e1, e2, e3⟩ := List.map_eq_append_iff.1 e
    obtain ⟨j, p3, rfl, e4, e5⟩ := List.map_eq_cons_iff.1 e3
    have hj : j ∈ undone t.length d := by rw [e1]; exact List.mem_append_right _ (List.mem_cons_self ..)
    refine ⟨j, (mem_undone.1 hj).1, rok_iff.2 ⟨(mem_undone.1 hj).2, fun i hi hdi => ?_⟩, e4⟩
    have hs := sorted_undone t.length d
    rw [e1, List.pairwise_append, List.pairwise_cons] at hs
    have hm : i ∈ undone t.length d := mem_undone.2 ⟨by have := (mem_undone.1 hj).1; omega, hdi⟩
    rw [e1] at hm
    have hp1 : i ∈ p1 := by
      rcases List.mem_append.1 hm with hm | hm
      · exact hm
      · rcases List.mem_cons.1 hm with rfl | hm
        · omega
        · have := hs.2.1.1 i hm; omega
    have hr := h (t.getD i 0) (by rw [← e2]; exact List.mem_map.2 ⟨i, hp1, rfl⟩)
    unfold stay
    rw [e4, hg.2.2.2 _ _ hr]; rfl
  · rintro ⟨j, hj, hr, rfl⟩
    obtain ⟨h1, h2⟩ := rok_iff.1 hr
    obtain ⟨a, b, e, _, ha⟩ := left_split hd hj h1
    refine ⟨_, _, e, fun x hx => ?_⟩
    obtain ⟨p, hp, rfl⟩ := List.mem_map.1 hx
    have hq := (ha p).1 hp
    have hs := h2 p hq.1 hq.2
    unfold stay at hs
    simp only [Bool.not_eq_false'] at hs
    exact hg.2.2.2 _ _ hs
theorem left_mem {t : List Nat} {d : List Bool} {n : Nat} (ht : ∀ x ∈ t, x < n) : ∀ x ∈ left t d, x < n := by
  intro x hx
  obtain ⟨p, hp, rfl⟩ := List.mem_map.1 hx
  have h := (mem_undone.1 hp).1
  rw [List.getD_eq_getElem?_getD, List.getElem?_eq_getElem h]
  exact ht _ (List.getElem_mem h)
/-- one step of the reference -/
theorem least_left {m t : List Nat} {d : List Bool} (hg : Good m) (ht : ∀ x ∈ t, x < m.length) (hd : d.length = t.length) (hne : left t d ≠ []) :
    ∃ b, rbest m t d t.length = some b ∧ b < t.length ∧ d.getD b false = false ∧ least m (left t d) = t.getD b 0 :: least m (left t (d.set b true)) := by
  obtain ⟨b', h1, h2, h3, h4, h5, h6⟩ := least_cons (free := m) hg hne
  obtain ⟨i, hi, hri, hei⟩ := (avail_left hg hd).1 h4
  cases hb : rbest m t d t.length with
  | none =>
    have := (rbest_spec m t d t.length).2 hb i hi
    rw [hri] at this; cases this
  | some b =>
    obtain ⟨g1, g2, g3⟩ := (rbest_spec m t d t.length).1 b hb
    have hav := (avail_left hg hd).2 ⟨b, g1, g2, rfl⟩
    have heq : t.getD b 0 = (left t d).getD b' 0 := Nat.le_antisymm (by rw [← hei]; exact g3 i hi hri) (h5 _ hav)
    have hd0 := (rok_iff.1 g2).1
    refine ⟨b, rfl, g1, hd0, ?_⟩
    rw [h3, heq]
    congr 1
    obtain ⟨p, q, e1, e2, e3⟩ := left_split hd g1 hd0
    have hal : Alike m (t.getD b 0 :: left t (d.set b true)) (left t d) := by
      rw [e1, e2]
      refine alike_front hg fun x hx => ?_
      obtain ⟨y, hy, rfl⟩ := List.mem_map.1 hx
      have hq := (e3 y).1 hy
      have hs := (rok_iff.1 g2).2 y hq.1 hq.2
      unfold stay at hs
      simp only [Bool.not_eq_false'] at hs
      exact hg.2.2.2 _ _ hs
    rw [heq] at hal
    have h7 := (h6.trans hal.symm).tail
    exact least_alike hg _ _ _ rfl (mem_erase (left_mem ht)) (left_mem ht) h7
theorem length_left_set {t : List Nat} {d : List Bool} {b : Nat} (hd : d.length = t.length) (hb : b < t.length) (hu : d.getD b false = false) : (left t d).length = (left t (d.set b true)).length + 1 := by
  obtain ⟨p, q, e1, e2, _⟩ := left_split hd hb hu
  rw [e1, e2]
  simp
  omega
theorem left_start (t : List Nat) : left t (List.replicate t.length false) = t := by
  unfold left undone
  rw [List.filter_eq_self.2 fun p _ => by rw [List.getD_eq_getElem?_getD, List.getElem?_replicate]; split <;> rfl]
  apply List.ext_getElem (by simp)
  intro i h1 h2
  simp [List.getD_eq_getElem?_getD, List.getElem?_eq_getElem h2]

/-- what stays ahead, place by place -/
def aset (m t : List Nat) (i : Nat) : Nat → Nat
  | 0 => 0
  | k + 1 => if stay m t i (i + 1 + k) = true then aset m t i k + 2 ^ (i + 1 + k) else aset m t i k
theorem aset_lt (m t : List Nat) (i k : Nat) : aset m t i k < 2 ^ (i + 1 + k) := by
  induction k with
  | zero => exact Nat.two_pow_pos _
  | succ k ih =>
    have h2 : 2 ^ (i + 1 + (k + 1)) = 2 ^ (i + 1 + k) + 2 ^ (i + 1 + k) := by rw [show i + 1 + (k + 1) = i + 1 + k + 1 by omega, Nat.pow_succ]; omega
    rw [aset]
    split <;> omega
theorem testBit_aset (m t : List Nat) (i k x : Nat) : (aset m t i k).testBit x = true ↔ i < x ∧ x < i + 1 + k ∧ stay m t i x = true := by
  induction k with
  | zero =>
    rw [aset]
    simp
    omega
  | succ k ih =>
    rw [aset]
    split
    · rename_i hs
      have hb : (aset m t i k).testBit (i + 1 + k) = false := Nat.testBit_lt_two_pow (aset_lt m t i k)
      rw [← or_bit hb, Nat.testBit_or, Bool.or_eq_true, ih, testBit_two_pow']
      simp only [decide_eq_true_eq]
      constructor
      · rintro (⟨h1, h2, h3⟩ | rfl)
        · exact ⟨h1, by omega, h3⟩
        · exact ⟨by omega, by omega, hs⟩
      · rintro ⟨h1, h2, h3⟩
        by_cases e : i + 1 + k = x
        · exact .inr e
        · exact .inl ⟨h1, by omega, h3⟩
    · rename_i hs
      rw [ih]
      constructor
      · rintro ⟨h1, h2, h3⟩; exact ⟨h1, by omega, h3⟩
      · rintro ⟨h1, h2, h3⟩
        refine ⟨h1, ?_, h3⟩
        by_cases e : x = i + 1 + k
        · subst e; exact absurd h3 hs
        · omega
theorem aset_ahead {m t : List Nat} {i : Nat} (hi : i < t.length) : aset m t i (t.length - (i + 1)) = (ahead m t).getD i 0 := by
  apply Nat.eq_of_testBit_eq
  intro x
  rw [Bool.eq_iff_iff, testBit_aset]
  have h := rel_ahead m t i x
  unfold rel at h
  rw [h]
  constructor
  · rintro ⟨h1, h2, h3⟩; exact ⟨h1, by omega, h3⟩
  · rintro ⟨h1, h2, h3⟩; exact ⟨h1, by omega, h3⟩
/-- two letters at a time, the lesser one last -/
def alikeB (m v w : List Nat) : Bool := (List.range m.length).all fun a => (List.range (a + 1)).all fun b => rel m a b || decide (proj v a b = proj w a b)
theorem alikeB_iff {m v w : List Nat} (hg : Good m) : alikeB m v w = true ↔ Alike m v w := by
  unfold alikeB
  simp only [List.all_eq_true, List.mem_range, Bool.or_eq_true, decide_eq_true_eq]
  constructor
  · intro h a b ha hb hd
    by_cases hab : b ≤ a
    · rcases h a ha b (by omega) with h | h
      · rw [hd] at h; cases h
      · exact h
    · rcases h b hb a (by omega) with h | h
      · rw [hg.2.2.2 _ _ h] at hd; cases hd
      · rw [proj_comm v, proj_comm w]; exact h
  · intro h a ha b hb
    cases hd : rel m a b
    · exact .inr (h a b ha (by omega) hd)
    · exact .inl rfl
end Fld
end Go.Proofs.YtoedgncbgkdmoaaDoor
