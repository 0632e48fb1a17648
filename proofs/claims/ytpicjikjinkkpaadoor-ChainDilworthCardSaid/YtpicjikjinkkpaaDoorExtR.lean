/- Plain mathematics: the rows of an order are the lists of all its things that keep it; of two things side by side either may stand ahead. No program is in sight. Conditions: none. -/
import Derived.Test.YtpicjikjinkkpaaDoorExtM
namespace Go.Proofs.YtpicjikjinkkpaaDoor
namespace Odr

/-- each thing of the list stands behind all that pre names of it -/
inductive Fine (pre : List Nat) : List Nat → Prop
  | nil : Fine pre []
  | snoc {l : List Nat} {j : Nat} : Fine pre l → j ∉ l → (∀ i, rel pre j i = true → i ∈ l) → Fine pre (l ++ [j])

theorem snoc_inj {l m : List Nat} {i j : Nat} (h : l ++ [i] = m ++ [j]) : l = m ∧ i = j := by
  have := List.append_inj' h rfl
  exact ⟨this.1, by simpa using this.2⟩
theorem Fine.inv {pre l : List Nat} {j : Nat} (h : Fine pre (l ++ [j])) : Fine pre l ∧ j ∉ l ∧ ∀ i, rel pre j i = true → i ∈ l := by
  generalize hm : l ++ [j] = m at h
  cases h with
  | nil => simp at hm
  | snoc h1 h2 h3 => obtain ⟨rfl, rfl⟩ := snoc_inj hm; exact ⟨h1, h2, h3⟩
theorem Fine.nodup {pre l : List Nat} (h : Fine pre l) : l.Nodup := by
  induction h with
  | nil => exact List.nodup_nil
  | snoc h1 h2 h3 ih =>
    refine List.nodup_append.2 ⟨ih, by simp, fun a ha b hb => ?_⟩
    rw [List.mem_singleton.1 hb]
    rintro rfl
    exact h2 ha

theorem mem_exts {pre : List Nat} {n : Nat} : ∀ (k S : Nat) (l : List Nat), S < 2 ^ n → (l ∈ exts pre n k S ↔ Fine pre l ∧ (∀ x, x ∈ l ↔ S.testBit x = true) ∧ l.length = k) := by
  intro k
  induction k with
  | zero =>
    intro S l hS
    unfold exts
    constructor
    · intro h
      by_cases h0 : S = 0
      · rw [if_pos h0] at h
        obtain rfl := List.mem_singleton.1 h
        subst h0
        exact ⟨.nil, by simp, rfl⟩
      · rw [if_neg h0] at h; cases h
    · rintro ⟨_, h2, h3⟩
      obtain rfl := List.length_eq_zero_iff.1 h3
      have h0 : S = 0 := by
        apply Nat.eq_of_testBit_eq
        intro i
        rw [Nat.zero_testBit]
        cases hb : S.testBit i with
        | false => rfl
        | true => have := (h2 i).2 hb; cases this
      rw [if_pos h0]; simp
  | succ k ih =>
    intro S l hS
    rw [exts, List.mem_flatMap]
    constructor
    · rintro ⟨j, hj, hl⟩
      by_cases hok : okStep pre S j = true
      · rw [if_pos hok] at hl
        obtain ⟨l', hl', rfl⟩ := List.mem_map.1 hl
        have hb := okStep_bit hok
        obtain ⟨h1, h2, h3⟩ := (ih (S - 2 ^ j) l' (Nat.lt_of_le_of_lt (Nat.sub_le _ _) hS)).1 hl'
        have hjl : j ∉ l' := fun h => by
          have := (h2 j).1 h
          rw [testBit_sub_bit hb] at this; simp at this
        refine ⟨.snoc h1 hjl fun i hi => ?_, fun x => ?_, by simp [h3]⟩
        · unfold okStep at hok
          rw [Bool.and_eq_true] at hok
          exact (h2 i).2 ((diff_zero _ _).1 (of_decide_eq_true hok.2) i hi)
        · rw [List.mem_append, h2 x, testBit_sub_bit hb, List.mem_singleton]
          by_cases hx : x = j
          · subst hx; simp [hb]
          · have : ¬ j = x := fun e => hx e.symm
            simp [hx, this]
      · rw [if_neg hok] at hl; cases hl
    · rintro ⟨h1, h2, h3⟩
      obtain ⟨l', j, rfl⟩ : ∃ l' j, l = l' ++ [j] := by
        have hne : l ≠ [] := fun e => by rw [e] at h3; simp at h3
        exact ⟨l.dropLast, l.getLast hne, (List.dropLast_concat_getLast hne).symm⟩
      obtain ⟨g1, g2, g3⟩ := h1.inv
      have hb : S.testBit j = true := (h2 j).1 (by simp)
      have hm : ∀ x, x ∈ l' ↔ (S - 2 ^ j).testBit x = true := by
        intro x
        rw [testBit_sub_bit hb, Bool.and_eq_true, ← h2 x, List.mem_append, List.mem_singleton]
        constructor
        · intro h
          have : ¬ j = x := fun e => g2 (e ▸ h)
          exact ⟨.inl h, by simp [this]⟩
        · rintro ⟨h | h, h'⟩
          · exact h
          · subst h; simp at h'
      refine ⟨j, List.mem_range.2 (bit_lt hS hb), ?_⟩
      have hok : okStep pre S j = true := by
        unfold okStep
        rw [hb, Bool.true_and]
        exact decide_eq_true ((diff_zero _ _).2 fun i hi => (hm i).1 (g3 i hi))
      rw [if_pos hok]
      exact List.mem_map.2 ⟨l', (ih _ _ (Nat.lt_of_le_of_lt (Nat.sub_le _ _) hS)).2 ⟨g1, hm, by simpa using h3⟩, rfl⟩

theorem nodup_exts (pre : List Nat) (n : Nat) : ∀ k S, (exts pre n k S).Nodup := by
  intro k
  induction k with
  | zero => intro S; unfold exts; split <;> simp
  | succ k ih =>
    intro S
    unfold exts List.Nodup
    rw [List.pairwise_flatMap]
    refine ⟨fun j _ => ?_, ?_⟩
    · by_cases hok : okStep pre S j = true
      · rw [if_pos hok, List.pairwise_map]
        exact (ih _).imp fun h e => h (snoc_inj e).1
      · rw [if_neg hok]; exact List.Pairwise.nil
    · refine (List.nodup_range (n := n)).imp fun {i j} hij => ?_
      intro x hx y hy e
      have hx' : ∃ l, x = l ++ [i] := by
        split at hx
        · obtain ⟨l, _, rfl⟩ := List.mem_map.1 hx; exact ⟨l, rfl⟩
        · cases hx
      have hy' : ∃ l, y = l ++ [j] := by
        split at hy
        · obtain ⟨l, _, rfl⟩ := List.mem_map.1 hy; exact ⟨l, rfl⟩
        · cases hy
      obtain ⟨l, rfl⟩ := hx'
      obtain ⟨l', rfl⟩ := hy'
      exact hij (snoc_inj e).2

/-- a row of all things that keeps the order -/
def isRow (c : List Nat) (n : Nat) (l : List Nat) : Prop := l.Nodup ∧ (∀ x, x ∈ l ↔ x < n) ∧ ∀ x y, rel c x y = true → l.idxOf x < l.idxOf y

theorem Fine.keeps {pre l : List Nat} (h : Fine pre l) : ∀ j, j ∈ l → ∀ i, rel pre j i = true → i ∈ l ∧ l.idxOf i < l.idxOf j := by
  induction h with
  | nil => intro j hj; cases hj
  | @snoc l j0 h1 h2 h3 ih =>
    intro j hj i hi
    rw [List.idxOf_append, List.idxOf_append]
    by_cases hjl : j ∈ l
    · obtain ⟨a, b⟩ := ih j hjl i hi
      rw [if_pos a, if_pos hjl]
      exact ⟨by simp [a], b⟩
    · have hj0 : j = j0 := by
        rcases List.mem_append.1 hj with h | h
        · exact absurd h hjl
        · exact List.mem_singleton.1 h
      subst hj0
      have a := h3 i hi
      rw [if_pos a, if_neg hjl]
      have := List.idxOf_lt_length_iff.2 a
      exact ⟨by simp [a], by omega⟩
theorem fine_of_keeps {pre : List Nat} (l : List Nat) : l.Nodup → (∀ j, j ∈ l → ∀ i, rel pre j i = true → i ∈ l ∧ l.idxOf i < l.idxOf j) → Fine pre l := by
  induction l using snoc_ind with
  | nil => intro _ _; exact .nil
  | snoc l j ih =>
    intro hn hk
    obtain ⟨n1, _, n3⟩ := List.nodup_append.1 hn
    have hjl : j ∉ l := fun h => n3 j h j (by simp) rfl
    have hin : ∀ i k, k ∈ l ++ [j] → i ∈ l ++ [j] → (l ++ [j]).idxOf i < (l ++ [j]).idxOf k → i ∈ l := by
      intro i k hkm hi hlt
      rcases List.mem_append.1 hi with h | h
      · exact h
      · exfalso
        rw [List.mem_singleton.1 h, List.idxOf_append, List.idxOf_append, if_neg hjl] at hlt
        by_cases hkl : k ∈ l
        · rw [if_pos hkl] at hlt
          have := List.idxOf_lt_length_iff.2 hkl
          omega
        · rw [if_neg hkl] at hlt
          have hkj : k = j := by
            rcases List.mem_append.1 hkm with h' | h'
            · exact absurd h' hkl
            · exact List.mem_singleton.1 h'
          subst hkj
          omega
    refine .snoc (ih n1 fun k hk' i hi => ?_) hjl fun i hi => ?_
    · obtain ⟨a, b⟩ := hk k (by simp [hk']) i hi
      have c := hin i k (by simp [hk']) a b
      rw [List.idxOf_append, List.idxOf_append, if_pos c, if_pos hk'] at b
      exact ⟨c, b⟩
    · obtain ⟨a, b⟩ := hk j (by simp) i hi
      exact hin i j (by simp) a b

theorem fine_iff_row {m l : List Nat} (hv : Valid m) (hall : ∀ x, x ∈ l ↔ x < m.length) : Fine (turned m) l ↔ isRow (closed m) m.length l := by
  constructor
  · intro h
    refine ⟨h.nodup, hall, fun x y hxy => ?_⟩
    have hy : y < m.length := by have := rel_lt_right hv.fits.closed hxy; rwa [length_closed] at this
    exact (h.keeps y ((hall y).2 hy) x (by rw [rel_turned hv.fits]; exact hxy)).2
  · rintro ⟨h1, _, h3⟩
    refine fine_of_keeps l h1 fun j _ i hi => ?_
    rw [rel_turned hv.fits] at hi
    have hil : i < m.length := by have := rel_lt_left hi; rwa [length_closed] at this
    exact ⟨(hall i).2 hil, h3 i j hi⟩

theorem cnt_all {n : Nat} {p : Nat → Bool} (h : ∀ i, i < n → p i = true) : cnt n p = n := by
  induction n with
  | zero => rfl
  | succ n ih => rw [show cnt (n + 1) p = cnt n p + if p n = true then 1 else 0 from rfl, ih fun i hi => h i (by omega), if_pos (h n (by omega))]
theorem testBit_full (n x : Nat) : (2 ^ n - 1).testBit x = decide (x < n) := Nat.testBit_two_pow_sub_one n x
theorem pop_full (n : Nat) : pop n (2 ^ n - 1) = n := cnt_all fun i hi => by rw [testBit_full]; simpa using hi

/-- all rows of an order -/
def rows (m : List Nat) : List (List Nat) := exts (turned m) m.length m.length (2 ^ m.length - 1)
theorem ways_rows (m : List Nat) : ways (turned m) m.length (2 ^ m.length - 1) = (rows m).length := by unfold ways rows; rw [pop_full]
theorem mem_rows {m : List Nat} (hv : Valid m) (l : List Nat) : l ∈ rows m ↔ isRow (closed m) m.length l := by
  unfold rows
  have := Nat.two_pow_pos m.length
  rw [mem_exts _ _ _ (by omega)]
  constructor
  · rintro ⟨h1, h2, h3⟩
    have hall : ∀ x, x ∈ l ↔ x < m.length := fun x => by rw [h2 x, testBit_full]; simp
    exact (fine_iff_row hv hall).1 h1
  · intro h
    refine ⟨(fine_iff_row hv h.2.1).2 h, fun x => by rw [h.2.1 x, testBit_full]; simp, ?_⟩
    rw [nodup_length h.1 (fun x hx => (h.2.1 x).1 hx)]
    exact cnt_all fun i hi => by simpa using (h.2.1 i).2 hi
theorem nodup_rows (m : List Nat) : (rows m).Nodup := nodup_exts _ _ _ _

theorem exists_ext {m : List Nat} (hv : Valid m) : ∀ (k S : Nat), S < 2 ^ m.length → pop m.length S = k → (∀ i j, S.testBit j = true → rel (closed m) i j = true → S.testBit i = true) →
    ∃ l, l ∈ exts (turned m) m.length k S := by
  intro k
  induction k with
  | zero => intro S hS hp _; exact ⟨[], by rw [pop_pos hS hp]; simp [exts]⟩
  | succ k ih =>
    intro S hS hp hd
    have h0 : ∃ i, S.testBit i = true := by
      refine Classical.byContradiction fun h => ?_
      have : S = 0 := by
        apply Nat.eq_of_testBit_eq
        intro i
        rw [Nat.zero_testBit]
        cases hb : S.testBit i with
        | false => rfl
        | true => exact absurd ⟨i, hb⟩ h
      rw [this, pop_zero] at hp
      omega
    obtain ⟨j, hj, hmax⟩ := exists_least (R := fun i j => rel (closed m) j i = true) m.length
      (fun i j h => by have := rel_lt_right hv.fits.closed h; rwa [length_closed] at this)
      (fun i j k h g => closed_trans g h) (fun i h => by rw [hv.irr] at h; cases h) (fun i => S.testBit i = true) h0
    have hS' : S - 2 ^ j < 2 ^ m.length := Nat.lt_of_le_of_lt (Nat.sub_le _ _) hS
    obtain ⟨l, hl⟩ := ih (S - 2 ^ j) hS' (by have := pop_sub hS hj; omega) (fun x y hy hxy => by
      rw [testBit_sub_bit hj, Bool.and_eq_true] at hy ⊢
      refine ⟨hd x y hy.1 hxy, ?_⟩
      have : j ≠ x := fun e => hmax y hy.1 (e ▸ hxy)
      simp [this])
    refine ⟨l ++ [j], ?_⟩
    rw [exts, List.mem_flatMap]
    refine ⟨j, List.mem_range.2 (bit_lt hS hj), ?_⟩
    have hok : okStep (turned m) S j = true := by
      unfold okStep
      rw [hj, Bool.true_and]
      refine decide_eq_true ((diff_zero _ _).2 fun i hi => ?_)
      have hi' : rel (closed m) i j = true := by rw [← rel_turned hv.fits]; exact hi
      rw [testBit_sub_bit hj, hd i j hj hi']
      have : j ≠ i := fun e => by subst e; rw [hv.irr] at hi'; cases hi'
      simp [this]
    rw [if_pos hok]
    exact List.mem_map.2 ⟨l, hl, rfl⟩
theorem rows_pos {m : List Nat} (hv : Valid m) : 0 < (rows m).length := by
  have h2 := Nat.two_pow_pos m.length
  obtain ⟨l, hl⟩ := exists_ext hv m.length (2 ^ m.length - 1) (by omega) (pop_full _) (fun i j _ h => by
    rw [testBit_full]
    have := rel_lt_left h
    rw [length_closed] at this
    simpa using this)
  exact List.length_pos_of_mem hl

theorem row_more {m l : List Nat} {a b : Nat} (ha : a < m.length) :
    isRow (closed (more m a b)) m.length l ↔ isRow (closed m) m.length l ∧ l.idxOf a < l.idxOf b := by
  constructor
  · rintro ⟨h1, h2, h3⟩
    exact ⟨⟨h1, h2, fun x y h => h3 x y ((closed_more ha x y).2 (.inl h))⟩, h3 a b ((closed_more ha a b).2 (.inr ⟨.inl rfl, .inl rfl⟩))⟩
  · rintro ⟨⟨h1, h2, h3⟩, h4⟩
    have hle : ∀ x y, le m x y → l.idxOf x ≤ l.idxOf y := fun x y h => by
      rcases h with rfl | h
      · exact Nat.le_refl _
      · exact Nat.le_of_lt (h3 x y h)
    refine ⟨h1, h2, fun x y h => ?_⟩
    rcases (closed_more ha x y).1 h with h | ⟨h, g⟩
    · exact h3 x y h
    · have := hle _ _ h; have := hle _ _ g; omega

/-- whether no thing comes behind itself -/
def noRing (m : List Nat) : Prop := ∀ i, rel (closed m) i i = false
/-- as many rows as there are with a step more -/
theorem rows_more {m : List Nat} (hv : Valid m) {a b : Nat} (ha : a < m.length) (hb : b < m.length) (h : noRing (more m a b)) :
    Valid (closed (more m a b)) ∧ (rows (closed (more m a b))).length = ((rows m).filter fun l => decide (l.idxOf a < l.idxOf b)).length := by
  have hm : Valid (more m a b) := ⟨by rw [length_more]; exact hv.few, hv.fits.more hb, h⟩
  refine ⟨hm.closed, ?_⟩
  refine List.Perm.length_eq ((List.perm_ext_iff_of_nodup (nodup_rows _) ((nodup_rows m).filter _)).2 fun l => ?_)
  rw [mem_rows hm.closed, closed_closed hm.fits, length_closed, length_more, row_more ha, List.mem_filter, mem_rows hv]
  simp
theorem rows_ring {m : List Nat} (hv : Valid m) {a b : Nat} (ha : a < m.length) (hab : a ≠ b) (h : ¬ noRing (more m a b)) :
    ((rows m).filter fun l => decide (l.idxOf a < l.idxOf b)).length = 0 := by
  have hba : rel (closed m) b a = true := by
    obtain ⟨i, hi⟩ : ∃ i, rel (closed (more m a b)) i i = true := by
      refine Classical.byContradiction fun g => h fun i => ?_
      cases hb : rel (closed (more m a b)) i i with
      | false => rfl
      | true => exact absurd ⟨i, hb⟩ g
    rcases (closed_more ha i i).1 hi with h1 | ⟨h1, h2⟩
    · rw [hv.irr] at h1; cases h1
    · rcases h2.trans h1 with h3 | h3
      · exact absurd h3.symm hab
      · exact h3
  rw [List.length_eq_zero_iff, List.filter_eq_nil_iff]
  intro l hl
  have := ((mem_rows hv l).1 hl).2.2 b a hba
  simp; omega
/-- how many rows have a ahead of b -/
def aheads (m : List Nat) (a b : Nat) : Nat := ((rows m).filter fun l => decide (l.idxOf a < l.idxOf b)).length
theorem aheads_le (m : List Nat) (a b : Nat) : aheads m a b ≤ (rows m).length := List.length_filter_le _ _
theorem idxOf_inj {l : List Nat} {a b : Nat} (ha : a ∈ l) (h : l.idxOf a = l.idxOf b) : a = b := by
  have h1 := List.idxOf_lt_length_iff.2 ha
  have h2 : l.idxOf b < l.length := by omega
  have e1 := List.getElem_idxOf h1
  have e2 := List.getElem_idxOf h2
  simp only [h] at e1
  rw [← e1, e2]
theorem aheads_both {m : List Nat} (hv : Valid m) {a b : Nat} (ha : a < m.length) (hab : a ≠ b) : aheads m a b + aheads m b a = (rows m).length := by
  unfold aheads
  have h := List.length_eq_countP_add_countP (fun l : List Nat => decide (l.idxOf a < l.idxOf b)) (l := rows m)
  rw [List.countP_eq_length_filter, List.countP_eq_length_filter] at h
  rw [h]
  congr 2
  apply List.filter_congr
  intro l hl
  have hrow := (mem_rows hv l).1 hl
  have hne : l.idxOf a ≠ l.idxOf b := fun e => hab (idxOf_inj ((hrow.2.1 a).2 ha) e)
  rw [Bool.eq_iff_iff]
  simp
  omega
end Odr
end Go.Proofs.YtpicjikjinkkpaaDoor
