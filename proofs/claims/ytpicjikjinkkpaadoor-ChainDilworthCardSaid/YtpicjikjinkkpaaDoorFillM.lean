/- Plain words on the search that lays things in rows, thing by thing. No program is in sight. Conditions: none. -/
import Derived.Test.YtpicjikjinkkpaaDoorDilM
import Derived.Test.YtpicjikjinkkpaaDoorBits
namespace Go.Proofs.YtpicjikjinkkpaaDoor
namespace Dil
open Odr

/-- what comes of laying thing i in row k; d are behind it -/
def trial (F : Nat → List Nat → Option (List Nat)) (near rows : List Nat) (i k : Nat) : Option (List Nat) :=
  if diff (rows.getD k 0) (near.getD i 0) = 0 then (F (i + 1) (rows.set k (rows.getD k 0 ||| 2 ^ i))).map (k :: ·) else none
def fill (near : List Nat) (most : Nat) : Nat → Nat → List Nat → Option (List Nat)
  | 0, _, _ => some []
  | d + 1, i, rows =>
    match (List.range rows.length).findSome? (trial (fill near most d) near rows i) with
    | some r => some r
    | none => if rows.length = most then none else (fill near most d (i + 1) (rows ++ [2 ^ i])).map (rows.length :: ·)

theorem first_some {α : Type} {g : Nat → Option α} {n k : Nat} {r : α} (hk : k < n) (hg : g k = some r) (hb : ∀ j, j < k → g j = none) : (List.range n).findSome? g = some r := by
  induction n with
  | zero => omega
  | succ n ih =>
    rw [List.range_succ, List.findSome?_append]
    by_cases h : k < n
    · rw [ih h]; rfl
    · obtain rfl : k = n := by omega
      rw [List.findSome?_eq_none_iff.2 (fun x hx => hb x (List.mem_range.1 hx))]
      simp [hg]
theorem fill_at {near : List Nat} {most d i : Nat} {rows : List Nat} {k : Nat} {r : List Nat} (hk : k < rows.length) (h : trial (fill near most d) near rows i k = some r) (hb : ∀ j, j < k → trial (fill near most d) near rows i j = none) : fill near most (d + 1) i rows = some r := by
  rw [fill, first_some hk h hb]
theorem fill_new {near : List Nat} {most d i : Nat} {rows : List Nat} (hb : ∀ j, j < rows.length → trial (fill near most d) near rows i j = none) : fill near most (d + 1) i rows = if rows.length = most then none else (fill near most d (i + 1) (rows ++ [2 ^ i])).map (rows.length :: ·) := by
  rw [fill, List.findSome?_eq_none_iff.2 (fun x hx => hb x (List.mem_range.1 hx))]
theorem trial_no {F : Nat → List Nat → Option (List Nat)} {near rows : List Nat} {i k : Nat} (h : diff (rows.getD k 0) (near.getD i 0) ≠ 0) : trial F near rows i k = none := if_neg h
theorem trial_yes {F : Nat → List Nat → Option (List Nat)} {near rows : List Nat} {i k : Nat} (h : diff (rows.getD k 0) (near.getD i 0) = 0) : trial F near rows i k = (F (i + 1) (rows.set k (rows.getD k 0 ||| 2 ^ i))).map (k :: ·) := if_pos h
theorem fill_cases {near : List Nat} {most d i : Nat} {rows r : List Nat} (h : fill near most (d + 1) i rows = some r) :
    (∃ k r', k < rows.length ∧ diff (rows.getD k 0) (near.getD i 0) = 0 ∧ fill near most d (i + 1) (rows.set k (rows.getD k 0 ||| 2 ^ i)) = some r' ∧ r = k :: r') ∨
    (rows.length ≠ most ∧ ∃ r', fill near most d (i + 1) (rows ++ [2 ^ i]) = some r' ∧ r = rows.length :: r') := by
  rw [fill] at h
  split at h
  · rename_i r1 h1
    obtain rfl := Option.some.inj h
    obtain ⟨k, hk, hk2⟩ := List.exists_of_findSome?_eq_some h1
    unfold trial at hk2
    split at hk2
    · rename_i hd
      obtain ⟨r', hr', e⟩ := Option.map_eq_some_iff.1 hk2
      exact .inl ⟨k, r', List.mem_range.1 hk, hd, hr', e.symm⟩
    · cases hk2
  · split at h
    · cases h
    · rename_i hne
      obtain ⟨r', hr', e⟩ := Option.map_eq_some_iff.1 h
      exact .inr ⟨hne, r', hr', e.symm⟩

theorem diff_zero_iff (x y : Nat) : diff x y = 0 ↔ ∀ i, x.testBit i = true → y.testBit i = true := by
  constructor
  · intro h i hi
    have := testBit_diff x y i
    rw [h, Nat.zero_testBit, hi] at this
    simpa using this.symm
  · intro h
    apply Nat.eq_of_testBit_eq
    intro i
    rw [testBit_diff, Nat.zero_testBit]
    by_cases g : x.testBit i = true
    · rw [h i g]; simp
    · have : x.testBit i = false := by simpa using g
      rw [this]; rfl
theorem getD_set (l : List Nat) (i j x : Nat) : (l.set i x).getD j 0 = if i = j ∧ i < l.length then x else l.getD j 0 := by
  rw [List.getD_eq_getElem?_getD, List.getD_eq_getElem?_getD, List.getElem?_set]
  by_cases h : i = j
  · subst h
    by_cases hl : i < l.length
    · simp [hl]
    · simp [hl]
  · simp [h]
theorem getD_snoc (l : List Nat) (x j : Nat) : (l ++ [x]).getD j 0 = if j = l.length then x else l.getD j 0 := by
  rw [List.getD_eq_getElem?_getD, List.getD_eq_getElem?_getD]
  rcases Nat.lt_trichotomy j l.length with h | h | h
  · rw [List.getElem?_append_left h, if_neg (by omega)]
  · subst h; simp
  · rw [if_neg (by omega), List.getElem?_append_right (by omega), List.getElem?_eq_none (by simp; omega), List.getElem?_eq_none (by omega)]

/-- where things can be laid in so few rows the search does -/
theorem fill_some {near : List Nat} {most n : Nat} {f : Nat → Nat} (hf : ∀ x, x < n → f x < most) (hnear : ∀ x y, x < n → y < n → x ≠ y → f x = f y → (near.getD y 0).testBit x = true) :
    ∀ (d i : Nat) (rows : List Nat), i + d = n → (∃ c : Nat → Nat, (∀ k l, k < rows.length → l < rows.length → c k = c l → k = l) ∧ (∀ k, k < rows.length → c k < most ∧ ∀ j, (rows.getD k 0).testBit j = true ↔ j < i ∧ f j = c k) ∧ ∀ j, j < i → ∃ k, k < rows.length ∧ f j = c k) →
    ∃ r, fill near most d i rows = some r := by
  intro d
  induction d with
  | zero => intro i rows _ _; exact ⟨[], rfl⟩
  | succ d ih =>
    intro i rows hi ⟨c, hc1, hc2, hc3⟩
    have hin : i < n := by omega
    by_cases hex : ∃ k, k < rows.length ∧ f i = c k
    · obtain ⟨k, hk, ek⟩ := hex
      have hd : diff (rows.getD k 0) (near.getD i 0) = 0 := by
        rw [diff_zero_iff]
        intro j hj
        obtain ⟨j1, j2⟩ := ((hc2 k hk).2 j).1 hj
        exact hnear j i (by omega) hin (by omega) (j2.trans ek.symm)
      obtain ⟨r', hr'⟩ := ih (i + 1) (rows.set k (rows.getD k 0 ||| 2 ^ i)) (by omega) ⟨c, by simpa using hc1, fun k' hk' => by
        rw [List.length_set] at hk'
        refine ⟨(hc2 k' hk').1, fun j => ?_⟩
        rw [getD_set]
        by_cases e : k = k'
        · subst e
          rw [if_pos ⟨rfl, hk⟩, Nat.testBit_or, Nat.testBit_two_pow, Bool.or_eq_true, (hc2 k hk).2 j]
          simp only [decide_eq_true_eq]
          constructor
          · rintro (h | h)
            · exact ⟨by omega, h.2⟩
            · subst h; exact ⟨by omega, ek⟩
          · rintro ⟨h1, h2⟩
            by_cases e : i = j
            · exact .inr e
            · exact .inl ⟨by omega, h2⟩
        · rw [if_neg (fun h => e h.1), (hc2 k' hk').2 j]
          constructor
          · rintro ⟨h1, h2⟩; exact ⟨by omega, h2⟩
          · rintro ⟨h1, h2⟩
            refine ⟨?_, h2⟩
            by_cases e' : j = i
            · subst e'
              exact absurd (hc1 k k' hk hk' (ek.symm.trans h2)) e
            · omega, fun j hj => by
        rw [List.length_set]
        by_cases e : j = i
        · subst e; exact ⟨k, hk, ek⟩
        · exact hc3 j (by omega)⟩
      have ht : trial (fill near most d) near rows i k = some (k :: r') := by rw [trial_yes hd, hr']; rfl
      cases hs : (List.range rows.length).findSome? (trial (fill near most d) near rows i) with
      | some r => exact ⟨r, by rw [fill, hs]⟩
      | none =>
        have := List.findSome?_eq_none_iff.1 hs k (List.mem_range.2 hk)
        rw [ht] at this; cases this
    · have hlen : rows.length ≠ most := by
        intro e
        obtain ⟨k, hk, ek⟩ := hits (T := List.range rows.length) (f := c) (k := most) List.nodup_range (by simp [e]) (fun x hx => (hc2 x (List.mem_range.1 hx)).1) (fun x hx y hy => hc1 x y (List.mem_range.1 hx) (List.mem_range.1 hy)) (hf i hin)
        exact hex ⟨k, List.mem_range.1 hk, ek.symm⟩
      have hc' : ∀ k, (if k = rows.length then f i else c k) = if k = rows.length then f i else c k := fun _ => rfl
      obtain ⟨r', hr'⟩ := ih (i + 1) (rows ++ [2 ^ i]) (by omega) ⟨fun k => if k = rows.length then f i else c k, fun k l hk hl e => by
        rw [List.length_append] at hk hl
        simp only [List.length_cons, List.length_nil] at hk hl
        by_cases e1 : k = rows.length
        · by_cases e2 : l = rows.length
          · omega
          · simp only [if_pos e1, if_neg e2] at e
            exact absurd ⟨l, by omega, e⟩ hex
        · by_cases e2 : l = rows.length
          · simp only [if_neg e1, if_pos e2] at e
            exact absurd ⟨k, by omega, e.symm⟩ hex
          · simp only [if_neg e1, if_neg e2] at e
            exact hc1 k l (by omega) (by omega) e, fun k hk => by
        rw [List.length_append] at hk
        simp only [List.length_cons, List.length_nil] at hk
        by_cases e1 : k = rows.length
        · simp only [if_pos e1]
          refine ⟨hf i hin, fun j => ?_⟩
          rw [getD_snoc, if_pos e1, Nat.testBit_two_pow, decide_eq_true_eq]
          constructor
          · rintro rfl; exact ⟨by omega, rfl⟩
          · rintro ⟨h1, h2⟩
            by_cases e' : i = j
            · exact e'
            · obtain ⟨k', hk', ek'⟩ := hc3 j (by omega)
              exact absurd ⟨k', hk', h2.symm.trans ek'⟩ hex
        · simp only [if_neg e1]
          have hk' : k < rows.length := by omega
          refine ⟨(hc2 k hk').1, fun j => ?_⟩
          rw [getD_snoc, if_neg e1, (hc2 k hk').2 j]
          constructor
          · rintro ⟨h1, h2⟩; exact ⟨by omega, h2⟩
          · rintro ⟨h1, h2⟩
            refine ⟨?_, h2⟩
            by_cases e' : j = i
            · subst e'; exact absurd ⟨k, hk', h2⟩ hex
            · omega, fun j hj => by
        rw [List.length_append]
        by_cases e : j = i
        · subst e; exact ⟨rows.length, by simp, by show _ = ite _ _ _; rw [if_pos rfl]⟩
        · obtain ⟨k, hk, ek⟩ := hc3 j (by omega)
          exact ⟨k, by simp; omega, by show _ = ite _ _ _; rw [if_neg (by omega)]; exact ek⟩⟩
      cases hs : (List.range rows.length).findSome? (trial (fill near most d) near rows i) with
      | some r => exact ⟨r, by rw [fill, hs]⟩
      | none => exact ⟨rows.length :: r', by rw [fill, hs]; simp only [if_neg hlen, hr']; rfl⟩

/-- how many rows the first j are laid in, where each new row has the next number -/
def cntTo (l : List Nat) : Nat → Nat
  | 0 => 0
  | j + 1 => if l.getD j 0 = cntTo l j then cntTo l j + 1 else cntTo l j
theorem cntTo_append (l m : List Nat) (j : Nat) (h : j ≤ l.length) : cntTo (l ++ m) j = cntTo l j := by
  induction j with
  | zero => rfl
  | succ j ih =>
    have e : (l ++ m).getD j 0 = l.getD j 0 := by
      rw [List.getD_eq_getElem?_getD, List.getD_eq_getElem?_getD, List.getElem?_append_left (by omega)]
    rw [cntTo, cntTo, ih (by omega), e]
/-- things laid in rows: numbered as they come, each row of things near to each other -/
def Laidin (near l rows : List Nat) : Prop := cntTo l l.length = rows.length ∧ (∀ k, k < rows.length → ∀ j, (rows.getD k 0).testBit j = true ↔ j < l.length ∧ l.getD j 0 = k) ∧ (∀ j, j < l.length → l.getD j 0 ≤ cntTo l j) ∧
  (∀ j, j < l.length → ∀ i, i < j → l.getD i 0 = l.getD j 0 → (near.getD j 0).testBit i = true) ∧ ∀ j, j < l.length → l.getD j 0 < rows.length
theorem laidin_nil (near : List Nat) : Laidin near [] [] := ⟨rfl, fun k hk => by simp at hk, fun j hj => by simp at hj, fun j hj => by simp at hj, fun j hj => by simp at hj⟩
theorem laidin_old {near l rows : List Nat} (h : Laidin near l rows) {k : Nat} (hk : k < rows.length) (hd : diff (rows.getD k 0) (near.getD l.length 0) = 0) : Laidin near (l ++ [k]) (rows.set k (rows.getD k 0 ||| 2 ^ l.length)) := by
  obtain ⟨h1, h2, h3, h4, h5⟩ := h
  have hl : (l ++ [k]).length = l.length + 1 := by simp
  refine ⟨?_, ?_, ?_, ?_, ?_⟩
  · rw [hl, cntTo, getD_snoc, if_pos rfl, cntTo_append l _ _ (Nat.le_refl _), h1, if_neg (by omega), List.length_set]
  · intro k' hk' j
    rw [List.length_set] at hk'
    rw [getD_set, hl, getD_snoc]
    by_cases e : k = k'
    · subst e
      rw [if_pos ⟨rfl, hk⟩, Nat.testBit_or, Nat.testBit_two_pow, Bool.or_eq_true, decide_eq_true_eq, h2 k hk j]
      by_cases e2 : j = l.length
      · rw [if_pos e2]; constructor
        · intro _; exact ⟨by omega, rfl⟩
        · intro _; exact .inr e2.symm
      · rw [if_neg e2]; constructor
        · rintro (h | h)
          · exact ⟨by omega, h.2⟩
          · exact absurd h.symm e2
        · rintro ⟨a, b⟩; exact .inl ⟨by omega, b⟩
    · rw [if_neg (fun h => e h.1), h2 k' hk' j]
      by_cases e2 : j = l.length
      · rw [if_pos e2]; constructor
        · rintro ⟨a, _⟩; omega
        · rintro ⟨_, b⟩; exact absurd b e
      · rw [if_neg e2]; constructor
        · rintro ⟨a, b⟩; exact ⟨by omega, b⟩
        · rintro ⟨a, b⟩; exact ⟨by omega, b⟩
  · intro j hj
    rw [hl] at hj
    rw [getD_snoc, cntTo_append l _ _ (by omega)]
    split
    · rename_i e; subst e; omega
    · exact h3 j (by omega)
  · intro j hj i hi
    rw [hl] at hj
    rw [getD_snoc, getD_snoc, if_neg (by omega)]
    split
    · rename_i e
      subst e
      intro e
      exact (diff_zero_iff _ _).1 hd i ((h2 k hk i).2 ⟨hi, e⟩)
    · exact h4 j (by omega) i hi
  · intro j hj
    rw [hl] at hj
    rw [getD_snoc, List.length_set]
    split
    · exact hk
    · exact h5 j (by omega)
theorem laidin_new {near l rows : List Nat} (h : Laidin near l rows) : Laidin near (l ++ [rows.length]) (rows ++ [2 ^ l.length]) := by
  obtain ⟨h1, h2, h3, h4, h5⟩ := h
  have hl : (l ++ [rows.length]).length = l.length + 1 := by simp
  refine ⟨?_, ?_, ?_, ?_, ?_⟩
  · rw [hl, cntTo, getD_snoc, if_pos rfl, cntTo_append l _ _ (Nat.le_refl _), h1, if_pos rfl]; simp
  · intro k hk j
    rw [List.length_append] at hk
    simp only [List.length_cons, List.length_nil] at hk
    rw [getD_snoc, hl, getD_snoc]
    by_cases e : k = rows.length
    · rw [if_pos e, Nat.testBit_two_pow, decide_eq_true_eq]
      by_cases e2 : j = l.length
      · rw [if_pos e2]; constructor
        · intro _; exact ⟨by omega, e.symm⟩
        · intro _; exact e2.symm
      · rw [if_neg e2]; constructor
        · intro h; exact absurd h.symm e2
        · rintro ⟨a, b⟩
          have := h5 j (by omega)
          omega
    · rw [if_neg e, h2 k (by omega) j]
      by_cases e2 : j = l.length
      · rw [if_pos e2]; constructor
        · rintro ⟨a, _⟩; omega
        · rintro ⟨_, b⟩; exact absurd b.symm e
      · rw [if_neg e2]; constructor
        · rintro ⟨a, b⟩; exact ⟨by omega, b⟩
        · rintro ⟨a, b⟩; exact ⟨by omega, b⟩
  · intro j hj
    rw [hl] at hj
    rw [getD_snoc, cntTo_append l _ _ (by omega)]
    split
    · rename_i e; subst e; omega
    · exact h3 j (by omega)
  · intro j hj i hi
    rw [hl] at hj
    rw [getD_snoc, getD_snoc, if_neg (by omega)]
    split
    · intro e
      have := h5 i (by omega)
      omega
    · exact h4 j (by omega) i hi
  · intro j hj
    rw [hl] at hj
    rw [getD_snoc, List.length_append]
    split
    · simp
    · exact Nat.lt_of_lt_of_le (h5 j (by omega)) (Nat.le_add_right _ _)
theorem fill_spec {near : List Nat} {most : Nat} : ∀ (d i : Nat) (rows r l : List Nat), fill near most d i rows = some r → l.length = i → Laidin near l rows → rows.length ≤ most → (l ++ r).length = i + d ∧ ∃ rows', rows'.length ≤ most ∧ Laidin near (l ++ r) rows' := by
  intro d
  induction d with
  | zero =>
    intro i rows r l h hl hL hm
    rw [fill] at h
    obtain rfl := Option.some.inj h
    rw [List.append_nil]
    exact ⟨by omega, rows, hm, hL⟩
  | succ d ih =>
    intro i rows r l h hl hL hm
    subst hl
    rcases fill_cases h with ⟨k, r', hk, hd, hr', rfl⟩ | ⟨hne, r', hr', rfl⟩
    · obtain ⟨g1, g2⟩ := ih (l.length + 1) _ r' (l ++ [k]) hr' (by simp) (laidin_old hL hk hd) (by simpa using hm)
      rw [List.append_assoc] at g1 g2
      exact ⟨by simpa using (show (l ++ ([k] ++ r')).length = l.length + (d + 1) by omega), g2⟩
    · obtain ⟨g1, g2⟩ := ih (l.length + 1) _ r' (l ++ [rows.length]) hr' (by simp) (laidin_new hL) (by simp; omega)
      rw [List.append_assoc] at g1 g2
      exact ⟨by simpa using (show (l ++ ([rows.length] ++ r')).length = l.length + (d + 1) by omega), g2⟩
theorem length_fill {near : List Nat} {most : Nat} : ∀ (d i : Nat) (rows r : List Nat), fill near most d i rows = some r → r.length = d := by
  intro d
  induction d with
  | zero => intro i rows r h; rw [fill] at h; obtain rfl := Option.some.inj h; rfl
  | succ d ih =>
    intro i rows r h
    rcases fill_cases h with ⟨k, r', _, _, hr', rfl⟩ | ⟨_, r', hr', rfl⟩
    · rw [List.length_cons, ih _ _ _ hr']
    · rw [List.length_cons, ih _ _ _ hr']
end Dil
end Go.Proofs.YtpicjikjinkkpaaDoor
