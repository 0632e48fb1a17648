/- Plain words on the steps of a word: who is in which, and how long a row stays ahead of a letter. No program is in sight. Conditions: none. -/
import Derived.Test.YtoedgncbgkdmoaaDoorFoldM
namespace Go.Proofs.YtoedgncbgkdmoaaDoor
namespace Fld
open Odr

/-- CARTIER, FOATA: letters, no step without one, those of one step may change places, each letter but of the first step is tied to one of the step ahead -/
def Foata (free out : List Nat) : Prop :=
  (∀ k x, rel out k x = true → x < free.length) ∧ (∀ k, k < out.length → ∃ x, rel out k x = true) ∧
  (∀ k x y, rel out k x = true → rel out k y = true → x ≠ y → rel free x y = true) ∧
  (∀ k x, rel out (k + 1) x = true → ∃ y, rel out k y = true ∧ rel free x y = false)
theorem foata_nil (free : List Nat) : Foata free [] := by
  have h0 : ∀ k x, rel [] k x = false := fun k x => rel_out (Nat.zero_le _)
  refine ⟨fun k x h => ?_, fun k h => absurd h (by simp), fun k x y h => ?_, fun k x h => ?_⟩
  all_goals (rw [h0] at h; cases h)
theorem foata_step {free out : List Nat} (hg : Good free) (h : Foata free out) {a : Nat} (ha : a < free.length) : Foata free (step free out a) := by
  obtain ⟨h1, h2, h3, h4⟩ := h
  have hp := pos_le free out a out.length
  have hclear : ∀ y, rel out (pos free out a out.length) y = true → rel free a y = true := by
    intro y hy
    rcases Nat.lt_or_ge (pos free out a out.length) out.length with hj | hj
    · exact pos_clear free out a _ _ (Nat.le_refl _) hj y hy
    · rw [rel_out hj] at hy; cases hy
  refine ⟨fun k x hx => ?_, fun k hk => ?_, fun k x y hx hy hne => ?_, fun k x hx => ?_⟩
  · rw [rel_step] at hx
    rcases Bool.or_eq_true .. |>.mp hx with hx | hx
    · exact h1 k x hx
    · simp at hx; rw [hx.2]; exact ha
  · rw [length_step] at hk
    by_cases hj : k < out.length
    · obtain ⟨x, hx⟩ := h2 k hj
      exact ⟨x, by rw [rel_step, hx]; rfl⟩
    · exact ⟨a, by rw [rel_step, show k = pos free out a out.length by omega]; simp⟩
  · rw [rel_step] at hx hy
    rcases Bool.or_eq_true .. |>.mp hx with hx | hx
    · rcases Bool.or_eq_true .. |>.mp hy with hy | hy
      · exact h3 k x y hx hy hne
      · simp at hy
        obtain ⟨rfl, rfl⟩ := hy
        exact hg.2.2.2 _ _ (hclear x hx)
    · simp at hx
      obtain ⟨rfl, rfl⟩ := hx
      rcases Bool.or_eq_true .. |>.mp hy with hy | hy
      · exact hclear y hy
      · simp at hy; exact absurd hy.symm hne
  · rw [rel_step] at hx
    rcases Bool.or_eq_true .. |>.mp hx with hx | hx
    · obtain ⟨y, hy, hf⟩ := h4 k x hx
      exact ⟨y, by rw [rel_step, hy]; rfl, hf⟩
    · simp at hx
      obtain ⟨hk, rfl⟩ := hx
      rcases pos_stop free out x out.length with h0 | ⟨y, hy, hf⟩
      · omega
      · rw [← hk, Nat.add_sub_cancel] at hy
        exact ⟨y, by rw [rel_step, hy]; rfl, hf⟩
theorem foata_from {free : List Nat} (hg : Good free) : ∀ (w out : List Nat), (∀ x ∈ w, x < free.length) → Foata free out → Foata free (stepsFrom free out w) := by
  intro w
  induction w with
  | nil => intro out _ h; exact h
  | cons a w ih =>
    intro out hw h
    exact ih _ (fun x hx => hw x (List.mem_cons_of_mem _ hx)) (foata_step hg h (hw a (List.mem_cons_self ..)))
theorem foata_steps {free w : List Nat} (hg : Good free) (hw : ∀ x ∈ w, x < free.length) : Foata free (steps free w) := foata_from hg w [] hw (foata_nil free)

/-- a step is a number between -/
theorem Foata.lt {free out : List Nat} (h : Foata free out) (k : Nat) : out.getD k 0 < 2 ^ free.length := by
  apply Nat.lt_pow_two_of_testBit
  intro i hi
  cases hx : (out.getD k 0).testBit i
  · rfl
  · have := h.1 k i hx; omega
theorem Foata.pos {free out : List Nat} (h : Foata free out) {k : Nat} (hk : k < out.length) : 0 < out.getD k 0 := by
  obtain ⟨x, hx⟩ := h.2.1 k hk
  unfold rel at hx
  rcases Nat.eq_zero_or_pos (out.getD k 0) with h0 | h0
  · rw [h0] at hx; simp at hx
  · exact h0

/-- the letters of a step, and of all -/
def lets (n x : Nat) : List Nat := (List.range n).filter x.testBit
def flat (n : Nat) (out : List Nat) : List Nat := out.flatMap (lets n)
theorem flat_snoc (n : Nat) (out : List Nat) (x : Nat) : flat n (out ++ [x]) = flat n out ++ lets n x := by simp [flat]

theorem filter_one {n a : Nat} {p : Nat → Bool} (ha : a < n) (h : ∀ x, x < n → (p x = true ↔ x = a)) : (List.range n).filter p = [a] := by
  induction n with
  | zero => omega
  | succ n ih =>
    rw [List.range_succ, List.filter_append]
    by_cases e : a = n
    · subst e
      have h1 : (List.range a).filter p = [] := by
        rw [List.filter_eq_nil_iff]
        intro x hx hp
        have := (h x (by have := List.mem_range.1 hx; omega)).1 hp
        have := List.mem_range.1 hx
        omega
      rw [h1, List.filter_cons, if_pos ((h a (by omega)).2 rfl)]
      rfl
    · rw [ih (by omega) (fun x hx => h x (by omega)), List.filter_cons, if_neg (fun hp => e ((h n (by omega)).1 hp).symm)]
      rfl
theorem proj_lets {free out : List Nat} (h : Foata free out) {a b : Nat} (ha : a < free.length) (hb : b < free.length) (hd : rel free a b = false) (k : Nat) :
    proj (lets free.length (out.getD k 0)) a b = seen out a b k := by
  unfold proj lets seen
  rw [List.filter_filter]
  by_cases h1 : rel out k a = true
  · rw [if_pos h1]
    refine filter_one ha fun x hx => ?_
    simp only [Bool.and_eq_true, Bool.or_eq_true, decide_eq_true_eq]
    constructor
    · rintro ⟨hx1 | hx1, hx2⟩
      · exact hx1
      · subst hx1
        by_cases e : x = a
        · exact e
        · rw [h.2.2.1 k a x h1 hx2 (fun e' => e e'.symm)] at hd; cases hd
    · rintro rfl
      exact ⟨.inl rfl, h1⟩
  · rw [if_neg h1]
    by_cases h2 : rel out k b = true
    · rw [if_pos h2]
      refine filter_one hb fun x hx => ?_
      simp only [Bool.and_eq_true, Bool.or_eq_true, decide_eq_true_eq]
      constructor
      · rintro ⟨hx1 | hx1, hx2⟩
        · subst hx1; exact absurd hx2 h1
        · exact hx1
      · rintro rfl
        exact ⟨.inr rfl, h2⟩
    · rw [if_neg h2, List.filter_eq_nil_iff]
      intro x _
      simp only [Bool.and_eq_true, Bool.or_eq_true, decide_eq_true_eq]
      rintro ⟨rfl | rfl, hx2⟩
      · exact h1 hx2
      · exact h2 hx2
theorem proj_flat_to {free out : List Nat} (h : Foata free out) {a b : Nat} (ha : a < free.length) (hb : b < free.length) (hd : rel free a b = false) (k : Nat) (hk : k ≤ out.length) :
    proj (flat free.length (out.take k)) a b = rd out a b k := by
  induction k with
  | zero => simp [flat, proj, rd]
  | succ k ih =>
    have e : out.take (k + 1) = out.take k ++ [out.getD k 0] := by
      rw [List.take_succ_eq_append_getElem (by omega), List.getD_eq_getElem?_getD, List.getElem?_eq_getElem (by omega)]
      rfl
    rw [e, flat_snoc, proj_append, ih (by omega), proj_lets h ha hb hd, rd]
theorem mem_flat {n : Nat} {out : List Nat} : ∀ x ∈ flat n out, x < n := by
  intro x hx
  obtain ⟨y, _, hy⟩ := List.mem_flatMap.1 hx
  exact List.mem_range.1 (List.mem_filter.1 hy).1

/-- the word of all steps is the same word -/
theorem steps_flat {free w : List Nat} (hg : Good free) (hw : ∀ x ∈ w, x < free.length) : steps free (flat free.length (steps free w)) = steps free w := by
  refine (steps_eq_iff hg mem_flat hw).2 fun a b ha hb hd => ?_
  have h := proj_flat_to (foata_steps hg hw) ha hb hd (steps free w).length (Nat.le_refl _)
  rw [List.take_length] at h
  rw [h, rd_steps hg hd w]

/-- how long a row stays ahead -/
def rankTo (R : Nat → Nat → Bool) (rks : List Nat) (j : Nat) : Nat → Nat
  | 0 => 0
  | i + 1 => if R i j = true ∧ rankTo R rks j i < rks.getD i 0 + 1 then rks.getD i 0 + 1 else rankTo R rks j i
def ranks (R : Nat → Nat → Bool) : Nat → List Nat
  | 0 => []
  | j + 1 => ranks R j ++ [rankTo R (ranks R j) j j]
def rkAt (R : Nat → Nat → Bool) (j : Nat) : Nat := rankTo R (ranks R j) j j
def longTo (R : Nat → Nat → Bool) : Nat → Nat
  | 0 => 0
  | j + 1 => max (longTo R j) (rkAt R j + 1)
theorem length_ranks (R : Nat → Nat → Bool) (j : Nat) : (ranks R j).length = j := by
  induction j with
  | zero => rfl
  | succ j ih => rw [ranks, List.length_append, ih]; rfl
theorem getD_ranks (R : Nat → Nat → Bool) {i j : Nat} (h : i < j) : (ranks R j).getD i 0 = rkAt R i := by
  induction j with
  | zero => omega
  | succ j ih =>
    rw [ranks, List.getD_eq_getElem?_getD, List.getElem?_append, length_ranks]
    by_cases hi : i < j
    · rw [if_pos hi, ← List.getD_eq_getElem?_getD, ih hi]
    · obtain rfl : i = j := by omega
      rw [if_neg hi, Nat.sub_self]
      rfl
theorem rankTo_ge {R : Nat → Nat → Bool} {rks : List Nat} {j n i : Nat} (hi : i < n) (h : R i j = true) : rks.getD i 0 + 1 ≤ rankTo R rks j n := by
  induction n with
  | zero => omega
  | succ n ih =>
    rw [rankTo]
    by_cases e : i = n
    · subst e
      split
      · exact Nat.le_refl _
      · rename_i hc
        exact Nat.le_of_not_lt fun hh => hc ⟨h, by omega⟩
    · have := ih (by omega)
      split <;> omega
theorem rankTo_at (R : Nat → Nat → Bool) (rks : List Nat) (j n : Nat) : rankTo R rks j n = 0 ∨ ∃ i, i < n ∧ R i j = true ∧ rankTo R rks j n = rks.getD i 0 + 1 := by
  induction n with
  | zero => exact .inl rfl
  | succ n ih =>
    rw [rankTo]
    split
    · rename_i hc
      exact .inr ⟨n, by omega, hc.1, rfl⟩
    · rcases ih with h | ⟨i, hi, h1, h2⟩
      · exact .inl h
      · exact .inr ⟨i, by omega, h1, h2⟩
theorem rkAt_ge {R : Nat → Nat → Bool} {i j : Nat} (hi : i < j) (h : R i j = true) : rkAt R i + 1 ≤ rkAt R j := by
  have := rankTo_ge (rks := ranks R j) hi h
  rwa [getD_ranks R hi] at this
theorem rkAt_at (R : Nat → Nat → Bool) (j : Nat) : rkAt R j = 0 ∨ ∃ i, i < j ∧ R i j = true ∧ rkAt R j = rkAt R i + 1 := by
  rcases rankTo_at R (ranks R j) j j with h | ⟨i, hi, h1, h2⟩
  · exact .inl h
  · rw [getD_ranks R hi] at h2
    exact .inr ⟨i, hi, h1, h2⟩
theorem rkAt_lt_longTo {R : Nat → Nat → Bool} {i j : Nat} (h : i < j) : rkAt R i < longTo R j := by
  induction j with
  | zero => omega
  | succ j ih =>
    rw [longTo]
    by_cases e : i = j
    · subst e; omega
    · have := ih (by omega); omega
theorem rkAt_le (R : Nat → Nat → Bool) (j : Nat) : rkAt R j ≤ j := by
  induction j using Nat.strongRecOn with
  | ind j ih =>
    rcases rkAt_at R j with h | ⟨i, hi, _, h⟩
    · omega
    · have := ih i hi; omega

/-- must a letter stay behind an earlier one? -/
def stay (free w : List Nat) (i j : Nat) : Bool := !rel free (w.getD i 0) (w.getD j 0)

theorem take_succ_getD (w : List Nat) {j : Nat} (hj : j < w.length) : w.take (j + 1) = w.take j ++ [w.getD j 0] := by
  rw [List.take_succ_eq_append_getElem hj, List.getD_eq_getElem?_getD, List.getElem?_eq_getElem hj]
  rfl
theorem steps_take (free w : List Nat) {j : Nat} (hj : j < w.length) : steps free (w.take (j + 1)) = step free (steps free (w.take j)) (w.getD j 0) := by
  rw [take_succ_getD w hj]
  unfold steps
  rw [stepsFrom_append]
  rfl

/-- the step of each letter is its rank -/
theorem steps_ranks {free w : List Nat} (hg : Good free) (j : Nat) (hj : j ≤ w.length) :
    (steps free (w.take j)).length = longTo (stay free w) j ∧
    (∀ k x, rel (steps free (w.take j)) k x = true ↔ ∃ i, i < j ∧ w.getD i 0 = x ∧ rkAt (stay free w) i = k) ∧
    (∀ i, i < j → pos free (steps free (w.take i)) (w.getD i 0) (steps free (w.take i)).length = rkAt (stay free w) i) := by
  induction j with
  | zero =>
    refine ⟨rfl, fun k x => ?_, fun i hi => by omega⟩
    constructor
    · intro h
      rw [List.take_zero, show steps free [] = [] from rfl, rel_out (Nat.zero_le _)] at h; cases h
    · rintro ⟨i, hi, _⟩; omega
  | succ j ih =>
    obtain ⟨h1, h2, h3⟩ := ih (by omega)
    have hp : pos free (steps free (w.take j)) (w.getD j 0) (steps free (w.take j)).length = rkAt (stay free w) j := by
      refine pos_unique ?_ (fun k hk1 hk2 x hx => ?_) ?_
      · rw [h1]
        rcases rkAt_at (stay free w) j with h | ⟨i, hi, _, h⟩
        · omega
        · have := rkAt_lt_longTo (R := stay free w) hi; omega
      · obtain ⟨i, hi, rfl, hr⟩ := (h2 k x).1 hx
        cases hf : rel free (w.getD j 0) (w.getD i 0)
        · exfalso
          have hs : stay free w i j = true := by
            unfold stay
            cases hg' : rel free (w.getD i 0) (w.getD j 0)
            · rfl
            · rw [hg.2.2.2 _ _ hg'] at hf; cases hf
          have := rkAt_ge hi hs
          omega
        · rfl
      · rcases rkAt_at (stay free w) j with h | ⟨i, hi, hs, h⟩
        · exact .inl h
        · refine .inr ⟨w.getD i 0, (h2 _ _).2 ⟨i, hi, rfl, by omega⟩, ?_⟩
          unfold stay at hs
          cases hf : rel free (w.getD j 0) (w.getD i 0)
          · rfl
          · rw [hg.2.2.2 _ _ hf] at hs; cases hs
    rw [steps_take free w (by omega)]
    refine ⟨?_, fun k x => ?_, fun i hi => ?_⟩
    · rw [length_step, hp, h1, longTo]
    · rw [rel_step, hp, Bool.or_eq_true, h2]
      constructor
      · rintro (⟨i, hi, h⟩ | h)
        · exact ⟨i, by omega, h⟩
        · simp at h
          exact ⟨j, by omega, h.2.symm, h.1.symm⟩
      · rintro ⟨i, hi, h⟩
        by_cases e : i < j
        · exact .inl ⟨i, e, h⟩
        · obtain rfl : i = j := by omega
          refine .inr ?_
          simp
          exact ⟨h.2.symm, h.1.symm⟩
    · by_cases e : i < j
      · exact h3 i e
      · obtain rfl : i = j := by omega
        exact hp
theorem length_steps {free w : List Nat} (hg : Good free) : (steps free w).length = longTo (stay free w) w.length := by
  have := (steps_ranks (w := w) hg w.length (Nat.le_refl _)).1
  rwa [List.take_length] at this

end Fld
end Go.Proofs.YtoedgncbgkdmoaaDoor
