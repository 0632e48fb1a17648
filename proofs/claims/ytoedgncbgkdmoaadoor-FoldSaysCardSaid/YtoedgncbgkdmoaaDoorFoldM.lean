/- Plain words on words some of whose letters may change places: steps, and two letters at a time. No program is in sight. Conditions: none. -/
import Derived.Test.YtoedgncbgkdmoaaDoorOrd
import Derived.Test.YtoedgncbgkdmoaaDoorBits
namespace Go.Proofs.YtoedgncbgkdmoaaDoor
namespace Fld
open Odr

/-- of each letter those it may change places with: nobody with itself, and each way round -/
def Good (free : List Nat) : Prop := free.length ≤ 6 ∧ Fits free ∧ (∀ i, rel free i i = false) ∧ (∀ i j, rel free i j = true → rel free j i = true)

/-- down from k: the first step that a letter may not go over, one more than it -/
def pos (free out : List Nat) (a : Nat) : Nat → Nat
  | 0 => 0
  | k + 1 => if diff (out.getD k 0) (free.getD a 0) = 0 then pos free out a k else k + 1
def put (out : List Nat) (a k : Nat) : List Nat := if k = out.length then out ++ [2 ^ a] else out.set k (out.getD k 0 ||| 2 ^ a)
def step (free out : List Nat) (a : Nat) : List Nat := put out a (pos free out a out.length)
def stepsFrom (free out w : List Nat) : List Nat := w.foldl (step free) out
def steps (free w : List Nat) : List Nat := stepsFrom free [] w

theorem diff_zero (x y : Nat) : diff x y = 0 ↔ ∀ i, x.testBit i = true → y.testBit i = true := by
  constructor
  · intro h i hi
    have := testBit_diff x y i
    rw [h, hi] at this
    simpa using this
  · intro h
    apply Nat.eq_of_testBit_eq
    intro i
    rw [testBit_diff]
    cases hx : x.testBit i
    · simp
    · simp [h i hx]

theorem rel_ext {l m : List Nat} (hl : l.length = m.length) (h : ∀ i j, rel l i j = rel m i j) : l = m := by
  apply List.ext_getElem hl
  intro i h1 h2
  apply Nat.eq_of_testBit_eq
  intro j
  have := h i j
  unfold rel at this
  simpa [List.getD_eq_getElem?_getD, List.getElem?_eq_getElem h1, List.getElem?_eq_getElem h2] using this
theorem rel_out {l : List Nat} {i j : Nat} (h : l.length ≤ i) : rel l i j = false := by
  unfold rel
  rw [List.getD_eq_getElem?_getD, List.getElem?_eq_none h]
  simp

theorem pos_le (free out : List Nat) (a n : Nat) : pos free out a n ≤ n := by
  induction n with
  | zero => exact Nat.le_refl _
  | succ n ih => rw [pos]; split <;> omega
theorem pos_clear (free out : List Nat) (a n : Nat) : ∀ j, pos free out a n ≤ j → j < n → ∀ x, rel out j x = true → rel free a x = true := by
  induction n with
  | zero => intro j _ h; omega
  | succ n ih =>
    intro j h1 h2 x hx
    rw [pos] at h1
    split at h1
    · rename_i hd
      rcases Nat.lt_or_ge j n with h | h
      · exact ih j h1 h x hx
      · obtain rfl : j = n := by omega
        exact (diff_zero _ _).1 hd x hx
    · omega
theorem pos_stop (free out : List Nat) (a n : Nat) : pos free out a n = 0 ∨ ∃ x, rel out (pos free out a n - 1) x = true ∧ rel free a x = false := by
  induction n with
  | zero => exact .inl rfl
  | succ n ih =>
    rw [pos]
    split
    · exact ih
    · rename_i hd
      refine .inr ?_
      rw [diff_zero] at hd
      simp only [Nat.add_sub_cancel]
      by_cases h : ∃ x, rel out n x = true ∧ rel free a x = false
      · exact h
      · refine absurd (fun i hi => ?_) hd
        cases hf : (free.getD a 0).testBit i
        · exact absurd ⟨i, hi, hf⟩ h
        · rfl
theorem pos_unique {free out : List Nat} {a n k : Nat} (hk : k ≤ n) (h1 : ∀ j, k ≤ j → j < n → ∀ x, rel out j x = true → rel free a x = true) (h2 : k = 0 ∨ ∃ x, rel out (k - 1) x = true ∧ rel free a x = false) :
    pos free out a n = k := by
  have hp := pos_le free out a n
  rcases Nat.lt_trichotomy (pos free out a n) k with h | h | h
  · rcases h2 with h2 | ⟨x, hx, hf⟩
    · omega
    · rw [pos_clear free out a n (k - 1) (by omega) (by omega) x hx] at hf; cases hf
  · exact h
  · rcases pos_stop free out a n with h3 | ⟨x, hx, hf⟩
    · omega
    · rw [h1 (pos free out a n - 1) (by omega) (by omega) x hx] at hf; cases hf

theorem length_put {out : List Nat} {a k : Nat} (hk : k ≤ out.length) : (put out a k).length = max out.length (k + 1) := by
  unfold put
  split
  · simp; omega
  · simp; omega
theorem rel_put {out : List Nat} {a k : Nat} (hk : k ≤ out.length) (j x : Nat) : rel (put out a k) j x = (rel out j x || (decide (j = k) && decide (x = a))) := by
  unfold put
  by_cases h : k = out.length
  · rw [if_pos h]
    unfold rel
    rw [List.getD_eq_getElem?_getD, List.getElem?_append]
    by_cases hj : j < out.length
    · rw [if_pos hj, ← List.getD_eq_getElem?_getD]
      have : ¬ j = k := by omega
      simp [this]
    · rw [if_neg hj, List.getD_eq_getElem?_getD, List.getElem?_eq_none (by omega : out.length ≤ j)]
      by_cases hjk : j = k
      · subst hjk
        rw [show j - out.length = 0 by omega]
        simp [Nat.testBit_two_pow, eq_comm]
      · rw [List.getElem?_eq_none (by simp; omega)]
        simp [hjk]
  · rw [if_neg h]
    exact rel_more (by omega) j x
theorem length_step (free out : List Nat) (a : Nat) : (step free out a).length = max out.length (pos free out a out.length + 1) := length_put (pos_le _ _ _ _)
theorem rel_step (free out : List Nat) (a j x : Nat) : rel (step free out a) j x = (rel out j x || (decide (j = pos free out a out.length) && decide (x = a))) := rel_put (pos_le _ _ _ _) j x

theorem pos_step {free out : List Nat} {a b : Nat} (h : rel free a b = true) : pos free (step free out b) a (step free out b).length = pos free out a out.length := by
  have hl := length_step free out b
  have ha := pos_le free out a out.length
  refine pos_unique (by omega) (fun j h1 h2 x hx => ?_) ?_
  · rw [rel_step] at hx
    rcases Bool.or_eq_true .. |>.mp hx with hx | hx
    · rcases Nat.lt_or_ge j out.length with hj | hj
      · exact pos_clear free out a _ j h1 hj x hx
      · rw [rel_out hj] at hx; cases hx
    · simp at hx
      rw [hx.2]; exact h
  · rcases pos_stop free out a out.length with h0 | ⟨x, hx, hf⟩
    · exact .inl h0
    · exact .inr ⟨x, by rw [rel_step, hx]; rfl, hf⟩

/-- two letters that may change places do -/
theorem step_comm {free out : List Nat} {a b : Nat} (h1 : rel free a b = true) (h2 : rel free b a = true) : step free (step free out a) b = step free (step free out b) a := by
  apply rel_ext
  · rw [length_step free (step free out a), length_step free (step free out b), pos_step h1, pos_step h2, length_step, length_step]
    omega
  · intro i j
    rw [rel_step free (step free out a), rel_step free (step free out b), pos_step h1, pos_step h2, rel_step, rel_step]
    cases rel out i j <;> simp [Bool.or_comm]

theorem stepsFrom_append (free out u v : List Nat) : stepsFrom free out (u ++ v) = stepsFrom free (stepsFrom free out u) v := List.foldl_append
theorem stepsFrom_cons (free out : List Nat) (a : Nat) (v : List Nat) : stepsFrom free out (a :: v) = stepsFrom free (step free out a) v := rfl

/-- a letter goes ahead of all that it may change places with -/
theorem stepsFrom_front {free : List Nat} (hg : Good free) {a : Nat} : ∀ (u : List Nat) (out v : List Nat), (∀ x ∈ u, rel free a x = true) → stepsFrom free out (u ++ a :: v) = stepsFrom free out (a :: (u ++ v)) := by
  intro u
  induction u with
  | nil => intro out v _; rfl
  | cons x u ih =>
    intro out v h
    have hx := h x (List.mem_cons_self ..)
    rw [List.cons_append, stepsFrom_cons, ih _ _ (fun y hy => h y (List.mem_cons_of_mem _ hy)), stepsFrom_cons, List.cons_append, stepsFrom_cons, stepsFrom_cons, step_comm (hg.2.2.2 _ _ hx) hx]

/-- a word where all letters but two are left out -/
def proj (w : List Nat) (a b : Nat) : List Nat := w.filter fun x => decide (x = a) || decide (x = b)
theorem proj_append (u v : List Nat) (a b : Nat) : proj (u ++ v) a b = proj u a b ++ proj v a b := List.filter_append ..
theorem proj_comm (w : List Nat) (a b : Nat) : proj w a b = proj w b a := by
  unfold proj
  congr 1
  funext x
  exact Bool.or_comm _ _
theorem proj_none {w : List Nat} {a b : Nat} (h1 : a ∉ w) (h2 : b ∉ w) : proj w a b = [] := by
  unfold proj
  rw [List.filter_eq_nil_iff]
  intro x hx
  simp
  exact ⟨fun h => h1 (h ▸ hx), fun h => h2 (h ▸ hx)⟩
theorem proj_cons_in {x : Nat} {w : List Nat} {a b : Nat} (h : x = a ∨ x = b) : proj (x :: w) a b = x :: proj w a b := by
  unfold proj
  rw [List.filter_cons, if_pos (by simpa using h)]
theorem proj_cons_out {x : Nat} {w : List Nat} {a b : Nat} (h1 : x ≠ a) (h2 : x ≠ b) : proj (x :: w) a b = proj w a b := by
  unfold proj
  rw [List.filter_cons, if_neg (by simp [h1, h2])]

/-- what a step shows of two letters of which it has at most one -/
def seen (out : List Nat) (a b k : Nat) : List Nat := if rel out k a then [a] else if rel out k b then [b] else []
def rd (out : List Nat) (a b : Nat) : Nat → List Nat
  | 0 => []
  | k + 1 => rd out a b k ++ seen out a b k
theorem rd_none {out : List Nat} {a b k : Nat} : ∀ n, k ≤ n → (∀ j, k ≤ j → j < n → rel out j a = false ∧ rel out j b = false) → rd out a b n = rd out a b k := by
  intro n
  induction n with
  | zero => intro h _; rw [show k = 0 by omega]
  | succ n ih =>
    intro h g
    rcases Nat.lt_or_ge n k with h1 | h1
    · rw [show k = n + 1 by omega]
    · rw [rd, ih h1 (fun j a b => g j a (by omega))]
      have := g n h1 (by omega)
      simp [seen, this.1, this.2]
theorem rd_congr {out out' : List Nat} {a b : Nat} : ∀ n, (∀ j, j < n → rel out j a = rel out' j a ∧ rel out j b = rel out' j b) → rd out a b n = rd out' a b n := by
  intro n
  induction n with
  | zero => intro _; rfl
  | succ n ih =>
    intro g
    rw [rd, rd, ih (fun j h => g j (by omega))]
    have := g n (by omega)
    unfold seen
    rw [this.1, this.2]

theorem rd_step {free out : List Nat} (hg : Good free) {a b c : Nat} (hd : rel free a b = false) :
    rd (step free out c) a b (step free out c).length = rd out a b out.length ++ (if c = a ∨ c = b then [c] else []) := by
  have hl := length_step free out c
  have hp := pos_le free out c out.length
  by_cases hc : c = a ∨ c = b
  · rw [if_pos hc]
    have hda : rel free c a = false := by
      rcases hc with rfl | rfl
      · exact hg.2.2.1 _
      · cases h : rel free c a
        · rfl
        · rw [hg.2.2.2 _ _ h] at hd; cases hd
    have hdb : rel free c b = false := by
      rcases hc with rfl | rfl
      · exact hd
      · exact hg.2.2.1 _
    have hno : ∀ j, pos free out c out.length ≤ j → rel out j a = false ∧ rel out j b = false := by
      intro j h
      rcases Nat.lt_or_ge j out.length with h1 | h1
      · constructor
        · cases hx : rel out j a
          · rfl
          · rw [pos_clear free out c _ j h h1 a hx] at hda; cases hda
        · cases hx : rel out j b
          · rfl
          · rw [pos_clear free out c _ j h h1 b hx] at hdb; cases hdb
      · exact ⟨rel_out h1, rel_out h1⟩
    rw [rd_none (out := step free out c) (k := pos free out c out.length + 1) _ (by omega) (fun j h _ => by
      have := hno j (by omega)
      rw [rel_step, rel_step, this.1, this.2]
      have hjp : ¬ j = pos free out c out.length := by omega
      simp [hjp])]
    rw [rd_none (out := out) (k := pos free out c out.length) _ hp (fun j h _ => hno j h)]
    rw [rd, rd_congr (out := step free out c) (out' := out) _ (fun j h => by
      rw [rel_step, rel_step]
      have hjp : ¬ j = pos free out c out.length := by omega
      simp [hjp])]
    congr 1
    have := hno _ (Nat.le_refl _)
    unfold seen
    rw [rel_step, rel_step, this.1, this.2]
    rcases hc with rfl | rfl
    · simp
    · by_cases e : a = c
      · subst e; simp
      · simp [e]
  · rw [if_neg hc, List.append_nil]
    have hab : ∀ j, rel (step free out c) j a = rel out j a ∧ rel (step free out c) j b = rel out j b := by
      intro j
      rw [rel_step, rel_step]
      have h1 : ¬ a = c := fun h => hc (.inl h.symm)
      have h2 : ¬ b = c := fun h => hc (.inr h.symm)
      simp [h1, h2]
    rw [rd_congr (out' := out) _ (fun j _ => hab j)]
    exact rd_none _ (by omega) (fun j h _ => ⟨rel_out h, rel_out h⟩)

theorem rd_stepsFrom {free : List Nat} (hg : Good free) {a b : Nat} (hd : rel free a b = false) : ∀ (w out : List Nat),
    rd (stepsFrom free out w) a b (stepsFrom free out w).length = rd out a b out.length ++ proj w a b := by
  intro w
  induction w with
  | nil => intro out; simp [stepsFrom, proj]
  | cons c w ih =>
    intro out
    rw [stepsFrom_cons, ih, rd_step hg hd]
    by_cases hc : c = a ∨ c = b
    · rw [if_pos hc, proj_cons_in hc, List.append_assoc]; rfl
    · rw [if_neg hc, proj_cons_out (fun h => hc (.inl h)) (fun h => hc (.inr h)), List.append_nil]
theorem rd_steps {free : List Nat} (hg : Good free) {a b : Nat} (hd : rel free a b = false) (w : List Nat) : rd (steps free w) a b (steps free w).length = proj w a b := rd_stepsFrom hg hd w []

/-- they look alike, two letters at a time that may not change places -/
def Alike (free v w : List Nat) : Prop := ∀ a b, a < free.length → b < free.length → rel free a b = false → proj v a b = proj w a b

/-- the first letter of one of two that look alike is found in the other one, and may go to its front -/
theorem alike_split {free : List Nat} {a : Nat} {v w : List Nat} (hw : ∀ x ∈ w, x < free.length) (ha : a < free.length) (hg : Good free) (h : Alike free (a :: v) w) :
    ∃ w1 w2, w = w1 ++ a :: w2 ∧ (∀ x ∈ w1, rel free a x = true) ∧ Alike free v (w1 ++ w2) := by
  have h0 := h a a ha ha (hg.2.2.1 a)
  rw [proj_cons_in (.inl rfl)] at h0
  have hm : a ∈ w := by
    have : a ∈ proj w a a := by rw [← h0]; exact List.mem_cons_self ..
    exact (List.mem_filter.1 this).1
  obtain ⟨w1, w2, rfl, hn⟩ := List.eq_append_cons_of_mem hm
  have hind : ∀ x ∈ w1, rel free a x = true := by
    intro x hx
    cases hr : rel free a x
    · exfalso
      have h1 := h a x ha (hw x (List.mem_append_left _ hx)) hr
      rw [proj_cons_in (.inl rfl), proj_append] at h1
      have hxa : x ≠ a := fun e => hn (e ▸ hx)
      rcases hq : proj w1 a x with _ | ⟨y, q⟩
      · have : x ∈ proj w1 a x := List.mem_filter.2 ⟨hx, by simp⟩
        rw [hq] at this; cases this
      · rw [hq, List.cons_append] at h1
        have hy : y ∈ proj w1 a x := by rw [hq]; exact List.mem_cons_self ..
        injection h1 with h1 _
        exact hn (h1 ▸ (List.mem_filter.1 hy).1)
    · rfl
  refine ⟨w1, w2, rfl, hind, fun x y hx hy hd => ?_⟩
  have hxy := h x y hx hy hd
  rw [proj_append] at hxy ⊢
  by_cases hc : a = x ∨ a = y
  · have hno : proj w1 x y = [] := by
      apply proj_none
      · rcases hc with rfl | rfl
        · exact hn
        · intro hm; rw [hg.2.2.2 _ _ (hind x hm)] at hd; cases hd
      · rcases hc with rfl | rfl
        · intro hm; rw [hind y hm] at hd; cases hd
        · exact hn
    rw [proj_cons_in hc, proj_cons_in hc, hno, List.nil_append] at hxy
    injection hxy with _ hxy
    rw [hno, List.nil_append]; exact hxy
  · rw [proj_cons_out (fun h => hc (.inl h)) (fun h => hc (.inr h)), proj_cons_out (fun h => hc (.inl h)) (fun h => hc (.inr h))] at hxy
    exact hxy

theorem alike_nil {free : List Nat} (hg : Good free) {w : List Nat} (hw : ∀ x ∈ w, x < free.length) (h : Alike free [] w) : w = [] := by
  rcases w with _ | ⟨x, w⟩
  · rfl
  · have hx := hw x (List.mem_cons_self ..)
    have := h x x hx hx (hg.2.2.1 x)
    rw [proj_cons_in (.inl rfl)] at this
    cases this

theorem stepsFrom_of_alike {free : List Nat} (hg : Good free) : ∀ (v w out : List Nat), (∀ x ∈ v, x < free.length) → (∀ x ∈ w, x < free.length) → Alike free v w → stepsFrom free out v = stepsFrom free out w := by
  intro v
  induction v with
  | nil => intro w out _ hw h; rw [alike_nil hg hw h]
  | cons a v ih =>
    intro w out hv hw h
    obtain ⟨w1, w2, rfl, hind, hal⟩ := alike_split hw (hv a (List.mem_cons_self ..)) hg h
    rw [stepsFrom_front hg _ _ _ hind, stepsFrom_cons, stepsFrom_cons]
    refine ih _ _ (fun x hx => hv x (List.mem_cons_of_mem _ hx)) (fun x hx => hw x ?_) hal
    rcases List.mem_append.1 hx with hx | hx
    · exact List.mem_append_left _ hx
    · exact List.mem_append_right _ (List.mem_cons_of_mem _ hx)

/-- CORI, PERRIN -/
theorem steps_eq_iff {free : List Nat} (hg : Good free) {v w : List Nat} (hv : ∀ x ∈ v, x < free.length) (hw : ∀ x ∈ w, x < free.length) : steps free v = steps free w ↔ Alike free v w := by
  constructor
  · intro h a b _ _ hd
    rw [← rd_steps hg hd v, ← rd_steps hg hd w, h]
  · exact stepsFrom_of_alike hg v w [] hv hw

/-- two neighbours change places -/
theorem steps_swap {free : List Nat} (hg : Good free) (u v : List Nat) {a b : Nat} (hu : ∀ x ∈ u, x < free.length) (hv : ∀ x ∈ v, x < free.length) (ha : a < free.length) (hb : b < free.length) :
    steps free (u ++ a :: b :: v) = steps free (u ++ b :: a :: v) ↔ a = b ∨ rel free a b = true := by
  constructor
  · intro h
    by_cases hab : a = b
    · exact .inl hab
    · right
      cases hr : rel free a b
      · exfalso
        have := (steps_eq_iff hg (by
          intro x hx
          rcases List.mem_append.1 hx with hx | hx
          · exact hu x hx
          · rcases List.mem_cons.1 hx with rfl | hx
            · exact ha
            · rcases List.mem_cons.1 hx with rfl | hx
              · exact hb
              · exact hv x hx) (by
          intro x hx
          rcases List.mem_append.1 hx with hx | hx
          · exact hu x hx
          · rcases List.mem_cons.1 hx with rfl | hx
            · exact hb
            · rcases List.mem_cons.1 hx with rfl | hx
              · exact ha
              · exact hv x hx)).1 h a b ha hb hr
        rw [proj_append, proj_append, proj_cons_in (.inl rfl), proj_cons_in (.inr rfl), proj_cons_in (.inr rfl), proj_cons_in (.inl rfl)] at this
        have := List.append_cancel_left this
        injection this with h1 _
        exact hab h1
      · rfl
  · rintro (rfl | h)
    · rfl
    · unfold steps
      rw [stepsFrom_append, stepsFrom_append, stepsFrom_cons, stepsFrom_cons, stepsFrom_cons, stepsFrom_cons, step_comm h (hg.2.2.2 _ _ h)]

end Fld
end Go.Proofs.YtoedgncbgkdmoaaDoor
