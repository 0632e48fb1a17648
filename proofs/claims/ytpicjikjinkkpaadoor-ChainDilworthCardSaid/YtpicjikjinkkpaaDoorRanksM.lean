/- Plain mathematics: the rank of each thing of an order, pass by pass, row by row, thing by thing. No program is in sight. Conditions: none. -/
import Derived.Test.YtpicjikjinkkpaaDoorTz
import Derived.Test.YtpicjikjinkkpaaDoorCnt
namespace Go.Proofs.YtpicjikjinkkpaaDoor
namespace Odr

/-- the greatest of n numbers -/
def supm : Nat → (Nat → Nat) → Nat
  | 0, _ => 0
  | n + 1, f => max (supm n f) (f n)
theorem le_supm {n i : Nat} {f : Nat → Nat} (h : i < n) : f i ≤ supm n f := by
  induction n with
  | zero => omega
  | succ n ih =>
    unfold supm
    by_cases e : i = n
    · subst e; omega
    · have := ih (by omega); omega
theorem supm_le {n x : Nat} {f : Nat → Nat} (h : ∀ i, i < n → f i ≤ x) : supm n f ≤ x := by
  induction n with
  | zero => exact Nat.zero_le _
  | succ n ih =>
    unfold supm
    have := ih fun i hi => h i (by omega)
    have := h n (by omega)
    omega
theorem supm_at {n : Nat} {f : Nat → Nat} (h : 0 < supm n f) : ∃ i, i < n ∧ f i = supm n f := by
  induction n with
  | zero => simp [supm] at h
  | succ n ih =>
    unfold supm at h ⊢
    by_cases e : supm n f ≤ f n
    · exact ⟨n, by omega, by omega⟩
    · obtain ⟨i, h1, h2⟩ := ih (by omega)
      exact ⟨i, by omega, by omega⟩

/-- as far as t steps tell -/
def rkF (c : List Nat) (n : Nat) : Nat → Nat → Nat
  | 0, _ => 0
  | t + 1, j => supm n fun i => if rel c i j = true then rkF c n t i + 1 else 0
/-- the rank of a thing: how many stand in a longest row that ends ahead of it -/
def rk (c : List Nat) (j : Nat) : Nat := rkF c c.length c.length j

theorem rkF_succ (c : List Nat) (n t j : Nat) : rkF c n (t + 1) j = supm n fun i => if rel c i j = true then rkF c n t i + 1 else 0 := rfl
theorem rkF_ge {c : List Nat} {n t i j : Nat} (hi : i < n) (h : rel c i j = true) : rkF c n t i + 1 ≤ rkF c n (t + 1) j := by
  have := le_supm (f := fun i => if rel c i j = true then rkF c n t i + 1 else 0) hi
  rw [rkF_succ]
  simpa only [if_pos h] using this
theorem rkF_mono {c : List Nat} {n t j : Nat} : rkF c n t j ≤ rkF c n (t + 1) j := by
  induction t generalizing j with
  | zero => exact Nat.zero_le _
  | succ t ih =>
    rw [rkF]
    refine supm_le fun i hi => ?_
    by_cases h : rel c i j = true
    · rw [if_pos h]
      exact Nat.le_trans (Nat.succ_le_succ (ih (j := i))) (rkF_ge hi h)
    · rw [if_neg h]; exact Nat.zero_le _
theorem rkF_cnt {c : List Nat} {n : Nat} (htr : ∀ i j k, rel c i j = true → rel c j k = true → rel c i k = true) (hirr : ∀ i, rel c i i = false) (t j : Nat) : rkF c n t j ≤ cnt n fun i => rel c i j := by
  induction t generalizing j with
  | zero => exact Nat.zero_le _
  | succ t ih =>
    rw [rkF]
    refine supm_le fun i hi => ?_
    by_cases h : rel c i j = true
    · rw [if_pos h]
      refine Nat.lt_of_le_of_lt (ih i) ?_
      exact cnt_lt (fun k _ hk => htr _ _ _ hk h) hi h (hirr i)
    · rw [if_neg h]; exact Nat.zero_le _
theorem rkF_grow {c : List Nat} {n t j : Nat} (h : rkF c n t j < rkF c n (t + 1) j) : t + 1 ≤ rkF c n (t + 1) j := by
  induction t generalizing j with
  | zero => simp only [rkF] at h ⊢; omega
  | succ t ih =>
    obtain ⟨i, hi, he⟩ := supm_at (n := n) (f := fun i => if rel c i j = true then rkF c n (t + 1) i + 1 else 0) (by rw [← rkF_succ]; omega)
    rw [← rkF_succ] at he
    by_cases hr : rel c i j = true
    · simp only [if_pos hr] at he
      have h3 : rkF c n t i + 1 ≤ rkF c n (t + 1) j := rkF_ge hi hr
      have := ih (j := i) (by omega)
      omega
    · simp only [if_neg hr] at he; omega
theorem rk_fix {c : List Nat} (htr : ∀ i j k, rel c i j = true → rel c j k = true → rel c i k = true) (hirr : ∀ i, rel c i i = false) (j : Nat) : rkF c c.length (c.length + 1) j = rk c j := by
  refine Nat.le_antisymm (Nat.le_of_not_lt fun h => ?_) rkF_mono
  have h1 := rkF_grow h
  have h2 := rkF_cnt (n := c.length) htr hirr (c.length + 1) j
  have h3 := cnt_le c.length fun i => rel c i j
  omega
theorem rk_le {c : List Nat} (htr : ∀ i j k, rel c i j = true → rel c j k = true → rel c i k = true) (hirr : ∀ i, rel c i i = false) (j : Nat) : rk c j ≤ c.length :=
  Nat.le_trans (rkF_cnt htr hirr _ j) (cnt_le _ _)
theorem rk_lt {c : List Nat} (htr : ∀ i j k, rel c i j = true → rel c j k = true → rel c i k = true) (hirr : ∀ i, rel c i i = false) {i j : Nat} (h : rel c i j = true) : rk c i < rk c j := by
  rw [← rk_fix htr hirr j, rkF]
  have := le_supm (f := fun i => if rel c i j = true then rkF c c.length c.length i + 1 else 0) (rel_lt_left h)
  simp only [if_pos h] at this
  exact this
theorem rk_step {c : List Nat} (htr : ∀ i j k, rel c i j = true → rel c j k = true → rel c i k = true) (hirr : ∀ i, rel c i i = false) {j : Nat} (h : 0 < rk c j) : ∃ i, i < c.length ∧ rel c i j = true ∧ rk c i + 1 = rk c j := by
  rw [← rk_fix htr hirr j, rkF] at h
  obtain ⟨i, hi, he⟩ := supm_at h
  by_cases hr : rel c i j = true
  · rw [if_pos hr] at he
    refine ⟨i, hi, hr, ?_⟩
    rw [← rk_fix htr hirr j, rkF]
    exact he
  · rw [if_neg hr] at he; omega
theorem rkF_more {c d : List Nat} {n t j : Nat} (h : ∀ i j, rel c i j = true → rel d i j = true) : rkF c n t j ≤ rkF d n t j := by
  induction t generalizing j with
  | zero => exact Nat.zero_le _
  | succ t ih =>
    rw [rkF]
    refine supm_le fun i hi => ?_
    by_cases hr : rel c i j = true
    · rw [if_pos hr]
      exact Nat.le_trans (Nat.succ_le_succ (ih (j := i))) (rkF_ge hi (h i j hr))
    · rw [if_neg hr]; exact Nat.zero_le _
theorem rk_more {c d : List Nat} (hlen : c.length = d.length) (h : ∀ i j, rel c i j = true → rel d i j = true) (j : Nat) : rk c j ≤ rk d j := by
  unfold rk; rw [hlen]; exact rkF_more h

/-- row i is gone over, as far as the things js -/
def rpart (i : Nat) (js : List Nat) (o : Nat → Nat) : Nat → Nat := fun j => if j ∈ js then max (o j) (o i + 1) else o j
def rrow (c : List Nat) (i : Nat) (o : Nat → Nat) : Nat → Nat := fun j => if rel c i j = true then max (o j) (o i + 1) else o j
def rrows (c : List Nat) (o : Nat → Nat) : Nat → Nat → Nat
  | 0 => o
  | k + 1 => rrow c k (rrows c o k)
def rpass (c : List Nat) : Nat → Nat → Nat
  | 0 => fun _ => 0
  | t + 1 => rrows c (rpass c t) c.length
theorem rpart_row {c : List Nat} {i : Nat} (hc : c.getD i 0 < 4096) (o : Nat → Nat) : rpart i (bitsOf (c.getD i 0)) o = rrow c i o := by
  funext j
  unfold rpart rrow
  have : j ∈ bitsOf (c.getD i 0) ↔ rel c i j = true := mem_bitsOf hc
  by_cases h : rel c i j = true
  · rw [if_pos (this.2 h), if_pos h]
  · rw [if_neg (fun g => h (this.1 g)), if_neg h]
theorem rpart_nil (i : Nat) (o : Nat → Nat) : rpart i [] o = o := by funext j; simp [rpart]
theorem rpart_snoc (i : Nat) (js : List Nat) (o : Nat → Nat) (x : Nat) (hx : x ≠ i) (hi : i ∉ js) (j : Nat) :
    rpart i (js ++ [x]) o j = if j = x then max (rpart i js o x) (rpart i js o i + 1) else rpart i js o j := by
  unfold rpart
  by_cases h : j = x
  · subst h
    by_cases g : j ∈ js
    · simp [g, hi]
    · simp [g, hi]
  · simp [h]
/-- no number is greater than the rank -/
theorem rpart_le {c : List Nat} (hlt : ∀ i j, rel c i j = true → rk c i < rk c j) {i : Nat} {js : List Nat} (hjs : ∀ j ∈ js, rel c i j = true) {o : Nat → Nat} (ho : ∀ j, o j ≤ rk c j) (j : Nat) : rpart i js o j ≤ rk c j := by
  unfold rpart
  split
  · rename_i h
    have := hlt i j (hjs j h)
    have := ho i
    have := ho j
    omega
  · exact ho j
theorem rrow_le {c : List Nat} (hlt : ∀ i j, rel c i j = true → rk c i < rk c j) {i : Nat} {o : Nat → Nat} (ho : ∀ j, o j ≤ rk c j) (j : Nat) : rrow c i o j ≤ rk c j := by
  unfold rrow
  split
  · rename_i h
    have := hlt i j h
    have := ho i
    have := ho j
    omega
  · exact ho j
theorem rrows_le {c : List Nat} (hlt : ∀ i j, rel c i j = true → rk c i < rk c j) {o : Nat → Nat} (ho : ∀ j, o j ≤ rk c j) (k j : Nat) : rrows c o k j ≤ rk c j := by
  induction k generalizing j with
  | zero => exact ho j
  | succ k ih => exact rrow_le hlt ih j
theorem rpass_le {c : List Nat} (hlt : ∀ i j, rel c i j = true → rk c i < rk c j) (t j : Nat) : rpass c t j ≤ rk c j := by
  induction t generalizing j with
  | zero => exact Nat.zero_le _
  | succ t ih => exact rrows_le hlt ih _ j
theorem le_rrow (c : List Nat) (i : Nat) (o : Nat → Nat) (j : Nat) : o j ≤ rrow c i o j := by
  unfold rrow; split <;> omega
theorem le_rrows (c : List Nat) (o : Nat → Nat) (k j : Nat) : o j ≤ rrows c o k j := by
  induction k with
  | zero => exact Nat.le_refl _
  | succ k ih => exact Nat.le_trans ih (le_rrow _ _ _ _)
theorem rrows_has {c : List Nat} {o : Nat → Nat} {k i j : Nat} (hi : i < k) (h : rel c i j = true) : o i + 1 ≤ rrows c o k j := by
  induction k with
  | zero => omega
  | succ k ih =>
    by_cases e : i = k
    · subst e
      have := le_rrows c o i i
      rw [rrows, rrow, if_pos h]; omega
    · exact Nat.le_trans (ih (by omega)) (le_rrow _ _ _ _)
theorem rkF_rpass (c : List Nat) (t j : Nat) : rkF c c.length t j ≤ rpass c t j := by
  induction t generalizing j with
  | zero => exact Nat.zero_le _
  | succ t ih =>
    rw [rkF]
    refine supm_le fun i hi => ?_
    by_cases h : rel c i j = true
    · rw [if_pos h]
      have := ih i
      have := rrows_has (o := rpass c t) hi h
      rw [rpass]; omega
    · rw [if_neg h]; exact Nat.zero_le _
theorem rpass_all {c : List Nat} (hlt : ∀ i j, rel c i j = true → rk c i < rk c j) (j : Nat) : rpass c c.length j = rk c j :=
  Nat.le_antisymm (rpass_le hlt _ j) (rkF_rpass c _ j)

/-- numbers as a list -/
def lof (n : Nat) (o : Nat → Nat) : List Nat := (List.range n).map o
@[simp] theorem length_lof (n : Nat) (o : Nat → Nat) : (lof n o).length = n := by simp [lof]
theorem getD_lof {n j : Nat} (o : Nat → Nat) (h : j < n) : (lof n o).getD j 0 = o j := by
  rw [List.getD_eq_getElem?_getD]; simp [lof, h]
theorem lof_congr {n : Nat} {o p : Nat → Nat} (h : ∀ j, j < n → o j = p j) : lof n o = lof n p := List.map_congr_left fun j hj => h j (List.mem_range.1 hj)
theorem lof_zero (n : Nat) : lof n (fun _ => 0) = List.replicate n 0 := by
  apply List.ext_getElem (by simp)
  intro i h1 h2
  simp [lof]
theorem lof_set {n x : Nat} {o p : Nat → Nat} {z : Nat} (h : ∀ j, p j = if j = x then z else o j) : lof n p = (lof n o).set x z := by
  apply List.ext_getElem (by simp)
  intro i h1 h2
  rw [List.getElem_set]
  simp only [lof, List.getElem_map, List.getElem_range]
  rw [h]
  by_cases e : i = x
  · subst e; simp
  · rw [if_neg e, if_neg (fun g => e g.symm)]

/-- a row in which each thing is ahead of the next one is no longer than there are ranks -/
theorem chain_rk {c : List Nat} (hlt : ∀ i j, rel c i j = true → rk c i < rk c j) (row : List Nat) (h : ∀ k, k + 1 < row.length → rel c (row.getD k 0) (row.getD (k + 1) 0) = true) (k : Nat) (hk : k < row.length) : k ≤ rk c (row.getD k 0) := by
  induction k with
  | zero => exact Nat.zero_le _
  | succ k ih =>
    have := ih (by omega)
    have := hlt _ _ (h k hk)
    omega
end Odr
end Go.Proofs.YtpicjikjinkkpaaDoor
