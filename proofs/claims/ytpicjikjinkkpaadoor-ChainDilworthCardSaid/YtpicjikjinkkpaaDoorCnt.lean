/- Plain counting of numbers below a bound. No program is in sight. Conditions: none. -/
import Derived.Test.YtpicjikjinkkpaaDoorOrd
namespace Go.Proofs.YtpicjikjinkkpaaDoor
namespace Odr

/-- how many numbers below n have p -/
def cnt : Nat → (Nat → Bool) → Nat
  | 0, _ => 0
  | n + 1, p => cnt n p + (if p n then 1 else 0)

theorem cnt_le (n : Nat) (p : Nat → Bool) : cnt n p ≤ n := by
  induction n with
  | zero => exact Nat.le_refl _
  | succ n ih => unfold cnt; split <;> omega
theorem cnt_congr {n : Nat} {p q : Nat → Bool} (h : ∀ i, i < n → p i = q i) : cnt n p = cnt n q := by
  induction n with
  | zero => rfl
  | succ n ih => unfold cnt; rw [ih (fun i hi => h i (by omega)), h n (by omega)]
theorem cnt_mono {n : Nat} {p q : Nat → Bool} (h : ∀ i, i < n → p i = true → q i = true) : cnt n p ≤ cnt n q := by
  induction n with
  | zero => exact Nat.le_refl _
  | succ n ih =>
    have := ih (fun i hi => h i (by omega))
    have h2 := h n (by omega)
    unfold cnt
    cases hp : p n
    · simp; omega
    · simp [h2 hp]; omega
theorem cnt_lt {n : Nat} {p q : Nat → Bool} (h : ∀ i, i < n → p i = true → q i = true) {k : Nat} (hk : k < n) (hq : q k = true) (hp : p k = false) : cnt n p < cnt n q := by
  induction n with
  | zero => omega
  | succ n ih =>
    unfold cnt
    by_cases hkn : k < n
    · have := ih (fun i hi => h i (by omega)) hkn
      have h2 := h n (by omega)
      cases hpn : p n
      · simp; omega
      · simp [h2 hpn]; omega
    · obtain rfl : k = n := by omega
      have := cnt_mono (n := k) (fun i hi => h i (Nat.lt_succ_of_lt hi))
      rw [hq, hp]
      simp; omega
theorem cnt_full {n : Nat} {p : Nat → Bool} (h : cnt n p = n) : ∀ i, i < n → p i = true := by
  intro i hi
  cases hp : p i
  · have := cnt_lt (q := fun _ => true) (fun j _ _ => rfl) hi rfl hp
    have := cnt_le n (fun _ => true)
    omega
  · rfl
theorem cnt_false (n : Nat) : cnt n (fun _ => false) = 0 := by
  induction n with
  | zero => rfl
  | succ n ih => unfold cnt; simp [ih]
theorem cnt_zero {n : Nat} {p : Nat → Bool} (h : cnt n p = 0) : ∀ i, i < n → p i = false := by
  intro i hi
  cases hp : p i
  · rfl
  · have := cnt_lt (p := fun _ => false) (q := p) (fun j _ h => by cases h) hi hp rfl
    omega
theorem cnt_or {n : Nat} {p q : Nat → Bool} (h : ∀ i, i < n → ¬ (p i = true ∧ q i = true)) : cnt n (fun i => p i || q i) = cnt n p + cnt n q := by
  induction n with
  | zero => rfl
  | succ n ih =>
    have := ih (fun i hi => h i (by omega))
    have h2 := h n (by omega)
    unfold cnt
    rw [this]
    cases hp : p n <;> cases hq : q n <;> simp [hp, hq] at h2 ⊢ <;> omega
theorem cnt_eq {n x : Nat} (hx : x < n) : cnt n (fun i => decide (i = x)) = 1 := by
  induction n with
  | zero => omega
  | succ n ih =>
    unfold cnt
    by_cases h : x < n
    · rw [ih h]; simp; omega
    · obtain rfl : x = n := by omega
      have : cnt x (fun i => decide (i = x)) = 0 := by
        rw [cnt_congr (q := fun _ => false) (fun i hi => by simp; omega), cnt_false]
      rw [this]; simp

/-- a list without repeats, below n, is as long as there are numbers below n in it -/
theorem nodup_length {l : List Nat} {n : Nat} (hn : l.Nodup) (hl : ∀ x ∈ l, x < n) : l.length = cnt n (fun i => decide (i ∈ l)) := by
  induction l with
  | nil => rw [cnt_congr (q := fun _ => false) (fun i _ => by simp), cnt_false]; rfl
  | cons x l ih =>
    obtain ⟨h1, h2⟩ := List.nodup_cons.1 hn
    have := ih h2 (fun y hy => hl y (List.mem_cons_of_mem _ hy))
    rw [cnt_congr (q := fun i => decide (i = x) || decide (i ∈ l)) (fun i _ => by simp [List.mem_cons, Bool.decide_or]), cnt_or, cnt_eq (hl x (List.mem_cons_self ..)), ← this, List.length_cons]
    · omega
    · intro i _ h
      simp at h
      rw [h.1] at h
      exact h1 h.2
theorem nodup_le {l : List Nat} {n : Nat} (hn : l.Nodup) (hl : ∀ x ∈ l, x < n) : l.length ≤ n := by
  rw [nodup_length hn hl]; exact cnt_le _ _
theorem nodup_all {l : List Nat} {n : Nat} (hn : l.Nodup) (hl : ∀ x ∈ l, x < n) (hlen : l.length = n) : ∀ i, i < n → i ∈ l := by
  intro i hi
  have := cnt_full (n := n) (p := fun i => decide (i ∈ l)) (by rw [← nodup_length hn hl, hlen]) i hi
  simpa using this

/-- of some things, where none stands behind itself, one has none of them ahead -/
theorem exists_least {R : Nat → Nat → Prop} (n : Nat) (hR : ∀ i j, R i j → i < n) (htr : ∀ i j k, R i j → R j k → R i k) (hirr : ∀ i, ¬ R i i) (S : Nat → Prop) (hS : ∃ i, S i) :
    ∃ i, S i ∧ ∀ j, S j → ¬ R j i := by
  classical
  have key : ∀ m i, S i → cnt n (fun j => decide (R j i)) ≤ m → ∃ i, S i ∧ ∀ j, S j → ¬ R j i := by
    intro m
    induction m with
    | zero =>
      intro i hi hc
      refine ⟨i, hi, fun j _ hji => ?_⟩
      have := cnt_zero (Nat.le_zero.1 hc) j (hR j i hji)
      simp at this
      exact this hji
    | succ m ih =>
      intro i hi hc
      by_cases h : ∃ j, S j ∧ R j i
      · obtain ⟨j, hj, hji⟩ := h
        refine ih j hj ?_
        have := cnt_lt (n := n) (p := fun k => decide (R k j)) (q := fun k => decide (R k i)) (fun k _ hk => by simp at hk ⊢; exact htr _ _ _ hk hji) (hR j i hji) (by simpa using hji) (by simpa using hirr j)
        omega
      · exact ⟨i, hi, fun j hj hji => h ⟨j, hj, hji⟩⟩
  obtain ⟨i, hi⟩ := hS
  exact key _ i hi (Nat.le_refl _)

end Odr
end Go.Proofs.YtpicjikjinkkpaaDoor
