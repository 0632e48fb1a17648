/- Plain words on the reference's ranks, and on its widest set: they are the program's. No program is in sight. Conditions: none. -/
import Derived.Test.YtpicjikjinkkpaaDoorWidest
import Derived.Test.YtpicjikjinkkpaaDoorRanksM
namespace Go.Proofs.YtpicjikjinkkpaaDoor
namespace Odr

/-- thing i looked at those below m -/
def gj (c : List Nat) (i : Nat) (o : Nat → Nat) : Nat → Nat → Nat
  | 0 => o
  | m + 1 => fun x => if x = i ∧ rel c m i = true then max (gj c i o m i) (gj c i o m m + 1) else gj c i o m x
def gi (c : List Nat) (o : Nat → Nat) : Nat → Nat → Nat
  | 0 => o
  | k + 1 => gj c k (gi c o k) c.length
def gp (c : List Nat) : Nat → Nat → Nat
  | 0 => fun _ => 0
  | t + 1 => gi c (gp c t) c.length
theorem gj_le {c : List Nat} (hlt : ∀ i j, rel c i j = true → rk c i < rk c j) {i : Nat} {o : Nat → Nat} (ho : ∀ j, o j ≤ rk c j) (m x : Nat) : gj c i o m x ≤ rk c x := by
  induction m generalizing x with
  | zero => exact ho x
  | succ m ih =>
    rw [gj]
    simp only
    split
    · rename_i h
      obtain ⟨rfl, h2⟩ := h
      have h3 := hlt m x h2
      have h4 := ih m
      have h5 := ih x
      omega
    · exact ih x
theorem gi_le {c : List Nat} (hlt : ∀ i j, rel c i j = true → rk c i < rk c j) {o : Nat → Nat} (ho : ∀ j, o j ≤ rk c j) (k x : Nat) : gi c o k x ≤ rk c x := by
  induction k generalizing x with
  | zero => exact ho x
  | succ k ih => exact gj_le hlt ih _ x
theorem gp_le {c : List Nat} (hlt : ∀ i j, rel c i j = true → rk c i < rk c j) (t x : Nat) : gp c t x ≤ rk c x := by
  induction t generalizing x with
  | zero => exact Nat.zero_le _
  | succ t ih => exact gi_le hlt ih _ x
theorem le_gj (c : List Nat) (i : Nat) (o : Nat → Nat) (m x : Nat) : o x ≤ gj c i o m x := by
  induction m with
  | zero => exact Nat.le_refl _
  | succ m ih =>
    rw [gj]
    simp only
    split
    · rename_i h
      obtain ⟨rfl, h2⟩ := h
      omega
    · exact ih
theorem le_gi (c : List Nat) (o : Nat → Nat) (k x : Nat) : o x ≤ gi c o k x := by
  induction k with
  | zero => exact Nat.le_refl _
  | succ k ih => exact Nat.le_trans ih (le_gj _ _ _ _ _)
theorem gj_mono (c : List Nat) (i : Nat) (o : Nat → Nat) (m x : Nat) : gj c i o m x ≤ gj c i o (m + 1) x := by
  rw [gj]
  simp only
  split
  · rename_i h
    obtain ⟨rfl, h2⟩ := h
    omega
  · exact Nat.le_refl _
theorem gj_has {c : List Nat} {i : Nat} {o : Nat → Nat} {m k : Nat} (hk : k < m) (h : rel c k i = true) : o k + 1 ≤ gj c i o m i := by
  induction m with
  | zero => omega
  | succ m ih =>
    by_cases e : k = m
    · subst e
      have := le_gj c i o k k
      rw [gj]
      simp only
      rw [if_pos ⟨trivial, h⟩]
      omega
    · exact Nat.le_trans (ih (by omega)) (gj_mono c i o m i)
theorem gi_has {c : List Nat} {o : Nat → Nat} {k i j : Nat} (hj : j < k) (hi : i < c.length) (h : rel c i j = true) : o i + 1 ≤ gi c o k j := by
  induction k with
  | zero => omega
  | succ k ih =>
    by_cases e : j = k
    · subst e
      have h1 := le_gi c o j i
      have h2 := gj_has (i := j) (o := gi c o j) hi h
      rw [gi]; omega
    · exact Nat.le_trans (ih (by omega)) (le_gj _ _ _ _ _)
theorem rkF_gp {c : List Nat} (hf : Fits c) (t j : Nat) : rkF c c.length t j ≤ gp c t j := by
  induction t generalizing j with
  | zero => exact Nat.zero_le _
  | succ t ih =>
    rw [rkF]
    refine supm_le fun i hi => ?_
    by_cases h : rel c i j = true
    · rw [if_pos h]
      have h1 := ih i
      have h2 := gi_has (o := gp c t) (rel_lt_right hf h) hi h
      rw [gp]; omega
    · rw [if_neg h]; exact Nat.zero_le _
theorem gp_all {c : List Nat} (hf : Fits c) (hlt : ∀ i j, rel c i j = true → rk c i < rk c j) (j : Nat) : gp c c.length j = rk c j :=
  Nat.le_antisymm (gp_le hlt _ j) (rkF_gp hf _ j)

/-- the best behind the k greatest sets below N -/
def wdn (c : List Nat) (N : Nat) : Nat → Nat
  | 0 => 0
  | k + 1 => if pop 12 (wdn c N k) ≤ pop 12 (N - 1 - k) ∧ sideB c (N - 1 - k) = true then N - 1 - k else wdn c N k
theorem widTo_least {c : List Nat} {k s : Nat} (hs : s < widTo c k) (h : sideB c s = true) : pop 12 s < pop 12 (widTo c k) := by
  induction k with
  | zero => exact absurd hs (Nat.not_lt_zero _)
  | succ k ih =>
    unfold widTo at hs ⊢
    split
    · rename_i g
      rw [if_pos g] at hs
      exact Nat.lt_of_le_of_lt (widTo_most hs h) g.1
    · rename_i g
      rw [if_neg g] at hs
      exact ih hs
theorem wdn_spec (c : List Nat) {N : Nat} (hN : 0 < N) (k : Nat) (hk : k ≤ N - 1) :
    (wdn c N k = 0 ∧ ∀ s, N - k ≤ s → s < N → sideB c s = false) ∨
    (N - k ≤ wdn c N k ∧ wdn c N k < N ∧ sideB c (wdn c N k) = true ∧ ∀ s, N - k ≤ s → s < N → sideB c s = true → pop 12 s ≤ pop 12 (wdn c N k) ∧ (s < wdn c N k → pop 12 s < pop 12 (wdn c N k))) := by
  induction k with
  | zero =>
    left
    exact ⟨rfl, fun s h1 h2 => by omega⟩
  | succ k ih =>
    have ih' := ih (by omega)
    rw [wdn]
    by_cases g : pop 12 (wdn c N k) ≤ pop 12 (N - 1 - k) ∧ sideB c (N - 1 - k) = true
    · rw [if_pos g]
      right
      refine ⟨by omega, by omega, g.2, fun s h1 h2 h3 => ?_⟩
      by_cases e : s = N - 1 - k
      · rw [e]; exact ⟨Nat.le_refl _, fun q => absurd q (Nat.lt_irrefl _)⟩
      · rcases ih' with ⟨_, hn⟩ | ⟨_, _, _, h4⟩
        · have := hn s (by omega) h2
          rw [h3] at this; cases this
        · exact ⟨Nat.le_trans (h4 s (by omega) h2 h3).1 g.1, fun q => by omega⟩
    · rw [if_neg g]
      rcases ih' with ⟨hD, hn⟩ | ⟨q1, q2, q3, q4⟩
      · left
        refine ⟨hD, fun s h1 h2 => ?_⟩
        by_cases e : s = N - 1 - k
        · rw [e]
          cases hs : sideB c (N - 1 - k)
          · rfl
          · exact absurd ⟨by rw [hD, pop_zero]; exact Nat.zero_le _, hs⟩ g
        · exact hn s (by omega) h2
      · right
        refine ⟨by omega, q2, q3, fun s h1 h2 h3 => ?_⟩
        by_cases e : s = N - 1 - k
        · rw [e] at h3 ⊢
          have : pop 12 (N - 1 - k) < pop 12 (wdn c N k) := Nat.lt_of_not_le fun q => g ⟨q, h3⟩
          exact ⟨Nat.le_of_lt this, fun _ => this⟩
        · exact q4 s (by omega) h2 h3
theorem wdn_all {c : List Nat} (h12 : c.length ≤ 12) : wdn c (2 ^ c.length) (2 ^ c.length - 1) = widest c := by
  have hp : 0 < 2 ^ c.length := Nat.two_pow_pos _
  have hw := widest_lt c
  have hs := widest_side c
  have h1 : 2 ^ c.length - (2 ^ c.length - 1) = 1 := by omega
  rcases wdn_spec c hp (2 ^ c.length - 1) (Nat.le_refl _) with ⟨hD, hn⟩ | ⟨q1, q2, q3, q4⟩
  · rw [hD]
    rw [h1] at hn
    rcases Nat.eq_zero_or_pos (widest c) with e | e
    · exact e.symm
    · have := hn _ e hw
      rw [hs] at this; cases this
  · rw [h1] at q1 q4
    generalize wdn c (2 ^ c.length) (2 ^ c.length - 1) = D at *
    have m1 := widest_most q2 q3
    rcases Nat.lt_trichotomy D (widest c) with h | h | h
    · have h2 : pop 12 D < pop 12 (widest c) := widTo_least h q3
      have h3 := (q4 (widest c) (by omega) hw hs).1
      omega
    · exact h
    · rcases Nat.eq_zero_or_pos (widest c) with e | e
      · rw [e, pop_zero] at m1
        have := pop_pos (n := 12) (Nat.lt_of_lt_of_le q2 (Nat.pow_le_pow_right (by omega) h12)) (show pop 12 D = 0 by omega)
        omega
      · have := (q4 (widest c) e hw hs).2 h
        omega
end Odr
end Go.Proofs.YtpicjikjinkkpaaDoor
