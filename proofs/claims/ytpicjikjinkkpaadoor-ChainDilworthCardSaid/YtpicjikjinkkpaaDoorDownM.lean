/- Plain mathematics of sets with all that is ahead of them. No program is in sight. Conditions: none. -/
import Derived.Test.YtpicjikjinkkpaaDoorTz
import Derived.Test.YtpicjikjinkkpaaDoorBits
namespace Go.Proofs.YtpicjikjinkkpaaDoor
namespace Odr

theorem snoc_ind {α : Type} {p : List α → Prop} (nil : p []) (snoc : ∀ l a, p l → p (l ++ [a])) (l : List α) : p l := by
  have : ∀ r : List α, p r.reverse := by
    intro r
    induction r with
    | nil => exact nil
    | cons a r ih => rw [List.reverse_cons]; exact snoc _ a ih
  have := this l.reverse
  rwa [List.reverse_reverse] at this

/-- a set with all that is ahead of its things js -/
def orAll (pre : List Nat) (acc : Nat) (js : List Nat) : Nat := js.foldl (fun a i => a ||| pre.getD i 0) acc
/-- a set without what is ahead of its things js -/
def diffAll (pre : List Nat) (acc : Nat) (js : List Nat) : Nat := js.foldl (fun a i => diff a (pre.getD i 0)) acc
theorem orAll_snoc (pre : List Nat) (acc : Nat) (js : List Nat) (j : Nat) : orAll pre acc (js ++ [j]) = orAll pre acc js ||| pre.getD j 0 := by simp [orAll]
theorem diffAll_snoc (pre : List Nat) (acc : Nat) (js : List Nat) (j : Nat) : diffAll pre acc (js ++ [j]) = diff (diffAll pre acc js) (pre.getD j 0) := by simp [diffAll]
theorem orAll_lt {pre : List Nat} {acc n : Nat} (js : List Nat) (ha : acc < 2 ^ n) (hp : ∀ i, pre.getD i 0 < 2 ^ n) : orAll pre acc js < 2 ^ n := by
  induction js using snoc_ind with
  | nil => exact ha
  | snoc js j ih => rw [orAll_snoc]; exact Nat.or_lt_two_pow ih (hp j)
theorem diffAll_lt {pre : List Nat} {acc n : Nat} (js : List Nat) (ha : acc < 2 ^ n) : diffAll pre acc js < 2 ^ n := by
  induction js using snoc_ind with
  | nil => exact ha
  | snoc js j ih => rw [diffAll_snoc]; exact diff_lt _ ih
theorem testBit_orAll (pre : List Nat) (acc : Nat) (js : List Nat) (k : Nat) : (orAll pre acc js).testBit k = true ↔ acc.testBit k = true ∨ ∃ i ∈ js, rel pre i k = true := by
  induction js using snoc_ind with
  | nil => simp [orAll]
  | snoc js j ih =>
    rw [orAll_snoc, Nat.testBit_or, Bool.or_eq_true, ih]
    constructor
    · rintro ((h | ⟨i, h1, h2⟩) | h)
      · exact .inl h
      · exact .inr ⟨i, by simp [h1], h2⟩
      · exact .inr ⟨j, by simp, h⟩
    · rintro (h | ⟨i, h1, h2⟩)
      · exact .inl (.inl h)
      · rcases List.mem_append.1 h1 with h1 | h1
        · exact .inl (.inr ⟨i, h1, h2⟩)
        · rw [List.mem_singleton.1 h1] at h2; exact .inr h2
theorem testBit_diffAll (pre : List Nat) (acc : Nat) (js : List Nat) (k : Nat) : (diffAll pre acc js).testBit k = true ↔ acc.testBit k = true ∧ ∀ i ∈ js, rel pre i k = false := by
  induction js using snoc_ind with
  | nil => simp [diffAll]
  | snoc js j ih =>
    rw [diffAll_snoc, testBit_diff, Bool.and_eq_true, ih]
    constructor
    · rintro ⟨⟨h1, h2⟩, h3⟩
      refine ⟨h1, fun i hi => ?_⟩
      rcases List.mem_append.1 hi with hi | hi
      · exact h2 i hi
      · rw [List.mem_singleton.1 hi]; simpa [rel] using h3
    · rintro ⟨h1, h2⟩
      exact ⟨⟨h1, fun i hi => h2 i (by simp [hi])⟩, by simpa [rel] using h2 j (by simp)⟩

/-- a set closed: with all that is ahead of it -/
def dclose (m : List Nat) (s : Nat) : Nat := orAll (turned m) s (bitsOf s)
/-- the last things of a set -/
def dlast (m : List Nat) (s : Nat) : Nat := diffAll (turned m) s (bitsOf s)
theorem turned_getD_lt (m : List Nat) (i : Nat) : (turned m).getD i 0 < 2 ^ m.length := by
  have := (Fits.turned m).getD i
  rwa [length_turned] at this
theorem dclose_lt (m : List Nat) {s : Nat} (h : s < 2 ^ m.length) : dclose m s < 2 ^ m.length := orAll_lt _ h (turned_getD_lt m)
theorem dlast_lt (m : List Nat) {s : Nat} (h : s < 2 ^ m.length) : dlast m s < 2 ^ m.length := diffAll_lt _ h
theorem dclose_bit {m : List Nat} (hv : Valid m) {s : Nat} (hs : s < 2 ^ m.length) (k : Nat) : (dclose m s).testBit k = true ↔ s.testBit k = true ∨ ∃ i, s.testBit i = true ∧ rel (closed m) k i = true := by
  have h12 : s < 4096 := Nat.lt_of_lt_of_le hs (show 2 ^ m.length ≤ 2 ^ 12 from Nat.pow_le_pow_right (by omega) hv.few)
  unfold dclose
  rw [testBit_orAll]
  constructor
  · rintro (h | ⟨i, h1, h2⟩)
    · exact .inl h
    · exact .inr ⟨i, (mem_bitsOf h12).1 h1, by rw [rel_turned hv.fits] at h2; exact h2⟩
  · rintro (h | ⟨i, h1, h2⟩)
    · exact .inl h
    · exact .inr ⟨i, (mem_bitsOf h12).2 h1, by rw [rel_turned hv.fits]; exact h2⟩
theorem dlast_bit {m : List Nat} (hv : Valid m) {s : Nat} (hs : s < 2 ^ m.length) (k : Nat) : (dlast m s).testBit k = true ↔ s.testBit k = true ∧ ∀ i, s.testBit i = true → rel (closed m) k i = false := by
  have h12 : s < 4096 := Nat.lt_of_lt_of_le hs (show 2 ^ m.length ≤ 2 ^ 12 from Nat.pow_le_pow_right (by omega) hv.few)
  unfold dlast
  rw [testBit_diffAll]
  constructor
  · rintro ⟨h1, h2⟩
    exact ⟨h1, fun i hi => by have := h2 i ((mem_bitsOf h12).2 hi); rwa [rel_turned hv.fits] at this⟩
  · rintro ⟨h1, h2⟩
    exact ⟨h1, fun i hi => by rw [rel_turned hv.fits]; exact h2 i ((mem_bitsOf h12).1 hi)⟩
/-- as many as there are closed sets -/
def downs (m : List Nat) : Nat := ((List.range (2 ^ m.length)).filter fun s => decide (dclose m s = s)).length
theorem diff_zero (p s : Nat) : diff p s = 0 ↔ ∀ k, p.testBit k = true → s.testBit k = true := by
  constructor
  · intro h k hk
    have := testBit_diff p s k
    rw [h, hk] at this
    simpa using this
  · intro h
    apply Nat.eq_of_testBit_eq
    intro k
    rw [testBit_diff, Nat.zero_testBit]
    cases hp : p.testBit k with
    | false => simp
    | true => simp [h k hp]
theorem dclose_eq_iff (m : List Nat) (s : Nat) : dclose m s = s ↔ ∀ x ∈ bitsOf s, diff ((turned m).getD x 0) s = 0 := by
  unfold dclose
  constructor
  · intro h x hx
    rw [diff_zero]
    intro k hk
    rw [← h, testBit_orAll]
    exact .inr ⟨x, hx, hk⟩
  · intro h
    apply Nat.eq_of_testBit_eq
    intro k
    have := testBit_orAll (turned m) s (bitsOf s) k
    cases hb : s.testBit k with
    | true => exact this.2 (.inl hb)
    | false =>
      cases hc : (orAll (turned m) s (bitsOf s)).testBit k with
      | false => rfl
      | true =>
        rcases this.1 hc with h1 | ⟨i, h1, h2⟩
        · rw [hb] at h1; cases h1
        · have := (diff_zero _ _).1 (h i h1) k h2; rw [hb] at this; cases this
/-- closed sets below k -/
def downsTo (m : List Nat) (k : Nat) : Nat := ((List.range k).filter fun s => decide (dclose m s = s)).length
theorem downsTo_succ (m : List Nat) (k : Nat) : downsTo m (k + 1) = downsTo m k + if dclose m k = k then 1 else 0 := by
  unfold downsTo
  rw [List.range_succ, List.filter_append, List.length_append]
  by_cases h : dclose m k = k
  · simp [h]
  · simp [h]
theorem downsTo_le (m : List Nat) (k : Nat) : downsTo m k ≤ k := by
  unfold downsTo
  have := List.length_filter_le (fun s => decide (dclose m s = s)) (List.range k)
  simpa using this
/-- x has all of s -/
def sub (s x : Nat) : Prop := ∀ i, s.testBit i = true → x.testBit i = true
theorem sub_iff (s x : Nat) : sub s x ↔ diff s x = 0 := (diff_zero s x).symm
/-- a closed set -/
def dis (m : List Nat) (s : Nat) : Prop := dclose m s = s
theorem dis_iff {m : List Nat} (hv : Valid m) {s : Nat} (hs : s < 2 ^ m.length) : dis m s ↔ ∀ k i, s.testBit i = true → rel (closed m) k i = true → s.testBit k = true := by
  unfold dis
  constructor
  · intro h k i h1 h2
    rw [← h, dclose_bit hv hs]
    exact .inr ⟨i, h1, h2⟩
  · intro h
    apply Nat.eq_of_testBit_eq
    intro k
    have := dclose_bit hv hs k
    cases hb : s.testBit k with
    | true => exact this.2 (.inl hb)
    | false =>
      cases hc : (dclose m s).testBit k with
      | false => rfl
      | true =>
        rcases this.1 hc with h1 | ⟨i, h1, h2⟩
        · rw [hb] at h1; cases h1
        · have := h k i h1 h2; rw [hb] at this; cases this
theorem sub_dclose {m : List Nat} (hv : Valid m) {s : Nat} (hs : s < 2 ^ m.length) : sub s (dclose m s) := fun i hi => (dclose_bit hv hs i).2 (.inl hi)
theorem dis_dclose {m : List Nat} (hv : Valid m) {s : Nat} (hs : s < 2 ^ m.length) : dis m (dclose m s) := by
  rw [dis_iff hv (dclose_lt m hs)]
  intro k i h1 h2
  rw [dclose_bit hv hs] at h1 ⊢
  rcases h1 with h1 | ⟨j, h1, h3⟩
  · exact .inr ⟨i, h1, h2⟩
  · exact .inr ⟨j, h1, closed_trans h2 h3⟩
theorem dclose_least {m : List Nat} (hv : Valid m) {s t : Nat} (hs : s < 2 ^ m.length) (ht : t < 2 ^ m.length) (hd : dis m t) (h : sub s t) : sub (dclose m s) t := by
  intro k hk
  rcases (dclose_bit hv hs k).1 hk with h1 | ⟨i, h1, h2⟩
  · exact h k h1
  · exact (dis_iff hv ht).1 hd k i (h i h1) h2

end Odr
end Go.Proofs.YtpicjikjinkkpaaDoor
