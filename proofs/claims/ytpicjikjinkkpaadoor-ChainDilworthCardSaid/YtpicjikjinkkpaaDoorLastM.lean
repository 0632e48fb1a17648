/- Plain mathematics: a closed set is its last things. No program is in sight. Conditions: none. -/
import Derived.Test.YtpicjikjinkkpaaDoorDownM
import Derived.Test.YtpicjikjinkkpaaDoorRef1
namespace Go.Proofs.YtpicjikjinkkpaaDoor
namespace Odr

theorem testBit_two_pow' (i k : Nat) : (2 ^ i).testBit k = decide (i = k) := Nat.testBit_two_pow
theorem sub_bit {x i : Nat} (h : x.testBit i = true) : x - 2 ^ i = diff x (2 ^ i) := by
  have h0 : diff x (2 ^ i) &&& 2 ^ i = 0 := by
    apply Nat.eq_of_testBit_eq
    intro k
    rw [Nat.testBit_and, testBit_diff, Nat.zero_testBit, testBit_two_pow']
    by_cases hk : i = k <;> simp [hk]
  have h1 : diff x (2 ^ i) ||| 2 ^ i = x := by
    apply Nat.eq_of_testBit_eq
    intro k
    rw [Nat.testBit_or, testBit_diff, testBit_two_pow']
    by_cases hk : i = k
    · subst hk; simp [h]
    · simp [hk]
  have := and_add_or (diff x (2 ^ i)) (2 ^ i)
  rw [h0, h1] at this
  omega
theorem testBit_sub_bit {x i : Nat} (h : x.testBit i = true) (k : Nat) : (x - 2 ^ i).testBit k = (x.testBit k && !decide (i = k)) := by
  rw [sub_bit h, testBit_diff, testBit_two_pow']

theorem dclose_zero {m : List Nat} (hv : Valid m) : dclose m 0 = 0 := by
  apply Nat.eq_of_testBit_eq
  intro k
  have := dclose_bit hv (s := 0) (Nat.two_pow_pos _) k
  cases h : (dclose m 0).testBit k with
  | false => simp
  | true =>
    rcases this.1 h with h | ⟨i, h, _⟩
    · simp at h
    · simp at h
theorem sub_antisymm {s t : Nat} (h : sub s t) (g : sub t s) : s = t := by
  apply Nat.eq_of_testBit_eq
  intro k
  rw [Bool.eq_iff_iff]
  exact ⟨h k, g k⟩

theorem dclose_dlast {m : List Nat} (hv : Valid m) {a : Nat} (ha : a < 2 ^ m.length) (hd : dis m a) : dclose m (dlast m a) = a := by
  have hl := dlast_lt m ha
  have hsub : sub (dlast m a) a := fun i hi => ((dlast_bit hv ha i).1 hi).1
  refine sub_antisymm (dclose_least hv hl ha hd hsub) (fun k hk => ?_)
  obtain ⟨i, ⟨h1, h2⟩, h3⟩ := exists_least (R := fun i j => rel (closed m) j i = true) m.length
    (fun i j h => by have := rel_lt_right hv.fits.closed h; rwa [length_closed] at this)
    (fun i j k h g => closed_trans g h) (fun i h => by rw [hv.irr] at h; cases h)
    (fun i => a.testBit i = true ∧ (i = k ∨ rel (closed m) k i = true)) ⟨k, hk, .inl rfl⟩
  have hil : (dlast m a).testBit i = true := by
    rw [dlast_bit hv ha]
    refine ⟨h1, fun j hj => ?_⟩
    cases hr : rel (closed m) i j with
    | false => rfl
    | true =>
      refine absurd hr (h3 j ⟨hj, .inr ?_⟩)
      rcases h2 with rfl | h2
      · exact hr
      · exact closed_trans h2 hr
  rw [dclose_bit hv hl]
  rcases h2 with rfl | h2
  · exact .inl hil
  · exact .inr ⟨i, hil, h2⟩
theorem dlast_zero {m : List Nat} (hv : Valid m) {a : Nat} (ha : a < 2 ^ m.length) (hd : dis m a) : dlast m a = 0 ↔ a = 0 := by
  constructor
  · intro h
    rw [← dclose_dlast hv ha hd, h, dclose_zero hv]
  · intro h
    refine sub_antisymm (fun i hi => ?_) (fun i hi => by simp at hi)
    have := ((dlast_bit hv ha i).1 hi).1
    rw [h] at this; simp at this
theorem dis_less {m : List Nat} (hv : Valid m) {a i : Nat} (ha : a < 2 ^ m.length) (hd : dis m a) (hi : (dlast m a).testBit i = true) : dis m (a - 2 ^ i) := by
  obtain ⟨h1, h2⟩ := (dlast_bit hv ha i).1 hi
  rw [dis_iff hv (Nat.lt_of_le_of_lt (Nat.sub_le _ _) ha)]
  intro k j hj hr
  rw [testBit_sub_bit h1, Bool.and_eq_true] at hj ⊢
  refine ⟨(dis_iff hv ha).1 hd k j hj.1 hr, ?_⟩
  have : i ≠ k := fun e => by subst e; rw [h2 j hj.1] at hr; cases hr
  simp [this]
theorem dclose_less {m : List Nat} (hv : Valid m) {a i : Nat} (ha : a < 2 ^ m.length) (hi : (dlast m a).testBit i = true) : dclose m (dlast m a - 2 ^ i) ≠ a := by
  obtain ⟨h1, h2⟩ := (dlast_bit hv ha i).1 hi
  intro h
  have hl := dlast_lt m ha
  rw [← h, dclose_bit hv (Nat.lt_of_le_of_lt (Nat.sub_le _ _) hl)] at h1
  rcases h1 with h1 | ⟨j, hj, hr⟩
  · rw [testBit_sub_bit hi] at h1; simp at h1
  · rw [testBit_sub_bit hi, Bool.and_eq_true] at hj
    have := ((dlast_bit hv ha j).1 hj.1).1
    rw [h2 j this] at hr; cases hr
end Odr
end Go.Proofs.YtpicjikjinkkpaaDoor
