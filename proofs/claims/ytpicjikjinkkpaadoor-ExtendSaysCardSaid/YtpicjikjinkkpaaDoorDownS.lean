/- Plain mathematics: as many closed sets as sets side by side; the reference's Down and Last. No program is in sight. Conditions: none. -/
import Derived.Test.YtpicjikjinkkpaaDoorDownN
namespace Go.Proofs.YtpicjikjinkkpaaDoor
namespace Odr

theorem dlast_dclose {m : List Nat} (hv : Valid m) {A : Nat} (hA : A < 2 ^ m.length) (h : ∀ i j, A.testBit i = true → A.testBit j = true → rel (closed m) i j = false) : dlast m (dclose m A) = A := by
  have hD := dclose_lt m hA
  apply eq_of_bits (dlast_lt m hD) hA
  intro k _
  rw [Bool.eq_iff_iff, dlast_bit hv hD, dclose_bit hv hA]
  constructor
  · rintro ⟨h1 | ⟨a, ha, hka⟩, h2⟩
    · exact h1
    · have := h2 a ((dclose_bit hv hA a).2 (.inl ha))
      rw [hka] at this; cases this
  · intro hk
    refine ⟨.inl hk, fun i hi => ?_⟩
    rcases (dclose_bit hv hA i).1 hi with h1 | ⟨a, ha, hia⟩
    · exact h k i hk h1
    · cases hr : rel (closed m) k i with
      | false => rfl
      | true =>
        have := h k a hk ha
        rw [closed_trans hr hia] at this; cases this
/-- how many sets are side by side -/
def sides (m : List Nat) : Nat := cnt (2 ^ m.length) (sideB (closed m))
theorem set12 {m : List Nat} (hv : Valid m) {s : Nat} (hs : s < 2 ^ m.length) : s < 4096 := Nat.lt_of_lt_of_le hs (show 2 ^ m.length ≤ 2 ^ 12 from Nat.pow_le_pow_right (by omega) hv.few)
theorem nodup_map_on {l : List Nat} {f : Nat → Nat} (hn : l.Nodup) (h : ∀ x ∈ l, ∀ y ∈ l, f x = f y → x = y) : (l.map f).Nodup := by
  unfold List.Nodup at hn ⊢
  rw [List.pairwise_map]
  exact hn.imp_of_mem fun {a b} ha hb hab e => hab (h a ha b hb e)
theorem nodup_filter_range (n : Nat) (p : Nat → Bool) : ((List.range n).filter p).Nodup := (List.nodup_range (n := n)).filter _
theorem sides_downs {m : List Nat} (hv : Valid m) : sides m = downs m := by
  apply Nat.le_antisymm
  · have h1 : ((List.range (2 ^ m.length)).filter (sideB (closed m))).length = sides m := filter_cnt _ _
    have hmem : ∀ s ∈ (List.range (2 ^ m.length)).filter (sideB (closed m)), s < 2 ^ m.length ∧ ∀ i j, s.testBit i = true → s.testBit j = true → rel (closed m) i j = false := fun s hs => by
      obtain ⟨a, b⟩ := List.mem_filter.1 hs
      have := List.mem_range.1 a
      exact ⟨this, (sideB_iff (set12 hv this)).1 b⟩
    rw [← h1, ← List.length_map (dclose m)]
    refine list_downs (nodup_map_on (nodup_filter_range _ _) fun x hx y hy e => ?_) fun s hs => ?_
    · obtain ⟨x1, x2⟩ := hmem x hx
      obtain ⟨y1, y2⟩ := hmem y hy
      rw [← dlast_dclose hv x1 x2, e, dlast_dclose hv y1 y2]
    · obtain ⟨x, hx, rfl⟩ := List.mem_map.1 hs
      obtain ⟨x1, _⟩ := hmem x hx
      exact ⟨dclose_lt m x1, dis_dclose hv x1⟩
  · have h1 : ((List.range (2 ^ m.length)).filter fun s => decide (dclose m s = s)).length = downs m := rfl
    have hmem : ∀ s ∈ (List.range (2 ^ m.length)).filter fun s => decide (dclose m s = s), s < 2 ^ m.length ∧ dis m s := fun s hs => by
      obtain ⟨a, b⟩ := List.mem_filter.1 hs
      exact ⟨List.mem_range.1 a, (show dclose m s = s from of_decide_eq_true b)⟩
    have hn : (((List.range (2 ^ m.length)).filter fun s => decide (dclose m s = s)).map (dlast m)).Nodup := nodup_map_on (nodup_filter_range _ _) fun x hx y hy e => by
      obtain ⟨x1, x2⟩ := hmem x hx
      obtain ⟨y1, y2⟩ := hmem y hy
      rw [← dclose_dlast hv x1 x2, e, dclose_dlast hv y1 y2]
    have hl : ∀ s ∈ ((List.range (2 ^ m.length)).filter fun s => decide (dclose m s = s)).map (dlast m), s < 2 ^ m.length ∧ sideB (closed m) s = true := fun s hs => by
      obtain ⟨x, hx, rfl⟩ := List.mem_map.1 hs
      obtain ⟨x1, _⟩ := hmem x hx
      have hlt := dlast_lt m x1
      refine ⟨hlt, (sideB_iff (set12 hv hlt)).2 fun i j hi hj => ?_⟩
      exact ((dlast_bit hv x1 i).1 hi).2 j ((dlast_bit hv x1 j).1 hj).1
    rw [← h1, ← List.length_map (dlast m), nodup_length hn fun s hs => (hl s hs).1]
    exact cnt_mono fun s _ hs => (hl s (of_decide_eq_true hs)).2

/-- the reference: a set with all that is ahead, thing by thing -/
def rdown (pre : List Nat) (s : Nat) : Nat → Nat
  | 0 => s
  | k + 1 => if s.testBit k = true then rdown pre s k ||| pre.getD k 0 else rdown pre s k
theorem rdown_bit (pre : List Nat) (s k x : Nat) : (rdown pre s k).testBit x = true ↔ s.testBit x = true ∨ ∃ i, i < k ∧ s.testBit i = true ∧ rel pre i x = true := by
  induction k with
  | zero => simp [rdown]
  | succ k ih =>
    unfold rdown
    by_cases h : s.testBit k = true
    · rw [if_pos h, Nat.testBit_or, Bool.or_eq_true, ih]
      constructor
      · rintro ((h1 | ⟨i, h1, h2⟩) | h1)
        · exact .inl h1
        · exact .inr ⟨i, by omega, h2⟩
        · exact .inr ⟨k, by omega, h, h1⟩
      · rintro (h1 | ⟨i, h1, h2, h3⟩)
        · exact .inl (.inl h1)
        · by_cases e : i = k
          · subst e; exact .inr h3
          · exact .inl (.inr ⟨i, by omega, h2, h3⟩)
    · rw [if_neg h, ih]
      refine or_congr Iff.rfl ⟨fun ⟨i, h1, h2⟩ => ⟨i, by omega, h2⟩, fun ⟨i, h1, h2, h3⟩ => ⟨i, ?_, h2, h3⟩⟩
      by_cases e : i = k
      · subst e; exact absurd h2 h
      · omega
theorem rdown_lt {m : List Nat} {s : Nat} (hs : s < 2 ^ m.length) (k : Nat) : rdown (turned m) s k < 2 ^ m.length := by
  induction k with
  | zero => exact hs
  | succ k ih =>
    unfold rdown
    split
    · exact Nat.or_lt_two_pow ih (turned_getD_lt m k)
    · exact ih
theorem rdown_all {m : List Nat} (hv : Valid m) {s : Nat} (hs : s < 2 ^ m.length) : rdown (turned m) s m.length = dclose m s := by
  apply eq_of_bits (rdown_lt hs _) (dclose_lt m hs)
  intro x _
  rw [Bool.eq_iff_iff, rdown_bit, dclose_bit hv hs]
  refine or_congr Iff.rfl ⟨fun ⟨i, _, h2, h3⟩ => ⟨i, h2, by rwa [rel_turned hv.fits] at h3⟩, fun ⟨i, h2, h3⟩ => ⟨i, bit_lt hs h2, h2, by rwa [rel_turned hv.fits]⟩⟩
/-- the reference: what is ahead of none of a set -/
def lastP (m : List Nat) (s i : Nat) : Bool := s.testBit i && decide ((closed m).getD i 0 &&& s = 0)
theorem rlast_all {m : List Nat} (hv : Valid m) {s : Nat} (hs : s < 2 ^ m.length) : mk m.length (lastP m s) = dlast m s := by
  apply eq_of_bits (mk_lt _ _) (dlast_lt m hs)
  intro x hx
  rw [testBit_mk, decide_eq_true hx, Bool.true_and, Bool.eq_iff_iff, dlast_bit hv hs]
  unfold lastP
  rw [Bool.and_eq_true, decide_eq_true_eq]
  refine and_congr Iff.rfl ⟨fun h i hi => ?_, fun h => ?_⟩
  · have := congrArg (fun y => y.testBit i) h
    simp only [Nat.testBit_and, hi, Bool.and_true, Nat.zero_testBit] at this
    exact this
  · apply Nat.eq_of_testBit_eq
    intro i
    rw [Nat.testBit_and, Nat.zero_testBit]
    cases hi : s.testBit i with
    | false => simp
    | true =>
      have := h i hi
      unfold rel at this
      rw [this]; rfl
end Odr
end Go.Proofs.YtpicjikjinkkpaaDoor
