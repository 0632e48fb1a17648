/- Plain mathematics: at least as many rows as things side by side may stand, and one alone just where all stand in a row. No program is in sight. Conditions: none. -/
import Derived.Test.YtpicjikjinkkpaaDoorExtF
import Derived.Test.YtpicjikjinkkpaaDoorWidest
import Derived.Test.YtpicjikjinkkpaaDoorKeeps
namespace Go.Proofs.YtpicjikjinkkpaaDoor
namespace Odr

theorem cnt_more {n k : Nat} {p : Nat → Bool} (hn : n ≤ k) (h : ∀ i, n ≤ i → p i = false) : cnt k p = cnt n p := by
  induction k with
  | zero => obtain rfl : n = 0 := by omega
            rfl
  | succ k ih =>
    by_cases e : n = k + 1
    · subst e; rfl
    · rw [show cnt (k + 1) p = cnt k p + if p k = true then 1 else 0 from rfl, ih (by omega), h k (by omega)]; rfl
theorem pop12 {n S : Nat} (hn : n ≤ 12) (hS : S < 2 ^ n) : pop 12 S = pop n S := cnt_more hn fun _ hi => testBit_lt hS hi

theorem tot_ge_cnt {n c : Nat} {p : Nat → Bool} {f : Nat → Nat} (h : ∀ i, i < n → p i = true → c ≤ f i) : cnt n p * c ≤ tot n f := by
  induction n with
  | zero => simp [tot_zero, cnt]
  | succ n ih =>
    have h1 := ih fun i hi => h i (by omega)
    rw [tot_succ, show cnt (n + 1) p = cnt n p + if p n = true then 1 else 0 from rfl, Nat.add_mul]
    by_cases hp : p n = true
    · have := h n (by omega) hp
      simp [hp]; omega
    · simp [hp]; omega
theorem tot_ge_one {n j : Nat} {f : Nat → Nat} (hj : j < n) : f j ≤ tot n f := by
  induction n with
  | zero => omega
  | succ n ih =>
    rw [tot_succ]
    by_cases e : j = n
    · subst e; omega
    · have := ih (by omega); omega

/-- a set with all that is ahead of it -/
def lower (m : List Nat) (S : Nat) : Prop := ∀ i j, S.testBit j = true → rel (closed m) i j = true → S.testBit i = true
theorem lower_less {m : List Nat} {S j : Nat} (hS : lower m S) (hj : S.testBit j = true) (hmax : ∀ k, S.testBit k = true → rel (closed m) j k = false) : lower m (S - 2 ^ j) := by
  intro x y hy hxy
  rw [testBit_sub_bit hj, Bool.and_eq_true] at hy ⊢
  refine ⟨hS x y hy.1 hxy, ?_⟩
  have : j ≠ x := fun e => by subst e; rw [hmax y hy.1] at hxy; cases hxy
  simp [this]
theorem lower_ok {m : List Nat} (hv : Valid m) {S j : Nat} (hS : lower m S) (hj : S.testBit j = true) : okStep (turned m) S j = true := by
  unfold okStep
  rw [hj, Bool.true_and]
  refine decide_eq_true ((diff_zero _ _).2 fun i hi => ?_)
  have hi' : rel (closed m) i j = true := by rw [← rel_turned hv.fits]; exact hi
  rw [testBit_sub_bit hj, hS i j hj hi']
  have : j ≠ i := fun e => by subst e; rw [hv.irr] at hi'; cases hi'
  simp [this]
theorem exists_max {m : List Nat} (hv : Valid m) (P : Nat → Prop) (h : ∃ i, P i) : ∃ j, P j ∧ ∀ k, P k → rel (closed m) j k = false := by
  obtain ⟨j, h1, h2⟩ := exists_least (R := fun i j => rel (closed m) j i = true) m.length
    (fun i j h => by have := rel_lt_right hv.fits.closed h; rwa [length_closed] at this)
    (fun i j k h g => closed_trans g h) (fun i h => by rw [hv.irr] at h; cases h) P h
  exact ⟨j, h1, fun k hk => by
    cases hr : rel (closed m) j k with
    | false => rfl
    | true => exact absurd hr (h2 k hk)⟩

theorem ways_ge {m : List Nat} (hv : Valid m) : ∀ (k S A : Nat), S < 2 ^ m.length → pop m.length S = k → lower m S → (∀ i, A.testBit i = true → S.testBit i = true) →
    (∀ i j, A.testBit i = true → A.testBit j = true → rel (closed m) i j = false) → fact (pop m.length A) ≤ ways (turned m) m.length S := by
  intro k
  induction k with
  | zero =>
    intro S A hS hp _ hA _
    have h0 := pop_pos hS hp
    subst h0
    have hA0 : A = 0 := by
      apply Nat.eq_of_testBit_eq
      intro i
      cases hb : A.testBit i with
      | false => simp
      | true => have := hA i hb; simp at this
    rw [hA0, pop_zero, ways_zero]
    exact Nat.le_refl _
  | succ k ih =>
    intro S A hS hp hl hA hside
    have h0 : S ≠ 0 := fun e => by rw [e, pop_zero] at hp; omega
    rw [ways_step _ _ _ hS h0]
    have hsub : ∀ j, S - 2 ^ j < 2 ^ m.length := fun j => Nat.lt_of_le_of_lt (Nat.sub_le _ _) hS
    have hex : ∃ i, S.testBit i = true := by
      refine Classical.byContradiction fun h => h0 (Nat.eq_of_testBit_eq fun i => ?_)
      rw [Nat.zero_testBit]
      cases hb : S.testBit i with
      | false => rfl
      | true => exact absurd ⟨i, hb⟩ h
    by_cases hout : ∃ j, S.testBit j = true ∧ (∀ k, S.testBit k = true → rel (closed m) j k = false) ∧ A.testBit j = false
    · obtain ⟨j, hj, hmax, hjA⟩ := hout
      have h1 := ih (S - 2 ^ j) A (hsub j) (by have := pop_sub hS hj; omega) (lower_less hl hj hmax) (fun i hi => by
        rw [testBit_sub_bit hj, hA i hi]
        have : j ≠ i := fun e => by subst e; rw [hjA] at hi; cases hi
        simp [this]) hside
      refine Nat.le_trans h1 (Nat.le_trans ?_ (tot_ge_one (bit_lt hS hj)))
      simp only [if_pos (lower_ok hv hl hj)]
      exact Nat.le_refl _
    · have hin : ∀ j, S.testBit j = true → (∀ k, S.testBit k = true → rel (closed m) j k = false) → A.testBit j = true := fun j hj hmax => by
        cases hb : A.testBit j with
        | true => rfl
        | false => exact absurd ⟨j, hj, hmax, hb⟩ hout
      have hAm : ∀ a, A.testBit a = true → ∀ k, S.testBit k = true → rel (closed m) a k = false := fun a ha k hk => by
        cases hr : rel (closed m) a k with
        | false => rfl
        | true =>
          obtain ⟨j, ⟨hj, hj2⟩, hmax⟩ := exists_max hv (fun j => S.testBit j = true ∧ rel (closed m) a j = true) ⟨k, hk, hr⟩
          have := hin j hj fun x hx => by
            cases hr' : rel (closed m) j x with
            | false => rfl
            | true => have := hmax x ⟨hx, closed_trans hj2 hr'⟩; rw [hr'] at this; cases this
          have := hside a j ha this
          rw [hj2] at this; cases this
      obtain ⟨a0, ha0, hmax0⟩ := exists_max hv (fun j => S.testBit j = true) hex
      have hA0 := hin a0 ha0 hmax0
      have hAlt : A < 2 ^ m.length := by
        apply Nat.lt_of_not_le
        intro hge
        obtain ⟨i, hi, hb⟩ := Nat.exists_ge_and_testBit_of_ge_two_pow hge
        have h1 := hA i hb
        rw [testBit_lt hS hi] at h1
        cases h1
      have hpa := pop_sub hAlt hA0
      rw [hpa, fact, ← hpa]
      refine tot_ge_cnt (p := A.testBit) fun a ha hb => ?_
      rw [if_pos (lower_ok hv hl (hA a hb))]
      have h1 := ih (S - 2 ^ a) (A - 2 ^ a) (hsub a) (by have := pop_sub hS (hA a hb); omega) (lower_less hl (hA a hb) (hAm a hb)) (fun i hi => by
        rw [testBit_sub_bit hb, Bool.and_eq_true] at hi
        rw [testBit_sub_bit (hA a hb), hA i hi.1, hi.2]; rfl) (fun i j hi hj => by
        rw [testBit_sub_bit hb, Bool.and_eq_true] at hi hj
        exact hside i j hi.1 hj.1)
      have hpb := pop_sub hAlt hb
      rwa [show pop m.length (A - 2 ^ a0) = pop m.length (A - 2 ^ a) by omega]

theorem lower_full (m : List Nat) : lower m (2 ^ m.length - 1) := by
  intro i j _ h
  rw [testBit_full]
  have := rel_lt_left h
  rw [length_closed] at this
  simpa using this
theorem rows_ge {m : List Nat} (hv : Valid m) : fact (pop 12 (widest (closed m))) ≤ (rows m).length := by
  have hw := widest_lt (closed m)
  rw [length_closed] at hw
  have h2 := Nat.two_pow_pos m.length
  rw [pop12 hv.few hw, ← ways_rows]
  refine ways_ge hv _ _ _ (by omega) rfl (lower_full m) (fun i hi => ?_) ((sideB_iff (Nat.lt_of_lt_of_le hw (show 2 ^ m.length ≤ 2 ^ 12 from Nat.pow_le_pow_right (by omega) hv.few))).1 (widest_side _))
  rw [testBit_full]
  simpa using bit_lt hw hi
theorem rows_le {m : List Nat} : (rows m).length ≤ fact m.length := by
  have h2 := Nat.two_pow_pos m.length
  rw [← ways_rows]
  exact ways_le _ _ (by omega) (pop_full _)

theorem pop_pair {i j : Nat} (hi : i < 12) (hj : j < 12) (hij : i ≠ j) : pop 12 (2 ^ i ||| 2 ^ j) = 2 := by
  unfold pop
  rw [cnt_congr (q := fun k => decide (k = i) || decide (k = j)) (fun k _ => by
    rw [Nat.testBit_or, testBit_two_pow', testBit_two_pow']
    have e1 : decide (i = k) = decide (k = i) := decide_eq_decide.2 eq_comm
    have e2 : decide (j = k) = decide (k = j) := decide_eq_decide.2 eq_comm
    rw [e1, e2]), cnt_or (fun k _ => by rintro ⟨h1, h2⟩; simp at h1 h2; omega), cnt_eq hi, cnt_eq hj]
/-- where no two things stand side by side all stand in a row -/
theorem narrow_all {m : List Nat} (hv : Valid m) (h : pop 12 (widest (closed m)) ≤ 1) {i j : Nat} (hi : i < m.length) (hj : j < m.length) (hij : i ≠ j) : rel (closed m) i j = true ∨ rel (closed m) j i = true := by
  refine Classical.byContradiction fun hn => ?_
  have h1 : rel (closed m) i j = false := by
    cases hr : rel (closed m) i j with
    | false => rfl
    | true => exact absurd (.inl hr) hn
  have h2 : rel (closed m) j i = false := by
    cases hr : rel (closed m) j i with
    | false => rfl
    | true => exact absurd (.inr hr) hn
  have hfew := hv.few
  have hs : 2 ^ i ||| 2 ^ j < 2 ^ (closed m).length := by
    rw [length_closed]
    exact Nat.or_lt_two_pow (Nat.pow_lt_pow_right (by omega) hi) (Nat.pow_lt_pow_right (by omega) hj)
  have h12 : 2 ^ i ||| 2 ^ j < 4096 := by
    rw [length_closed] at hs
    exact Nat.lt_of_lt_of_le hs (show 2 ^ m.length ≤ 2 ^ 12 from Nat.pow_le_pow_right (by omega) hfew)
  have hbit : ∀ k, (2 ^ i ||| 2 ^ j).testBit k = true → k = i ∨ k = j := fun k hk => by
    rw [Nat.testBit_or, testBit_two_pow', testBit_two_pow'] at hk
    simp at hk
    rcases hk with h | h
    · exact .inl h.symm
    · exact .inr h.symm
  have := widest_most hs ((sideB_iff h12).2 fun a b ha hb => by
    rcases hbit a ha with rfl | rfl <;> rcases hbit b hb with rfl | rfl
    · exact hv.irr _
    · exact h1
    · exact h2
    · exact hv.irr _)
  rw [pop_pair (by omega) (by omega) hij] at this
  omega
theorem row_unique {m l l' : List Nat} (htot : ∀ i j, i < m.length → j < m.length → i ≠ j → rel (closed m) i j = true ∨ rel (closed m) j i = true)
    (h : isRow (closed m) m.length l) (h' : isRow (closed m) m.length l') (hl : l.length = m.length) (hl' : l'.length = m.length) : l = l' := by
  have key : ∀ k, k ≤ m.length → l.take k = l'.take k := by
    intro k
    induction k with
    | zero => intro _; simp
    | succ k ih =>
      intro hk
      have ihk := ih (by omega)
      have k1 : k < l.length := by omega
      have k2 : k < l'.length := by omega
      have e1 : l.getD k 0 = l[k] := by rw [List.getD_eq_getElem?_getD, List.getElem?_eq_getElem k1]; rfl
      have e2 : l'.getD k 0 = l'[k] := by rw [List.getD_eq_getElem?_getD, List.getElem?_eq_getElem k2]; rfl
      rw [List.take_succ_eq_append_getElem k1, List.take_succ_eq_append_getElem k2, ihk, ← e1, ← e2]
      have d1 := idxOf_getD h.1 k1
      have d2 := idxOf_getD h'.1 k2
      have b1 := row_lt h k1
      have b2 := row_lt h' k2
      have mem_take : ∀ (q : List Nat) a, q.idxOf a < k → a ∈ q → a ∈ q.take k := fun q a ha hq => by
        have hlt := List.idxOf_lt_length_iff.2 hq
        have he := List.getElem_idxOf hlt
        rw [← he]
        exact List.mem_take_iff_getElem.2 ⟨q.idxOf a, by omega, rfl⟩
      have idx_take : ∀ (q : List Nat) a, q.Nodup → a ∈ q.take k → q.idxOf a < k := fun q a hq ha => by
        obtain ⟨i, hi, he⟩ := List.mem_take_iff_getElem.1 ha
        have hi2 : i < q.length := by omega
        have := idxOf_getD hq hi2
        rw [List.getD_eq_getElem?_getD, List.getElem?_eq_getElem hi2] at this
        simp only [Option.getD_some] at this
        rw [he] at this
        omega
      by_cases e : l.getD k 0 = l'.getD k 0
      · rw [e]
      · exfalso
        rcases htot _ _ b1 b2 e with hr | hr
        · have h1 := h'.2.2 _ _ hr
          rw [d2] at h1
          have h2 := mem_take l' _ h1 ((h'.2.1 _).2 b1)
          rw [← ihk] at h2
          have := idx_take l _ h.1 h2
          omega
        · have h1 := h.2.2 _ _ hr
          rw [d1] at h1
          have h2 := mem_take l _ h1 ((h.2.1 _).2 b2)
          rw [ihk] at h2
          have := idx_take l' _ h'.1 h2
          omega
  have := key m.length (Nat.le_refl _)
  rwa [List.take_of_length_le (by omega), List.take_of_length_le (by omega)] at this
theorem row_length {m l : List Nat} (h : isRow (closed m) m.length l) : l.length = m.length := by
  rw [nodup_length h.1 (fun x hx => (h.2.1 x).1 hx)]
  exact cnt_all fun i hi => by simpa using (h.2.1 i).2 hi
theorem rows_one {m : List Nat} (hv : Valid m) : (rows m).length = 1 ↔ pop 12 (widest (closed m)) ≤ 1 := by
  constructor
  · intro h
    have h1 := rows_ge hv
    refine Nat.le_of_not_lt fun h2 => ?_
    have h3 := fact_mono (show 2 ≤ pop 12 (widest (closed m)) from h2)
    have h4 : fact 2 = 2 := rfl
    omega
  · intro h
    have hp := rows_pos hv
    refine Nat.le_antisymm (Nat.le_of_not_lt fun h2 => ?_) hp
    have hn := nodup_rows m
    have h0 : 0 < (rows m).length := hp
    have hne := List.pairwise_iff_getElem.1 hn 0 1 h0 h2 (by omega)
    have r0 := (mem_rows hv _).1 (List.getElem_mem h0)
    have r1 := (mem_rows hv _).1 (List.getElem_mem h2)
    exact hne (row_unique (fun i j hi hj hij => narrow_all hv h hi hj hij) r0 r1 (row_length r0) (row_length r1))
end Odr
end Go.Proofs.YtpicjikjinkkpaaDoor
