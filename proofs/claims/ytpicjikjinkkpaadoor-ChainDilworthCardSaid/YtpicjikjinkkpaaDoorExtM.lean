/- Plain mathematics of the rows of an order: how many there are, set by set. No program is in sight. Conditions: none. -/
import Derived.Test.YtpicjikjinkkpaaDoorLastM
namespace Go.Proofs.YtpicjikjinkkpaaDoor
namespace Odr

/-- thing j may stand last of the things S -/
def okStep (pre : List Nat) (S j : Nat) : Bool := S.testBit j && decide (diff (pre.getD j 0) (S - 2 ^ j) = 0)
/-- the rows of the things S, of which there are k -/
def exts (pre : List Nat) (n : Nat) : Nat → Nat → List (List Nat)
  | 0, S => if S = 0 then [[]] else []
  | k + 1, S => (List.range n).flatMap fun j => if okStep pre S j then (exts pre n k (S - 2 ^ j)).map (· ++ [j]) else []
def pop (n S : Nat) : Nat := cnt n S.testBit
/-- how many rows of the things S there are -/
def ways (pre : List Nat) (n S : Nat) : Nat := (exts pre n (pop n S) S).length

theorem pop_zero (n : Nat) : pop n 0 = 0 := by
  unfold pop
  have : cnt n (Nat.testBit 0) = cnt n (fun _ => false) := cnt_congr fun i _ => by simp
  rw [this, cnt_false]
theorem pop_pos {n S : Nat} (hS : S < 2 ^ n) (h : pop n S = 0) : S = 0 := by
  apply eq_of_bits hS (Nat.two_pow_pos n)
  intro i hi
  rw [cnt_zero h i hi]; simp
theorem bit_lt {n S j : Nat} (hS : S < 2 ^ n) (h : S.testBit j = true) : j < n := by
  by_cases hj : j < n
  · exact hj
  · rw [testBit_lt hS (by omega)] at h; cases h
theorem pop_sub {n S j : Nat} (hS : S < 2 ^ n) (h : S.testBit j = true) : pop n S = pop n (S - 2 ^ j) + 1 := by
  unfold pop
  have hj := bit_lt hS h
  have h1 : cnt n S.testBit = cnt n (fun i => (S - 2 ^ j).testBit i || decide (i = j)) := by
    apply cnt_congr
    intro i _
    rw [testBit_sub_bit h]
    by_cases e : j = i
    · subst e; simp [h]
    · have e2 : ¬ i = j := fun h => e h.symm
      simp [e, e2]
  rw [h1, cnt_or (fun i _ => by
    rintro ⟨h2, h3⟩
    rw [testBit_sub_bit h] at h2
    simp at h2 h3
    exact h2.2 h3.symm), cnt_eq hj]
theorem sub_bit_lt {S j : Nat} (h : S.testBit j = true) : S - 2 ^ j < S := by
  have := Nat.ge_two_pow_of_testBit h
  have := Nat.two_pow_pos j
  omega
theorem okStep_bit {pre : List Nat} {S j : Nat} (h : okStep pre S j = true) : S.testBit j = true := by
  unfold okStep at h; rw [Bool.and_eq_true] at h; exact h.1

theorem ways_zero (pre : List Nat) (n : Nat) : ways pre n 0 = 1 := by
  unfold ways; rw [pop_zero]; simp [exts]
theorem length_flatMap {α β : Type} (l : List α) (f : α → List β) : (l.flatMap f).length = (l.map fun x => (f x).length).sum := by
  induction l with
  | nil => rfl
  | cons a l ih => simp [List.flatMap_cons, ih]
/-- the sum over the things below n -/
def tot (n : Nat) (f : Nat → Nat) : Nat := ((List.range n).map f).sum
theorem tot_zero (f : Nat → Nat) : tot 0 f = 0 := rfl
theorem tot_succ (n : Nat) (f : Nat → Nat) : tot (n + 1) f = tot n f + f n := by
  unfold tot; rw [List.range_succ]; simp
theorem tot_congr {n : Nat} {f g : Nat → Nat} (h : ∀ i, i < n → f i = g i) : tot n f = tot n g := by
  unfold tot
  congr 1
  exact List.map_congr_left fun i hi => h i (List.mem_range.1 hi)
theorem tot_le {n : Nat} {f g : Nat → Nat} (h : ∀ i, i < n → f i ≤ g i) : tot n f ≤ tot n g := by
  induction n with
  | zero => simp [tot_zero]
  | succ n ih =>
    rw [tot_succ, tot_succ]
    have := ih fun i hi => h i (by omega)
    have := h n (by omega)
    omega
theorem ways_step (pre : List Nat) (n S : Nat) (hS : S < 2 ^ n) (h0 : S ≠ 0) : ways pre n S = tot n fun j => if okStep pre S j then ways pre n (S - 2 ^ j) else 0 := by
  have hp : pop n S ≠ 0 := fun h => h0 (pop_pos hS h)
  obtain ⟨k, hk⟩ : ∃ k, pop n S = k + 1 := ⟨pop n S - 1, by omega⟩
  unfold ways
  rw [hk, exts, length_flatMap]
  apply tot_congr
  intro j _
  by_cases hj : okStep pre S j = true
  · rw [if_pos hj, if_pos hj, List.length_map]
    have := pop_sub hS (okStep_bit hj)
    rw [show pop n (S - 2 ^ j) = k by omega]
  · rw [if_neg hj, if_neg hj]; rfl

/-- what stands in cell T when all sets below s are done, and of s the things below i -/
def wcell (pre : List Nat) (n s i T : Nat) : Nat :=
  (if T = 0 then 1 else 0) + tot n fun j => if okStep pre T j = true ∧ (T - 2 ^ j < s ∨ (T - 2 ^ j = s ∧ j < i)) then ways pre n (T - 2 ^ j) else 0
theorem tot_none {n : Nat} : tot n (fun _ => 0) = 0 := by
  induction n with
  | zero => rfl
  | succ n ih => rw [tot_succ, ih]
theorem wcell_start (pre : List Nat) (n T : Nat) : wcell pre n 0 0 T = if T = 0 then 1 else 0 := by
  unfold wcell
  rw [tot_congr (g := fun _ => 0) (fun j _ => by rw [if_neg]; omega), tot_none]; rfl
theorem wcell_next (pre : List Nat) (n s T : Nat) : wcell pre n s n T = wcell pre n (s + 1) 0 T := by
  unfold wcell
  congr 1
  apply tot_congr
  intro j hj
  have : (okStep pre T j = true ∧ (T - 2 ^ j < s ∨ (T - 2 ^ j = s ∧ j < n))) ↔ (okStep pre T j = true ∧ (T - 2 ^ j < s + 1 ∨ (T - 2 ^ j = s + 1 ∧ j < 0))) := by
    constructor
    · rintro ⟨h1, h2⟩; exact ⟨h1, by omega⟩
    · rintro ⟨h1, h2⟩; exact ⟨h1, by omega⟩
  by_cases h : okStep pre T j = true ∧ (T - 2 ^ j < s ∨ (T - 2 ^ j = s ∧ j < n))
  · rw [if_pos h, if_pos (this.1 h)]
  · rw [if_neg h, if_neg (fun g => h (this.2 g))]
theorem wcell_done {pre : List Nat} {n s i T : Nat} (hT : T < 2 ^ n) (h : T ≤ s) : wcell pre n s i T = ways pre n T := by
  unfold wcell
  by_cases h0 : T = 0
  · subst h0
    rw [if_pos rfl, ways_zero, tot_congr (g := fun _ => 0) (fun j _ => by
      rw [if_neg]
      rintro ⟨h, _⟩
      have := okStep_bit h
      simp at this), tot_none]
  · rw [if_neg h0, Nat.zero_add, ways_step pre n T hT h0]
    apply tot_congr
    intro j _
    by_cases hj : okStep pre T j = true
    · have := sub_bit_lt (okStep_bit hj)
      rw [if_pos ⟨hj, .inl (by omega)⟩, if_pos hj]
    · rw [if_neg (fun h => hj h.1), if_neg hj]
theorem tot_add (n : Nat) (f g : Nat → Nat) : tot n (fun j => f j + g j) = tot n f + tot n g := by
  induction n with
  | zero => rfl
  | succ n ih => rw [tot_succ, tot_succ, tot_succ, ih]; omega
theorem tot_one (n i x : Nat) (hi : i < n) : tot n (fun j => if j = i then x else 0) = x := by
  induction n with
  | zero => omega
  | succ n ih =>
    rw [tot_succ]
    by_cases h : i = n
    · subst h
      rw [if_pos rfl, tot_congr (g := fun _ => 0) (fun j hj => if_neg (by omega)), tot_none]; omega
    · rw [ih (by omega), if_neg (by omega)]; omega
theorem wcell_step (pre : List Nat) (n s i T : Nat) (hi : i < n) : wcell pre n s (i + 1) T = wcell pre n s i T + if okStep pre T i = true ∧ T - 2 ^ i = s then ways pre n s else 0 := by
  unfold wcell
  rw [Nat.add_assoc]
  congr 1
  have e : (if okStep pre T i = true ∧ T - 2 ^ i = s then ways pre n s else 0) = tot n fun j => if j = i then (if okStep pre T i = true ∧ T - 2 ^ i = s then ways pre n s else 0) else 0 := (tot_one n i _ hi).symm
  rw [e, ← tot_add]
  apply tot_congr
  intro j _
  by_cases hj : j = i
  · subst hj
    rw [if_pos rfl]
    by_cases hok : okStep pre T j = true
    · by_cases h1 : T - 2 ^ j < s
      · rw [if_pos ⟨hok, .inl h1⟩, if_pos ⟨hok, .inl h1⟩, if_neg (by omega)]; rfl
      · by_cases h2 : T - 2 ^ j = s
        · rw [if_pos ⟨hok, .inr ⟨h2, by omega⟩⟩, if_neg (by omega), if_pos ⟨hok, h2⟩, h2]; omega
        · rw [if_neg (by omega), if_neg (by omega), if_neg (by omega)]
    · rw [if_neg (fun h => hok h.1), if_neg (fun h => hok h.1), if_neg (fun h => hok h.1)]
  · simp only [if_neg hj, Nat.add_zero]
    have : (okStep pre T j = true ∧ (T - 2 ^ j < s ∨ (T - 2 ^ j = s ∧ j < i + 1))) ↔ (okStep pre T j = true ∧ (T - 2 ^ j < s ∨ (T - 2 ^ j = s ∧ j < i))) := by
      constructor
      · rintro ⟨h1, h2⟩; exact ⟨h1, by omega⟩
      · rintro ⟨h1, h2⟩; exact ⟨h1, by omega⟩
    by_cases h : okStep pre T j = true ∧ (T - 2 ^ j < s ∨ (T - 2 ^ j = s ∧ j < i))
    · rw [if_pos h, if_pos (this.2 h)]
    · rw [if_neg h, if_neg (fun g => h (this.1 g))]
/-- no more than there are rows of so many things -/
def fact : Nat → Nat
  | 0 => 1
  | n + 1 => (n + 1) * fact n
theorem tot_le_cnt {n c : Nat} {p : Nat → Bool} {f : Nat → Nat} (h : ∀ i, i < n → f i ≤ if p i then c else 0) : tot n f ≤ cnt n p * c := by
  have e : ∀ n, tot n (fun i => if p i then c else 0) = cnt n p * c := by
    intro n
    induction n with
    | zero => simp [tot_zero, cnt]
    | succ n ih =>
      rw [tot_succ, ih, show cnt (n + 1) p = cnt n p + if p n = true then 1 else 0 from rfl, Nat.add_mul]
      by_cases hp : p n = true
      · simp [hp]
      · simp [hp]
  rw [← e]
  exact tot_le h
theorem ways_le {pre : List Nat} {n : Nat} : ∀ (k S : Nat), S < 2 ^ n → pop n S = k → ways pre n S ≤ fact k := by
  intro k
  induction k with
  | zero =>
    intro S hS h
    rw [pop_pos hS h, ways_zero]; exact Nat.le_refl _
  | succ k ih =>
    intro S hS h
    have h0 : S ≠ 0 := fun e => by rw [e, pop_zero] at h; omega
    rw [ways_step pre n S hS h0, fact, ← h]
    unfold pop
    apply tot_le_cnt
    intro j _
    by_cases hj : okStep pre S j = true
    · have hb := okStep_bit hj
      rw [if_pos hj, if_pos hb]
      exact ih _ (Nat.lt_of_le_of_lt (Nat.sub_le _ _) hS) (by have := pop_sub hS hb; omega)
    · rw [if_neg hj]; exact Nat.zero_le _
/-- all cells -/
def wlist (pre : List Nat) (n s i : Nat) : List Nat := (List.range (2 ^ n)).map (wcell pre n s i)
theorem length_wlist (pre : List Nat) (n s i : Nat) : (wlist pre n s i).length = 2 ^ n := by simp [wlist]
theorem getD_wlist (pre : List Nat) (n s i : Nat) {T : Nat} (hT : T < 2 ^ n) : (wlist pre n s i).getD T 0 = wcell pre n s i T := by
  rw [List.getD_eq_getElem?_getD]; simp [wlist, hT]
theorem wcell_le {pre : List Nat} {n s i T : Nat} (hT : T < 2 ^ n) : wcell pre n s i T ≤ ways pre n T := by
  rw [← wcell_done (s := T) (i := 0) hT (Nat.le_refl _)]
  unfold wcell
  apply Nat.add_le_add_left
  apply tot_le
  intro j _
  by_cases hj : okStep pre T j = true
  · have := sub_bit_lt (okStep_bit hj)
    rw [if_pos (show okStep pre T j = true ∧ (T - 2 ^ j < T ∨ _) from ⟨hj, .inl this⟩)]
    split
    · exact Nat.le_refl _
    · exact Nat.zero_le _
  · rw [if_neg (fun h => hj h.1)]; exact Nat.zero_le _
theorem fact_mono {a b : Nat} (h : a ≤ b) : fact a ≤ fact b := by
  induction b with
  | zero => rw [Nat.le_zero.1 h]; exact Nat.le_refl _
  | succ b ih =>
    by_cases e : a = b + 1
    · rw [e]; exact Nat.le_refl _
    · have := ih (by omega)
      have h2 : fact b ≤ fact (b + 1) := by
        rw [fact]; exact Nat.le_mul_of_pos_left _ (by omega)
      omega
theorem ways_bound {pre : List Nat} {n T : Nat} (hn : n ≤ 12) (hT : T < 2 ^ n) : ways pre n T ≤ 479001600 := by
  have h1 := ways_le (pre := pre) (pop n T) T hT rfl
  have h2 := fact_mono (show pop n T ≤ 12 from Nat.le_trans (cnt_le n _) hn)
  have h3 : fact 12 = 479001600 := by decide
  omega
theorem or_bit {s i : Nat} (h : s.testBit i = false) : s ||| 2 ^ i = s + 2 ^ i := by
  have h0 : s &&& 2 ^ i = 0 := by
    apply Nat.eq_of_testBit_eq
    intro k
    rw [Nat.testBit_and, Nat.zero_testBit, testBit_two_pow']
    by_cases hk : i = k
    · subst hk; simp [h]
    · simp [hk]
  have := and_add_or s (2 ^ i)
  omega
theorem okStep_or {pre : List Nat} {s i : Nat} (h : s.testBit i = false) (hd : diff (pre.getD i 0) s = 0) : okStep pre (s ||| 2 ^ i) i = true := by
  unfold okStep
  have h1 : (s ||| 2 ^ i).testBit i = true := by rw [Nat.testBit_or, testBit_two_pow']; simp
  have h2 : (s ||| 2 ^ i) - 2 ^ i = s := by rw [or_bit h]; omega
  rw [h1, h2, hd]; rfl
theorem wlist_store {pre : List Nat} {n s i : Nat} (hs : s < 2 ^ n) (hi : i < n) (h : s.testBit i = false) (hd : diff (pre.getD i 0) s = 0) :
    s ||| 2 ^ i < 2 ^ n ∧ wlist pre n s (i + 1) = (wlist pre n s i).set (s ||| 2 ^ i) ((wlist pre n s i).getD (s ||| 2 ^ i) 0 + ways pre n s) := by
  have hlt : s ||| 2 ^ i < 2 ^ n := Nat.or_lt_two_pow hs (Nat.pow_lt_pow_right (by omega) hi)
  refine ⟨hlt, ?_⟩
  rw [getD_wlist pre n s i hlt]
  apply List.ext_getElem (by simp [wlist])
  intro T h1 h2
  rw [List.getElem_set]
  simp only [wlist, List.getElem_map, List.getElem_range]
  rw [wcell_step pre n s i T hi]
  by_cases hT : s ||| 2 ^ i = T
  · rw [if_pos hT, ← hT, if_pos ⟨okStep_or h hd, by rw [or_bit h]; omega⟩]
  · rw [if_neg hT, if_neg]
    · rfl
    · rintro ⟨g1, g2⟩
      apply hT
      have := Nat.ge_two_pow_of_testBit (okStep_bit g1)
      rw [or_bit h]; omega
theorem wlist_skip {pre : List Nat} {n s i : Nat} (hi : i < n) (h : s.testBit i = true ∨ diff (pre.getD i 0) s ≠ 0 ∨ ways pre n s = 0) : wlist pre n s (i + 1) = wlist pre n s i := by
  unfold wlist
  apply List.map_congr_left
  intro T _
  rw [wcell_step pre n s i T hi]
  by_cases hg : okStep pre T i = true ∧ T - 2 ^ i = s
  · rw [if_pos hg]
    obtain ⟨g1, g2⟩ := hg
    have hb := okStep_bit g1
    rcases h with h | h | h
    · rw [← g2, testBit_sub_bit hb] at h; simp at h
    · unfold okStep at g1
      rw [Bool.and_eq_true, g2] at g1
      exact absurd (of_decide_eq_true g1.2) h
    · rw [h]; rfl
  · rw [if_neg hg]; rfl
theorem wlist_next (pre : List Nat) (n s : Nat) : wlist pre n s n = wlist pre n (s + 1) 0 := by
  unfold wlist
  exact List.map_congr_left fun T _ => wcell_next pre n s T
theorem wlist_start (pre : List Nat) (n : Nat) : wlist pre n 0 0 = (List.replicate (2 ^ n) 0).set 0 1 := by
  apply List.ext_getElem (by simp [wlist])
  intro T h1 h2
  rw [List.getElem_set]
  simp only [wlist, List.getElem_map, List.getElem_range, List.getElem_replicate]
  rw [wcell_start]
  by_cases h : T = 0
  · subst h; simp
  · rw [if_neg h, if_neg (fun e => h e.symm)]
theorem wlist_self {pre : List Nat} {n s i : Nat} (hs : s < 2 ^ n) : (wlist pre n s i).getD s 0 = ways pre n s := by
  rw [getD_wlist pre n s i hs, wcell_done hs (Nat.le_refl _)]
theorem wlist_last {pre : List Nat} {n : Nat} : (wlist pre n (2 ^ n) 0).getD (2 ^ n - 1) 0 = ways pre n (2 ^ n - 1) := by
  have := Nat.two_pow_pos n
  rw [getD_wlist _ _ _ _ (by omega), wcell_done (by omega) (by omega)]
end Odr
end Go.Proofs.YtpicjikjinkkpaaDoor
