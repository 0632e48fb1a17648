/- Plain mathematics: the reference counts the rows by what may stand last, set by set: as many as there are. No program is in sight. Conditions: none. -/
import Derived.Test.YtpicjikjinkkpaaDoorBoundM
namespace Go.Proofs.YtpicjikjinkkpaaDoor
namespace Odr

/-- how many rows of the things S there are, whatever stands beside them -/
def linK (c : List Nat) (n : Nat) : Nat → Nat → Nat
  | 0, S => if S = 0 then 1 else 0
  | k + 1, S => tot n fun i => if S.testBit i = true ∧ c.getD i 0 &&& S = 0 then linK c n k (S - 2 ^ i) else 0
def lin (c : List Nat) (n S : Nat) : Nat := linK c n (pop n S) S
def linT (c : List Nat) (n S i : Nat) : Nat := if S.testBit i = true ∧ c.getD i 0 &&& S = 0 then lin c n (S - 2 ^ i) else 0
theorem lin_zero (c : List Nat) (n : Nat) : lin c n 0 = 1 := by unfold lin; rw [pop_zero]; rfl
theorem lin_step {c : List Nat} {n S : Nat} (hS : S < 2 ^ n) (h0 : S ≠ 0) : lin c n S = tot n (linT c n S) := by
  have hp : pop n S ≠ 0 := fun h => h0 (pop_pos hS h)
  obtain ⟨k, hk⟩ : ∃ k, pop n S = k + 1 := ⟨pop n S - 1, by omega⟩
  unfold lin
  rw [hk]
  show tot n _ = _
  apply tot_congr
  intro i _
  unfold linT
  by_cases h : S.testBit i = true ∧ c.getD i 0 &&& S = 0
  · rw [if_pos h, if_pos h]
    unfold lin
    have := pop_sub hS h.1
    rw [show pop n (S - 2 ^ i) = k by omega]
  · rw [if_neg h, if_neg h]
theorem lin_le {c : List Nat} {n : Nat} : ∀ (k S : Nat), S < 2 ^ n → pop n S = k → lin c n S ≤ fact k := by
  intro k
  induction k with
  | zero => intro S hS h; rw [pop_pos hS h, lin_zero]; exact Nat.le_refl _
  | succ k ih =>
    intro S hS h
    have h0 : S ≠ 0 := fun e => by rw [e, pop_zero] at h; omega
    rw [lin_step hS h0, fact, ← h]
    unfold pop
    apply tot_le_cnt
    intro i _
    unfold linT
    by_cases hi : S.testBit i = true ∧ c.getD i 0 &&& S = 0
    · rw [if_pos hi, if_pos hi.1]
      exact ih _ (Nat.lt_of_le_of_lt (Nat.sub_le _ _) hS) (by have := pop_sub hS hi.1; omega)
    · rw [if_neg hi]; exact Nat.zero_le _
theorem lin_bound {c : List Nat} {n T : Nat} (hn : n ≤ 12) (hT : T < 2 ^ n) : lin c n T ≤ 479001600 := by
  have h1 := lin_le (c := c) (pop n T) T hT rfl
  have h2 := fact_mono (show pop n T ≤ 12 from Nat.le_trans (cnt_le n _) hn)
  have h3 : fact 12 = 479001600 := by decide
  omega
theorem linT_bound {c : List Nat} {n T i : Nat} (hn : n ≤ 12) (hT : T < 2 ^ n) : linT c n T i ≤ 479001600 := by
  unfold linT
  split
  · exact lin_bound hn (Nat.lt_of_le_of_lt (Nat.sub_le _ _) hT)
  · omega
/-- the table as far as it is filled -/
def rcell (c : List Nat) (n s i T : Nat) : Nat := if T < s then lin c n T else if T = s then tot i (linT c n s) else 0
def rlist (c : List Nat) (n s i : Nat) : List Nat := (List.range (2 ^ n)).map (rcell c n s i)
theorem length_rlist (c : List Nat) (n s i : Nat) : (rlist c n s i).length = 2 ^ n := by simp [rlist]
theorem getD_rlist (c : List Nat) (n s i : Nat) {T : Nat} (hT : T < 2 ^ n) : (rlist c n s i).getD T 0 = rcell c n s i T := by
  rw [List.getD_eq_getElem?_getD]; simp [rlist, hT]
theorem tot_bound {n : Nat} {f : Nat → Nat} {b : Nat} (h : ∀ i, f i ≤ b) : tot n f ≤ n * b := by
  induction n with
  | zero => simp [tot_zero]
  | succ n ih => rw [tot_succ, Nat.add_mul]; have := h n; omega
theorem rcell_self_bound {c : List Nat} {n s i : Nat} (hn : n ≤ 12) (hs : s < 2 ^ n) (hi : i ≤ n) : rcell c n s i s ≤ 12 * 479001600 := by
  unfold rcell
  rw [if_neg (Nat.lt_irrefl _), if_pos rfl]
  have h1 := tot_bound (n := i) (f := linT c n s) (b := 479001600) fun j => linT_bound hn hs
  exact Nat.le_trans h1 (Nat.mul_le_mul_right _ (by omega))
theorem rcell_low {c : List Nat} {n s i T : Nat} (h : T < s) : rcell c n s i T = lin c n T := by unfold rcell; rw [if_pos h]
theorem rlist_start (c : List Nat) (n : Nat) : rlist c n 1 0 = (List.replicate (2 ^ n) 0).set 0 1 := by
  apply List.ext_getElem (by simp [rlist])
  intro T h1 h2
  rw [List.getElem_set]
  simp only [rlist, List.getElem_map, List.getElem_range, List.getElem_replicate]
  unfold rcell
  by_cases h : T = 0
  · subst h; simp [lin_zero]
  · rw [if_neg (show ¬ T < 1 by omega), if_neg (show ¬ 0 = T from fun e => h e.symm)]
    split <;> rfl
theorem rlist_store {c : List Nat} {n s i : Nat} (h : s.testBit i = true ∧ c.getD i 0 &&& s = 0) : rlist c n s (i + 1) = (rlist c n s i).set s (rcell c n s i s + lin c n (s - 2 ^ i)) := by
  apply List.ext_getElem (by simp [rlist])
  intro T h1 h2
  rw [List.getElem_set]
  simp only [rlist, List.getElem_map, List.getElem_range]
  by_cases hT : s = T
  · subst hT
    rw [if_pos rfl]
    unfold rcell
    rw [if_neg (Nat.lt_irrefl _), if_pos rfl, if_neg (Nat.lt_irrefl _), if_pos rfl, tot_succ]
    unfold linT
    rw [if_pos h]
  · rw [if_neg hT]
    unfold rcell
    by_cases hlt : T < s
    · rw [if_pos hlt, if_pos hlt]
    · rw [if_neg hlt, if_neg hlt, if_neg (fun e => hT e.symm), if_neg (fun e => hT e.symm)]
theorem rlist_skip {c : List Nat} {n s i : Nat} (h : ¬ (s.testBit i = true ∧ c.getD i 0 &&& s = 0)) : rlist c n s (i + 1) = rlist c n s i := by
  unfold rlist
  apply List.map_congr_left
  intro T _
  unfold rcell
  have e : tot (i + 1) (linT c n s) = tot i (linT c n s) := by
    rw [tot_succ]
    have : linT c n s i = 0 := by unfold linT; rw [if_neg h]
    omega
  rw [e]
theorem rlist_next {c : List Nat} {n s : Nat} (hs : s < 2 ^ n) (h0 : s ≠ 0) : rlist c n s n = rlist c n (s + 1) 0 := by
  unfold rlist
  apply List.map_congr_left
  intro T _
  unfold rcell
  by_cases h1 : T < s
  · rw [if_pos h1, if_pos (by omega)]
  · by_cases h2 : T = s
    · subst h2
      rw [if_neg h1, if_pos rfl, if_pos (by omega), lin_step hs h0]
    · rw [if_neg h1, if_neg h2, if_neg (by omega)]
      split <;> rfl
theorem ways_not_lower {m : List Nat} (hv : Valid m) {S i j : Nat} (hS : S < 2 ^ m.length) (hj : S.testBit j = true) (hij : rel (closed m) i j = true) (hi : S.testBit i = false) : ways (turned m) m.length S = 0 := by
  unfold ways
  rw [List.length_eq_zero_iff]
  refine List.eq_nil_iff_forall_not_mem.2 fun l hl => ?_
  obtain ⟨h1, h2, _⟩ := (mem_exts _ _ _ hS).1 hl
  have := (h1.keeps j ((h2 j).2 hj) i (by rw [rel_turned hv.fits]; exact hij)).1
  rw [h2 i, hi] at this
  cases this
theorem lin_ways {m : List Nat} (hv : Valid m) : ∀ (k S : Nat), S < 2 ^ m.length → pop m.length S = k → lower m S → lin (closed m) m.length S = ways (turned m) m.length S := by
  intro k
  induction k with
  | zero => intro S hS h _; rw [pop_pos hS h, lin_zero, ways_zero]
  | succ k ih =>
    intro S hS h hl
    have h0 : S ≠ 0 := fun e => by rw [e, pop_zero] at h; omega
    rw [lin_step hS h0, ways_step _ _ _ hS h0]
    apply tot_congr
    intro j _
    have hsub : S - 2 ^ j < 2 ^ m.length := Nat.lt_of_le_of_lt (Nat.sub_le _ _) hS
    unfold linT
    by_cases hj : S.testBit j = true
    · rw [if_pos (lower_ok hv hl hj)]
      by_cases hz : (closed m).getD j 0 &&& S = 0
      · rw [if_pos ⟨hj, hz⟩]
        refine ih _ hsub (by have := pop_sub hS hj; omega) (lower_less hl hj fun x hx => ?_)
        have := congrArg (fun y => y.testBit x) hz
        simp only [Nat.testBit_and, hx, Bool.and_true, Nat.zero_testBit] at this
        exact this
      · rw [if_neg fun g => hz g.2]
        obtain ⟨x, hx⟩ : ∃ x, ((closed m).getD j 0 &&& S).testBit x = true := by
          refine Classical.byContradiction fun g => hz (Nat.eq_of_testBit_eq fun x => ?_)
          rw [Nat.zero_testBit]
          cases hb : ((closed m).getD j 0 &&& S).testBit x with
          | false => rfl
          | true => exact absurd ⟨x, hb⟩ g
        rw [Nat.testBit_and, Bool.and_eq_true] at hx
        have hjx : rel (closed m) j x = true := hx.1
        have hne : j ≠ x := fun e => by subst e; rw [hv.irr] at hjx; cases hjx
        exact (ways_not_lower hv hsub (j := x) (i := j) (by rw [testBit_sub_bit hj, hx.2]; simp [hne]) hjx (by rw [testBit_sub_bit hj]; simp)).symm
    · rw [if_neg fun g => hj g.1, if_neg fun g => hj (okStep_bit g)]
theorem lin_rows {m : List Nat} (hv : Valid m) : lin (closed m) m.length (2 ^ m.length - 1) = (rows m).length := by
  have := Nat.two_pow_pos m.length
  rw [lin_ways hv _ _ (by omega) rfl (lower_full m), ways_rows]
end Odr
end Go.Proofs.YtpicjikjinkkpaaDoor
