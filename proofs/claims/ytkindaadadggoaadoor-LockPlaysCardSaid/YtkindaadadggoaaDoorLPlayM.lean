/- Plain words: the reference's table of locks, told by the program's. No program is in sight. Conditions: none. -/
import Derived.Test.YtkindaadadggoaaDoorStuckM
namespace Go.Proofs.YtkindaadadggoaaDoor
namespace Lk
open Odr Sch

/-- what one holds of an item: 1 to read, 2 to write, 3 both -/
def hold (l : L) (t i : Nat) : Nat := (if (l.rdr.getD i 0).testBit t = true then 1 else 0) + (if l.wtr.getD i 0 = t + 1 then 2 else 0)
def holds (l : L) : List Nat := (List.range 20).map fun k => hold l (k / 4) (k % 4)
/-- what one waits for, as the reference writes it -/
def code : Option (Nat × Nat) → Int
  | none => -1
  | some (i, o) => ((i * 2 + o : Nat) : Int)
def wantI (l : L) (t : Nat) : Int := code (l.wants.getD t none)
def wantsI (l : L) : List Int := (List.range 5).map (wantI l)
theorem length_holds (l : L) : (holds l).length = 20 := by simp [holds]
theorem length_wantsI (l : L) : (wantsI l).length = 5 := by simp [wantsI]
theorem hold_lt (l : L) (t i : Nat) : hold l t i < 4 := by
  unfold hold
  split <;> split <;> omega
theorem getD_holds (l : L) {t i : Nat} (ht : t < 5) (hi : i < 4) : (holds l).getD (t * 4 + i) 0 = hold l t i := by
  unfold holds
  rw [List.getD_eq_getElem?_getD, List.getElem?_map, List.getElem?_range (by omega)]
  show hold l ((t * 4 + i) / 4) ((t * 4 + i) % 4) = hold l t i
  rw [show (t * 4 + i) / 4 = t by omega, show (t * 4 + i) % 4 = i by omega]
theorem two_le_hold (l : L) (t i : Nat) : 2 ≤ hold l t i ↔ l.wtr.getD i 0 = t + 1 := by
  unfold hold
  split <;> split <;> simp_all
theorem hold_zero (l : L) (d : N4) : hold l d.2.1 d.2.2.1 = 0 ↔ (reads l d = false ∧ mine l d = false) := by
  unfold hold reads mine
  split <;> split <;> simp_all
theorem hold_short (l : L) (d : N4) : (hold l d.2.1 d.2.2.1 = 0 ∨ (hold l d.2.1 d.2.2.1 = 1 ∧ d.2.2.2 = 1)) ↔ (mine l d = false ∧ (d.2.2.2 = 1 ∨ reads l d = false)) := by
  unfold hold reads mine
  split <;> split <;> simp_all
/-- does one hold what stands against a lock? -/
def bars (l : L) (tx it own t : Nat) : Bool := decide (t ≠ tx) && (decide (2 ≤ hold l t it) || (decide (own = 1) && decide (hold l t it = 1)))
def against (l : L) (tx it own n : Nat) : Nat := mk n (bars l tx it own)
theorem against_blk {l : L} (hI : Inv l) (tx it own : Nat) : against l tx it own 5 = blk l tx it own := by
  obtain ⟨_, _, _, _, h5, h6, _⟩ := hI
  apply Nat.eq_of_testBit_eq
  intro y
  unfold against
  rw [testBit_mk, testBit_blk]
  have e1 : decide (2 ≤ hold l y it) = decide (l.wtr.getD it 0 = y + 1) := by
    rw [Bool.eq_iff_iff, decide_eq_true_iff, decide_eq_true_iff]; exact two_le_hold l y it
  have e0 : decide (y ≠ tx) = !decide (y = tx) := decide_not
  by_cases hy : y < 5
  · unfold bars
    rw [e1, e0, decide_eq_true hy]
    by_cases hw : l.wtr.getD it 0 = y + 1
    · rw [decide_eq_true hw]
      cases decide (y = tx) <;> simp
    · have e2 : decide (hold l y it = 1) = (l.rdr.getD it 0).testBit y := by
        unfold hold
        rw [if_neg hw]
        cases (l.rdr.getD it 0).testBit y <;> simp
      rw [e2, decide_eq_false hw]
      cases decide (y = tx) <;> simp
  · have h1 : l.wtr.getD it 0 ≠ y + 1 := by have := h6 it; omega
    have hp : 2 ^ 5 ≤ 2 ^ y := Nat.pow_le_pow_right (by omega) (by omega)
    have h2 : (l.rdr.getD it 0).testBit y = false := Nat.testBit_lt_two_pow (Nat.lt_of_lt_of_le (h5 it) hp)
    rw [decide_eq_false hy, decide_eq_false h1, h2]
    simp
theorem getD_hset (l : List Nat) (i j x z : Nat) : (l.set i x).getD j z = if i = j ∧ i < l.length then x else l.getD j z := by
  rw [List.getD_eq_getElem?_getD, List.getD_eq_getElem?_getD, List.getElem?_set]
  by_cases h : i = j
  · subst h
    by_cases h' : i < l.length
    · simp [h']
    · simp [h']
  · simp [h]
/-- what all hold, told by each -/
theorem holds_ext {l : L} {m : List Nat} (h : m.length = 20) (hh : ∀ t i, t < 5 → i < 4 → m.getD (t * 4 + i) 0 = hold l t i) : holds l = m := by
  apply List.ext_getElem
  · rw [length_holds, h]
  · intro k h1 h2
    rw [length_holds] at h1
    have e := hh (k / 4) (k % 4) (by omega) (by omega)
    rw [show k / 4 * 4 + k % 4 = k by omega] at e
    have e2 := getD_holds l (t := k / 4) (i := k % 4) (by omega) (by omega)
    rw [show k / 4 * 4 + k % 4 = k by omega] at e2
    rw [List.getD_eq_getElem?_getD, List.getElem?_eq_getElem (by omega)] at e e2
    exact Eq.trans e2 e.symm
theorem pos_eq {t i t' i' : Nat} (hi : i < 4) (hi' : i' < 4) : t * 4 + i = t' * 4 + i' ↔ t = t' ∧ i = i' := by omega
/-- none other writes what may be locked -/
theorem none_writes {l : L} {tx it own : Nat} (hb : blk l tx it own = 0) {t : Nat} (ht : t ≠ tx) : l.wtr.getD it 0 ≠ t + 1 := by
  intro h
  have := testBit_blk l tx it own t
  rw [hb, Nat.zero_testBit, h] at this
  simp [ht] at this
theorem getD_holds_set (l : L) {t i tx it x : Nat} (ht : t < 5) (hi : i < 4) (_ : tx < 5) (hit : it < 4) : ((holds l).set (tx * 4 + it) x).getD (t * 4 + i) 0 = if tx = t ∧ it = i then x else hold l t i := by
  rw [getD_hset, getD_holds l ht hi, length_holds]
  by_cases h : tx = t ∧ it = i
  · rw [if_pos h, if_pos ⟨(pos_eq hit hi).2 h, by omega⟩]
  · rw [if_neg h, if_neg (fun g => h ((pos_eq hit hi).1 g.1))]
theorem holds_lock {l : L} (hI : Inv l) {d : N4} (hd : Ok4 d) (hk : d.1 < 2) (hb : blk l d.2.1 d.2.2.1 d.1 = 0) : holds (lockOf l d) = (holds l).set (d.2.1 * 4 + d.2.2.1) (hold l d.2.1 d.2.2.1 ||| 2 ^ d.1) := by
  obtain ⟨k, tx, it, wt⟩ := d
  obtain ⟨_, d2, d3, _⟩ := hd
  simp only at d2 d3 hk hb ⊢
  obtain ⟨r4, w4, _⟩ := hI
  refine holds_ext (by rw [List.length_set, length_holds]) fun t i ht hi => ?_
  rw [getD_holds_set l ht hi d2 d3]
  have hk2 : k = 0 ∨ k = 1 := by omega
  rcases hk2 with rfl | rfl
  · have e1 : (lockOf l (0, tx, it, wt)).rdr = l.rdr.set it (l.rdr.getD it 0 ||| 2 ^ tx) := rfl
    have e2 : (lockOf l (0, tx, it, wt)).wtr = l.wtr := rfl
    by_cases h : tx = t ∧ it = i
    · obtain ⟨rfl, rfl⟩ := h
      rw [if_pos ⟨rfl, rfl⟩]
      unfold hold
      rw [e1, e2, getD_hset, if_pos (show it = it ∧ it < l.rdr.length from ⟨rfl, by omega⟩), Nat.testBit_or, Nat.testBit_two_pow, decide_eq_true (rfl : tx = tx)]
      cases (l.rdr.getD it 0).testBit tx
      · by_cases hw : l.wtr.getD it 0 = tx + 1
        · rw [if_pos hw]; decide
        · rw [if_neg hw]; decide
      · by_cases hw : l.wtr.getD it 0 = tx + 1
        · rw [if_pos hw]; decide
        · rw [if_neg hw]; decide
    · rw [if_neg h]
      unfold hold
      rw [e1, e2, getD_hset]
      by_cases hi2 : it = i
      · subst hi2
        have ht2 : ¬ tx = t := fun e => h ⟨e, rfl⟩
        rw [if_pos (show it = it ∧ it < l.rdr.length from ⟨rfl, by omega⟩), Nat.testBit_or, Nat.testBit_two_pow, decide_eq_false ht2, Bool.or_false]
      · rw [if_neg (show ¬ (it = i ∧ it < l.rdr.length) from fun g => hi2 g.1)]
  · have e1 : (lockOf l (1, tx, it, wt)).rdr = l.rdr := rfl
    have e2 : (lockOf l (1, tx, it, wt)).wtr = l.wtr.set it (tx + 1) := rfl
    by_cases h : tx = t ∧ it = i
    · obtain ⟨rfl, rfl⟩ := h
      rw [if_pos ⟨rfl, rfl⟩]
      unfold hold
      rw [e1, e2, getD_hset, if_pos (show it = it ∧ it < l.wtr.length from ⟨rfl, by omega⟩), if_pos (rfl : tx + 1 = tx + 1)]
      cases (l.rdr.getD it 0).testBit tx
      · by_cases hw : l.wtr.getD it 0 = tx + 1
        · rw [if_pos hw]; decide
        · rw [if_neg hw]; decide
      · by_cases hw : l.wtr.getD it 0 = tx + 1
        · rw [if_pos hw]; decide
        · rw [if_neg hw]; decide
    · rw [if_neg h]
      unfold hold
      rw [e1, e2, getD_hset]
      by_cases hi2 : it = i
      · subst hi2
        have ht2 : ¬ tx = t := fun e => h ⟨e, rfl⟩
        have h3 := none_writes hb (t := t) (fun e => ht2 e.symm)
        rw [if_pos (show it = it ∧ it < l.wtr.length from ⟨rfl, by omega⟩), if_neg (show ¬ l.wtr.getD it 0 = t + 1 from h3), if_neg (show ¬ tx + 1 = t + 1 by omega)]
      · rw [if_neg (show ¬ (it = i ∧ it < l.wtr.length) from fun g => hi2 g.1)]
theorem holds_free {l : L} (hI : Inv l) {d : N4} (hd : Ok4 d) : holds (freed l d) = (holds l).set (d.2.1 * 4 + d.2.2.1) 0 := by
  obtain ⟨k, tx, it, wt⟩ := d
  obtain ⟨_, d2, d3, _⟩ := hd
  simp only at d2 d3 ⊢
  obtain ⟨r4, w4, _⟩ := hI
  refine holds_ext (by rw [List.length_set, length_holds]) fun t i ht hi => ?_
  rw [getD_holds_set l ht hi d2 d3]
  have e1 : (freed l (k, tx, it, wt)).rdr = l.rdr.set it (diff (l.rdr.getD it 0) (2 ^ tx)) := rfl
  have e2 : (freed l (k, tx, it, wt)).wtr = if l.wtr.getD it 0 = tx + 1 then l.wtr.set it 0 else l.wtr := rfl
  have e3 : (freed l (k, tx, it, wt)).wtr.getD i 0 = if it = i ∧ l.wtr.getD it 0 = tx + 1 then 0 else l.wtr.getD i 0 := by
    rw [e2]
    by_cases hw : l.wtr.getD it 0 = tx + 1
    · rw [if_pos hw, getD_hset]
      by_cases hi2 : it = i
      · rw [if_pos ⟨hi2, by omega⟩, if_pos ⟨hi2, hw⟩]
      · rw [if_neg (fun g => hi2 g.1), if_neg (fun g => hi2 g.1)]
    · rw [if_neg hw, if_neg (fun g => hw g.2)]
  by_cases h : tx = t ∧ it = i
  · obtain ⟨rfl, rfl⟩ := h
    rw [if_pos ⟨rfl, rfl⟩]
    unfold hold
    rw [e3, e1, getD_hset, if_pos (show it = it ∧ it < l.rdr.length from ⟨rfl, by omega⟩), testBit_diff, Nat.testBit_two_pow]
    by_cases hw : l.wtr.getD it 0 = tx + 1
    · rw [if_pos (show it = it ∧ l.wtr.getD it 0 = tx + 1 from ⟨rfl, hw⟩)]; simp
    · rw [if_neg (show ¬ (it = it ∧ l.wtr.getD it 0 = tx + 1) from fun g => hw g.2), if_neg hw]; simp
  · rw [if_neg h]
    unfold hold
    rw [e3, e1, getD_hset]
    by_cases hi2 : it = i
    · subst hi2
      have ht2 : ¬ tx = t := fun e => h ⟨e, rfl⟩
      rw [if_pos (show it = it ∧ it < l.rdr.length from ⟨rfl, by omega⟩), testBit_diff, Nat.testBit_two_pow, decide_eq_false ht2]
      by_cases hw : l.wtr.getD it 0 = tx + 1
      · have h4 : ¬ l.wtr.getD it 0 = t + 1 := by omega
        rw [if_pos (show it = it ∧ l.wtr.getD it 0 = tx + 1 from ⟨rfl, hw⟩), if_neg h4]
        simp
      · rw [if_neg (show ¬ (it = it ∧ l.wtr.getD it 0 = tx + 1) from fun g => hw g.2)]
        simp
    · rw [if_neg (show ¬ (it = i ∧ it < l.rdr.length) from fun g => hi2 g.1), if_neg (show ¬ (it = i ∧ l.wtr.getD it 0 = tx + 1) from fun g => hi2 g.1)]
/-- what another one waits for stays -/
theorem wants_set {l l' : L} (hl : l.wants.length = 5) {tx : Nat} (htx : tx < 5) (o : Option (Nat × Nat)) (h : l'.wants = l.wants.set tx o) : wantsI l' = (wantsI l).set tx (code o) := by
  apply List.ext_getElem
  · rw [List.length_set, length_wantsI, length_wantsI]
  · intro k h1 h2
    have e1 : (wantsI l')[k] = wantI l' k := by simp [wantsI]
    have h3 : k < (wantsI l).length := by rw [List.length_set] at h2; exact h2
    have e2 : (wantsI l)[k] = wantI l k := by simp [wantsI]
    rw [e1, List.getElem_set, e2]
    rw [length_wantsI] at h1
    unfold wantI
    rw [h, List.getD_eq_getElem?_getD, List.getElem?_set]
    by_cases e : tx = k
    · subst e
      rw [if_pos rfl, if_pos rfl, if_pos (by omega)]
      rfl
    · rw [if_neg e, if_neg e, List.getD_eq_getElem?_getD]
end Lk
end Go.Proofs.YtkindaadadggoaaDoor
