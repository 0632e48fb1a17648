/- Plain words on who waits for whom, who is stuck, and who still holds what. No program is in sight. Conditions: none. -/
import Derived.Test.YtkindaadadggoaaDoorLockM
namespace Go.Proofs.YtkindaadadggoaaDoor
namespace Lk
open Odr Sch

/-- for whom each waits -/
def waitOf (l : L) (t : Nat) : Nat := match l.wants.getD t none with
  | none => 0
  | some (i, o) => blk l t i o
def waits (l : L) : List Nat := (List.range 5).map (waitOf l)
/-- who waits for itself, over others -/
def stuck (l : L) : Nat := mk 5 fun i => rel (closed (waits l)) i i

theorem length_waits (l : L) : (waits l).length = 5 := by simp [waits]
theorem getD_waits (l : L) {t : Nat} (h : t < 5) : (waits l).getD t 0 = waitOf l t := by
  unfold waits
  rw [List.getD_eq_getElem?_getD, List.getElem?_map, List.getElem?_range h]
  rfl
theorem rel_waits (l : L) (x z : Nat) : rel (waits l) x z = true ↔ x < 5 ∧ ∃ i o, l.wants.getD x none = some (i, o) ∧ (blk l x i o).testBit z = true := by
  constructor
  · intro h
    have hx := rel_lt_left h
    rw [length_waits] at hx
    refine ⟨hx, ?_⟩
    unfold rel at h
    rw [getD_waits l hx] at h
    unfold waitOf at h
    split at h
    · simp at h
    · rename_i i o hw
      exact ⟨i, o, hw, h⟩
  · rintro ⟨hx, i, o, hw, h⟩
    unfold rel
    rw [getD_waits l hx]
    unfold waitOf
    rw [hw]
    exact h
theorem blk_lt {l : L} (h : Inv l) (tx it own : Nat) : blk l tx it own < 2 ^ 5 := by
  obtain ⟨_, _, _, _, h5, h6, _⟩ := h
  apply Nat.lt_pow_two_of_testBit
  intro i hi
  rw [testBit_blk]
  have h1 : decide (l.wtr.getD it 0 = i + 1) = false := decide_eq_false (by have := h6 it; omega)
  have h2 : (l.rdr.getD it 0).testBit i = false := testBit_lt (n := 5) (h5 it) hi
  rw [h1, h2]; simp
theorem fits_waits {l : L} (h : Inv l) : Fits (waits l) := by
  intro x hx
  rw [length_waits]
  obtain ⟨t, _, rfl⟩ := List.mem_map.1 hx
  unfold waitOf
  split
  · exact Nat.two_pow_pos _
  · exact blk_lt h _ _ _
theorem waits_irr (l : L) (x : Nat) : rel (waits l) x x = false := by
  by_cases h : rel (waits l) x x = true
  · obtain ⟨_, i, o, _, hb⟩ := (rel_waits l x x).1 h
    rw [testBit_blk] at hb
    simp at hb
  · simpa using h
theorem testBit_stuck (l : L) (x : Nat) : (stuck l).testBit x = (decide (x < 5) && rel (closed (waits l)) x x) := testBit_mk _ _ _
theorem stuck_lt (l : L) : stuck l < 32 := mk_lt 5 _
theorem stuck_iff {l : L} {x : Nat} : (stuck l).testBit x = true ↔ TC (fun a b => rel (waits l) a b = true) x x := by
  rw [testBit_stuck, Bool.and_eq_true, closed_iff]
  constructor
  · exact fun h => h.2
  · intro h
    refine ⟨?_, h⟩
    have := (closed_iff (waits l) x x).2 h
    have := rel_lt_left this
    rw [length_closed, length_waits] at this
    simpa using this

theorem tc_first {R : Nat → Nat → Prop} {i k : Nat} (h : TC R i k) : ∃ j, R i j ∧ (j = k ∨ TC R j k) := by
  refine h (fun a b => ∃ j, R a j ∧ (j = b ∨ TC R j b)) (fun a b h => ⟨b, h, .inl rfl⟩) ?_
  rintro a b c ⟨j, h1, h2⟩ ⟨m, g1, g2⟩
  refine ⟨j, h1, .inr ?_⟩
  have hbc : TC R b c := by
    rcases g2 with rfl | g2
    · exact TC.base g1
    · exact (TC.base g1).trans g2
  rcases h2 with rfl | h2
  · exact hbc
  · exact h2.trans hbc

/-- those that wait for each other in a ring wait for one of them -/
theorem stuck_waits {l : L} {x : Nat} (h : (stuck l).testBit x = true) : ∃ y, rel (waits l) x y = true ∧ (stuck l).testBit y = true := by
  have ht := stuck_iff.1 h
  obtain ⟨y, h1, h2⟩ := tc_first ht
  rcases h2 with rfl | h2
  · rw [waits_irr] at h1; cases h1
  · exact ⟨y, h1, stuck_iff.2 (h2.trans (TC.base h1))⟩

/-- the waiting among those of a set -/
def among (S : Nat) (l : L) (x z : Nat) : Prop := S.testBit x = true ∧ S.testBit z = true ∧ rel (waits l) x z = true
theorem stuck_among {l : L} {x : Nat} (h : (stuck l).testBit x = true) : TC (among (stuck l) l) x x := by
  have ht := stuck_iff.1 h
  have := ht (fun a b => TC (fun a b => rel (waits l) a b = true) a b ∧ (TC (fun a b => rel (waits l) a b = true) b a → TC (among (stuck l) l) a b))
    (fun a b hab => ⟨TC.base hab, fun hba => TC.base ⟨stuck_iff.2 ((TC.base hab).trans hba), stuck_iff.2 (hba.trans (TC.base hab)), hab⟩⟩)
    (fun a b c hab hbc => ⟨hab.1.trans hbc.1, fun hca => (hab.2 (hbc.1.trans hca)).trans (hbc.2 (hca.trans hab.1))⟩)
  exact this.2 ht
theorem stuck_of_among {S : Nat} {l : L} {x : Nat} (h : TC (among S l) x x) : (stuck l).testBit x = true :=
  stuck_iff.2 (h.mono fun _ _ hab => TC.base hab.2.2)

/-- who is stuck stays stuck, whatever another one does -/
theorem among_step {S : Nat} {l : L} {d : N4} (hy : S.testBit d.2.1 = false) {x z : Nat} (h : among S l x z) : among S (lstep l d).1 x z := by
  obtain ⟨hx, hz, hr⟩ := h
  refine ⟨hx, hz, ?_⟩
  have hxd : x ≠ d.2.1 := by rintro rfl; rw [hx] at hy; cases hy
  have hzd : z ≠ d.2.1 := by rintro rfl; rw [hz] at hy; cases hy
  obtain ⟨hx5, i, o, hw, hb⟩ := (rel_waits l x z).1 hr
  refine (rel_waits _ x z).2 ⟨hx5, i, o, ?_⟩
  have hset : ∀ v, (l.wants.set d.2.1 v).getD x none = some (i, o) := by
    intro v
    rw [getD_set, if_neg (fun h => hxd h.1.symm)]
    exact hw
  unfold lstep
  split
  · split
    · exact ⟨hw, hb⟩
    split
    · exact ⟨hset _, hb⟩
    · rename_i hb0
      have hb0 : blk l d.2.1 d.2.2.1 d.1 = 0 := by
        by_cases e : blk l d.2.1 d.2.2.1 d.1 = 0
        · exact e
        · exact absurd e hb0
      have hno := blk_zero hb0 z hzd
      unfold lockOf
      split
      · refine ⟨hset _, ?_⟩
        rw [testBit_blk] at hb ⊢
        simp only [getD_set]
        split
        · rename_i hc
          have h1 : decide (l.wtr.getD i 0 = z + 1) = false := by rw [← hc.1]; simpa using hno.1
          rw [h1] at hb
          simp only [Bool.false_or] at hb
          simp only [Bool.and_eq_true, Bool.or_eq_true] at hb ⊢
          exact ⟨.inr hb.1, hb.2⟩
        · exact hb
      · refine ⟨hset _, ?_⟩
        rw [testBit_blk] at hb ⊢
        simp only [getD_set]
        split
        · rename_i hc
          obtain ⟨rfl, _⟩ := hc
          rw [Nat.testBit_or]
          simp only [Bool.and_eq_true, Bool.or_eq_true] at hb ⊢
          refine ⟨?_, hb.2⟩
          rcases hb.1 with h | h
          · exact .inl h
          · exact .inr ⟨h.1, .inl h.2⟩
        · exact hb
  split
  · split
    · exact ⟨hw, hb⟩
    · unfold freed
      refine ⟨hw, ?_⟩
      rw [testBit_blk] at hb ⊢
      have e1 : (if l.wtr.getD d.2.2.1 0 = d.2.1 + 1 then l.wtr.set d.2.2.1 0 else l.wtr).getD i 0 = z + 1 ↔ l.wtr.getD i 0 = z + 1 := by
        split
        · rename_i hc
          rw [getD_set]
          split
          · rename_i hc2
            rw [← hc2.1]; omega
          · exact Iff.rfl
        · exact Iff.rfl
      have e2 : ((l.rdr.set d.2.2.1 (diff (l.rdr.getD d.2.2.1 0) (2 ^ d.2.1))).getD i 0).testBit z = (l.rdr.getD i 0).testBit z := by
        rw [getD_set]
        split
        · rename_i hc
          rw [testBit_diff, ← hc.1, Nat.testBit_two_pow]
          have : decide (d.2.1 = z) = false := by simp; exact fun e => hzd e.symm
          rw [this]; simp
        · rfl
      simp only [decide_eq_decide.2 e1, e2]
      exact hb
  · split
    · exact ⟨hw, hb⟩
    split
    · exact ⟨hw, hb⟩
    · exact ⟨hw, hb⟩
theorem stuck_step {S : Nat} {l : L} {d : N4} (hy : S.testBit d.2.1 = false) (h : ∀ x, S.testBit x = true → TC (among S l) x x) : ∀ x, S.testBit x = true → TC (among S (lstep l d).1) x x :=
  fun x hx => (h x hx).mono fun _ _ hab => TC.base (among_step hy hab)

/-- a lock goes only by one's own freeing of it -/
theorem suff_keep {l : L} {d : N4} {x i w : Nat} (h : Suff l x i w) : Suff (lstep l d).1 x i w ∨ (d.1 = 2 ∧ (lstep l d).2 = 0 ∧ d.2.1 = x ∧ d.2.2.1 = i) := by
  unfold lstep
  split
  · left
    split
    · exact h
    split
    · exact h
    · rename_i hb0
      have hb0 : blk l d.2.1 d.2.2.1 d.1 = 0 := by
        by_cases e : blk l d.2.1 d.2.2.1 d.1 = 0
        · exact e
        · exact absurd e hb0
      unfold lockOf Suff
      split
      · simp only [getD_set]
        rcases h with h | h
        · left
          split
          · rename_i hc
            by_cases e : x = d.2.1
            · rw [e]
            · rw [← hc.1] at h
              exact absurd h (blk_zero hb0 x e).1
          · exact h
        · exact .inr h
      · simp only [getD_set]
        rcases h with h | ⟨hw, h⟩
        · exact .inl h
        · right
          refine ⟨hw, ?_⟩
          split
          · rename_i hc
            rw [Nat.testBit_or, hc.1, h]; rfl
          · exact h
  split
  · rename_i hk2
    split
    · exact .inl h
    · by_cases e : d.2.1 = x ∧ d.2.2.1 = i
      · exact .inr ⟨hk2, rfl, e.1, e.2⟩
      · left
        unfold freed Suff
        rcases h with h | ⟨hw, h⟩
        · left
          show (if l.wtr.getD d.2.2.1 0 = d.2.1 + 1 then l.wtr.set d.2.2.1 0 else l.wtr).getD i 0 = x + 1
          split
          · rename_i hc
            rw [getD_set]
            split
            · rename_i hc2
              rw [hc2.1] at hc
              exact absurd ⟨by omega, hc2.1⟩ e
            · exact h
          · exact h
        · right
          refine ⟨hw, ?_⟩
          simp only [getD_set]
          split
          · rename_i hc
            rw [testBit_diff, hc.1, h, Nat.testBit_two_pow]
            have : decide (d.2.1 = x) = false := by simp; exact fun e' => e ⟨e', hc.1⟩
            rw [this]; rfl
          · exact h
  · left
    split
    · exact h
    split
    · exact h
    · exact h
/-- who does something holds what it asks -/
theorem suff_done {l : L} {d : N4} (hd : Ok4 d) (h3 : d.1 = 3) (h : (lstep l d).2 = 0) : Suff l d.2.1 d.2.2.1 d.2.2.2 ∧ (lstep l d).1 = { l with acts := l.acts ++ [(d.2.1, d.2.2.1, d.2.2.2)] } := by
  unfold lstep at h ⊢
  rw [if_neg (by omega), if_neg (by omega)] at h ⊢
  by_cases hc : mine l d = false ∧ (d.2.2.2 = 1 ∨ reads l d = false)
  · rw [if_pos hc] at h; cases h
  · rw [if_neg hc] at h ⊢
    by_cases hl : l.acts.length = 24
    · rw [if_pos hl] at h; cases h
    · rw [if_neg hl]
      refine ⟨?_, rfl⟩
      by_cases hm : mine l d = true
      · exact .inl (by simpa [mine] using hm)
      · right
        have hm' : mine l d = false := by simpa using hm
        have h2 : ¬ (d.2.2.2 = 1 ∨ reads l d = false) := fun h => hc ⟨hm', h⟩
        have hw := hd.2.2.2 h3
        refine ⟨by omega, ?_⟩
        cases hr : reads l d
        · exact absurd (.inr hr) h2
        · exact hr
theorem acts_step {l : L} {d : N4} (h : ¬ (d.1 = 3 ∧ (lstep l d).2 = 0)) (hd : Ok4 d) : (lstep l d).1.acts = l.acts := by
  unfold lstep at h ⊢
  split
  · split
    · rfl
    split
    · rfl
    · unfold lockOf; split <;> rfl
  split
  · split
    · rfl
    · rfl
  · rename_i h1 h2
    have h3 : d.1 = 3 := by have := hd.1; omega
    rw [if_neg h1, if_neg h2] at h
    split
    · rfl
    split
    · rfl
    · rename_i g1 g2
      exact absurd ⟨h3, by rw [if_neg g1, if_neg g2]⟩ h

end Lk
end Go.Proofs.YtkindaadadggoaaDoor
