/- Plain words on the reference's rows: its search lays things as the program's does. No program is in sight. Conditions: none. -/
import Derived.Test.YtpicjikjinkkpaaDoorRowsM
namespace Go.Proofs.YtpicjikjinkkpaaDoor
namespace Dil
open Odr

/-- may thing i be told row k, looked at the first m that are told -/
def okr (c told : List Nat) (i k : Nat) : Nat → Bool
  | 0 => true
  | m + 1 => okr c told i k m && (!(decide (told.getD m 0 = k)) || (rel c i m || rel c m i))
theorem okr_iff {c told : List Nat} {i k m : Nat} : okr c told i k m = true ↔ ∀ j, j < m → told.getD j 0 = k → (rel c i j || rel c j i) = true := by
  induction m with
  | zero => exact ⟨fun _ j hj => absurd hj (Nat.not_lt_zero _), fun _ => rfl⟩
  | succ m ih =>
    rw [okr, Bool.and_eq_true, ih]
    constructor
    · rintro ⟨h1, h2⟩ j hj e
      by_cases q : j = m
      · subst q
        rw [Bool.or_eq_true] at h2
        rcases h2 with h2 | h2
        · simp at h2; exact absurd e h2
        · exact h2
      · exact h1 j (by omega) e
    · intro h
      refine ⟨fun j hj => h j (by omega), ?_⟩
      by_cases e : told.getD m 0 = k
      · rw [h m (by omega) e]; simp
      · rw [decide_eq_false e]; rfl
/-- the rows with thing i told row k -/
def putR (rows : List Nat) (i k : Nat) : List Nat := if k < rows.length then rows.set k (rows.getD k 0 ||| 2 ^ i) else rows ++ [2 ^ i]
/-- what comes of telling the next thing row k -/
def tryR (c : List Nat) (most f : Nat) (told rows : List Nat) (k : Nat) : Option (List Nat) :=
  if okr c told told.length k told.length = true then (fill (nearOf c) most f (told.length + 1) (putR rows told.length k)).map (k :: ·) else none
theorem okr_old {c told rows : List Nat} (hL : Laidin (nearOf c) told rows) (hi : told.length < c.length) {k : Nat} (hk : k < rows.length) : okr c told told.length k told.length = true ↔ diff (rows.getD k 0) ((nearOf c).getD told.length 0) = 0 := by
  rw [okr_iff, diff_zero_iff]
  constructor
  · intro h j hj
    obtain ⟨h1, h2⟩ := (hL.2.1 k hk j).1 hj
    rw [bit_nearOf (by omega) hi]
    have := h j h1 h2
    rw [Bool.or_comm] at this
    exact this
  · intro h j hj e
    have := h j ((hL.2.1 k hk j).2 ⟨hj, e⟩)
    rw [bit_nearOf (by omega) hi, Bool.or_comm] at this
    exact this
theorem okr_new {c told rows : List Nat} (hL : Laidin (nearOf c) told rows) : okr c told told.length rows.length told.length = true := by
  rw [okr_iff]
  intro j hj e
  have := hL.2.2.2.2 j hj
  omega
theorem tryR_old {c told rows : List Nat} {most f : Nat} (hL : Laidin (nearOf c) told rows) (hi : told.length < c.length) {k : Nat} (hk : k < rows.length) : tryR c most f told rows k = trial (fill (nearOf c) most f) (nearOf c) rows told.length k := by
  unfold tryR putR
  rw [if_pos hk]
  by_cases h : okr c told told.length k told.length = true
  · rw [if_pos h, trial_yes ((okr_old hL hi hk).1 h)]
  · rw [if_neg h, trial_no (fun q => h ((okr_old hL hi hk).2 q))]
theorem tryR_new {c told rows : List Nat} {most f : Nat} (hL : Laidin (nearOf c) told rows) : tryR c most f told rows rows.length = (fill (nearOf c) most f (told.length + 1) (rows ++ [2 ^ told.length])).map (rows.length :: ·) := by
  unfold tryR putR
  rw [if_pos (okr_new hL), if_neg (Nat.lt_irrefl _)]
/-- the first row that does is the program's -/
theorem fill_tryR {c told rows r : List Nat} {most f k : Nat} (hL : Laidin (nearOf c) told rows) (hi : told.length < c.length) (hk : k ≤ rows.length) (hkm : k < most) (hno : ∀ j, j < k → tryR c most f told rows j = none) (h : tryR c most f told rows k = some r) : fill (nearOf c) most (f + 1) told.length rows = some r := by
  by_cases q : k < rows.length
  · refine fill_at q (by rw [← tryR_old hL hi q]; exact h) fun j hj => ?_
    rw [← tryR_old hL hi (by omega)]; exact hno j hj
  · obtain rfl : k = rows.length := by omega
    rw [fill_new fun j hj => by rw [← tryR_old hL hi hj]; exact hno j hj, if_neg (by omega), ← tryR_new hL]
    exact h
theorem fill_noR {c told rows : List Nat} {most f k : Nat} (hL : Laidin (nearOf c) told rows) (hi : told.length < c.length) (hm : rows.length ≤ most) (hk : rows.length < k ∨ most ≤ k) (hno : ∀ j, j < k → tryR c most f told rows j = none) : fill (nearOf c) most (f + 1) told.length rows = none := by
  rw [fill_new fun j hj => by rw [← tryR_old hL hi hj]; exact hno j (by omega)]
  split
  · rfl
  · rw [← tryR_new hL]
    exact hno _ (by omega)
theorem laidin_put {c told rows : List Nat} (hL : Laidin (nearOf c) told rows) (hi : told.length < c.length) {k : Nat} (hk : k ≤ rows.length) (hok : okr c told told.length k told.length = true) : Laidin (nearOf c) (told ++ [k]) (putR rows told.length k) := by
  unfold putR
  split
  · rename_i h
    exact laidin_old hL h ((okr_old hL hi h).1 hok)
  · obtain rfl : k = rows.length := by omega
    exact laidin_new hL
theorem put_le {rows : List Nat} {i k most : Nat} (hm : rows.length ≤ most) (hk : k ≤ rows.length) (hkm : k < most) : (putR rows i k).length ≤ most := by
  unfold putR
  split
  · simpa using hm
  · simp; omega
/-- what the reference answers -/
def rans (told : List Nat) : Option (List Nat) → List Nat
  | some r => told ++ r
  | none => []
theorem tryR_no {c told rows : List Nat} {most f k : Nat} (h : okr c told told.length k told.length = false) : tryR c most f told rows k = none := by
  unfold tryR; rw [if_neg (by rw [h]; decide)]
theorem tryR_ok {c told rows : List Nat} {most f k : Nat} (h : okr c told told.length k told.length = true) : tryR c most f told rows k = (fill (nearOf c) most f (told.length + 1) (putR rows told.length k)).map (k :: ·) := by
  unfold tryR; rw [if_pos h]
/-- one row is tried: either it is all, or none -/
theorem rans_cases {c told rows : List Nat} {most f k : Nat} (hi : told.length + (f + 1) = c.length) (hok : okr c told told.length k told.length = true) :
    ((rans (told ++ [k]) (fill (nearOf c) most f (told.length + 1) (putR rows told.length k))).length = c.length ∧ ∃ r, tryR c most f told rows k = some r ∧ rans (told ++ [k]) (fill (nearOf c) most f (told.length + 1) (putR rows told.length k)) = rans told (some r)) ∨
    ((rans (told ++ [k]) (fill (nearOf c) most f (told.length + 1) (putR rows told.length k))).length ≠ c.length ∧ tryR c most f told rows k = none) := by
  rw [tryR_ok hok]
  cases h : fill (nearOf c) most f (told.length + 1) (putR rows told.length k) with
  | some r =>
    have := length_fill _ _ _ _ h
    refine .inl ⟨?_, k :: r, rfl, ?_⟩
    · show ((told ++ [k]) ++ r).length = _
      simp; omega
    · show (told ++ [k]) ++ r = told ++ (k :: r)
      simp
  | none =>
    refine .inr ⟨?_, rfl⟩
    show (0 : Nat) ≠ _
    omega
/-- the next row's number, reckoned one told thing after the other -/
theorem cnt_up {l : List Nat} {j : Nat} (h : l.getD j 0 ≤ cntTo l j) : cntTo l (j + 1) = if cntTo l j ≤ l.getD j 0 then l.getD j 0 + 1 else cntTo l j := by
  rw [cntTo]
  by_cases e : l.getD j 0 = cntTo l j
  · rw [if_pos e, if_pos (by omega), e]
  · rw [if_neg e, if_neg (by omega)]
end Dil
end Go.Proofs.YtpicjikjinkkpaaDoor
