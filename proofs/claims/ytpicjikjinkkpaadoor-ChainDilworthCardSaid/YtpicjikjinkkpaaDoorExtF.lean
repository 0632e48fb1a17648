/- Plain mathematics: the first row of an order, thing by thing, and whether a list is a row. No program is in sight. Conditions: none. -/
import Derived.Test.YtpicjikjinkkpaaDoorExtR
namespace Go.Proofs.YtpicjikjinkkpaaDoor
namespace Odr

/-- the things of a list as a set -/
def bag (l : List Nat) : Nat := l.foldl (fun d i => d ||| 2 ^ i) 0
theorem bag_snoc (l : List Nat) (i : Nat) : bag (l ++ [i]) = bag l ||| 2 ^ i := by simp [bag]
theorem testBit_bag (l : List Nat) (x : Nat) : (bag l).testBit x = decide (x ∈ l) := by
  induction l using snoc_ind with
  | nil => simp [bag]
  | snoc l j ih =>
    rw [bag_snoc, Nat.testBit_or, ih, testBit_two_pow', ← Bool.decide_or]
    exact decide_eq_decide.2 (by rw [List.mem_append, List.mem_singleton]; exact or_congr Iff.rfl eq_comm)
theorem bag_lt {l : List Nat} {n : Nat} (h : ∀ x ∈ l, x < n) : bag l < 2 ^ n := by
  induction l using snoc_ind with
  | nil => exact Nat.two_pow_pos n
  | snoc l j ih =>
    rw [bag_snoc]
    exact Nat.or_lt_two_pow (ih fun x hx => h x (by simp [hx])) (Nat.pow_lt_pow_right (by omega) (h j (by simp)))

/-- thing i may stand next, where the things 'done' stand already -/
def avail (pre : List Nat) (done i : Nat) : Bool := !done.testBit i && decide (diff (pre.getD i 0) done = 0)
theorem avail_bag {pre l : List Nat} {i : Nat} : avail pre (bag l) i = true ↔ i ∉ l ∧ ∀ x, rel pre i x = true → x ∈ l := by
  unfold avail
  rw [Bool.and_eq_true, testBit_bag, decide_eq_true_eq, diff_zero]
  constructor
  · rintro ⟨h1, h2⟩
    exact ⟨by simpa using h1, fun x hx => by have := h2 x hx; rw [testBit_bag] at this; simpa using this⟩
  · rintro ⟨h1, h2⟩
    exact ⟨by simpa using h1, fun x hx => by rw [testBit_bag]; simpa using h2 x hx⟩
theorem fine_snoc_iff {pre l : List Nat} {j : Nat} : Fine pre (l ++ [j]) ↔ Fine pre l ∧ avail pre (bag l) j = true := by
  constructor
  · intro h
    obtain ⟨h1, h2, h3⟩ := h.inv
    exact ⟨h1, avail_bag.2 ⟨h2, h3⟩⟩
  · rintro ⟨h1, h2⟩
    obtain ⟨h2, h3⟩ := avail_bag.1 h2
    exact .snoc h1 h2 h3

/-- the first row, as far as k things go -/
def firsts (pre : List Nat) (n : Nat) : Nat → List Nat
  | 0 => []
  | k + 1 => match (List.range n).find? (avail pre (bag (firsts pre n k))) with
    | some i => firsts pre n k ++ [i]
    | none => firsts pre n k
def firstRow (m : List Nat) : List Nat := firsts (turned m) m.length m.length

theorem firsts_some {pre : List Nat} {n k i : Nat} (hi : i < n) (h : avail pre (bag (firsts pre n k)) i = true) (hl : ∀ j, j < i → avail pre (bag (firsts pre n k)) j = false) : firsts pre n (k + 1) = firsts pre n k ++ [i] := by
  have : (List.range n).find? (avail pre (bag (firsts pre n k))) = some i := by
    rw [List.find?_range_eq_some]
    exact ⟨h, List.mem_range.2 hi, fun j hj => by simpa using hl j hj⟩
  rw [firsts, this]

theorem exists_avail {m l : List Nat} (hv : Valid m) (hn : l.Nodup) (hl : ∀ x ∈ l, x < m.length) (hlt : l.length < m.length) : ∃ i, i < m.length ∧ avail (turned m) (bag l) i = true := by
  have h0 : ∃ i, i < m.length ∧ i ∉ l := by
    refine Classical.byContradiction fun h => ?_
    have h1 := nodup_length hn hl
    rw [cnt_all (fun i hi => by
      refine decide_eq_true ?_
      exact Classical.byContradiction fun g => h ⟨i, hi, g⟩)] at h1
    omega
  obtain ⟨i, ⟨h1, h2⟩, h3⟩ := exists_least (R := fun i j => rel (closed m) i j = true) m.length
    (fun i j h => by have := rel_lt_left h; rwa [length_closed] at this)
    (fun i j k h g => closed_trans h g) (fun i h => by rw [hv.irr] at h; cases h) (fun i => i < m.length ∧ i ∉ l) h0
  refine ⟨i, h1, avail_bag.2 ⟨h2, fun x hx => ?_⟩⟩
  rw [rel_turned hv.fits] at hx
  have hxl : x < m.length := by have := rel_lt_left hx; rwa [length_closed] at this
  exact Classical.byContradiction fun g => h3 x ⟨hxl, g⟩ hx

/-- with a thing that may stand next there is a first one -/
theorem least_avail {p : Nat → Bool} {n : Nat} (h : ∃ i, i < n ∧ p i = true) : ∃ i, i < n ∧ p i = true ∧ ∀ j, j < i → p j = false := by
  obtain ⟨i, hi, hp⟩ := h
  induction i using Nat.strongRecOn with
  | _ i ih =>
    by_cases g : ∃ j, j < i ∧ p j = true
    · obtain ⟨j, hj, hpj⟩ := g
      exact ih j hj (by omega) hpj
    · exact ⟨i, hi, hp, fun j hj => by
        cases hpj : p j with
        | false => rfl
        | true => exact absurd ⟨j, hj, hpj⟩ g⟩

theorem firsts_fine {m : List Nat} (hv : Valid m) (k : Nat) (hk : k ≤ m.length) : (firsts (turned m) m.length k).length = k ∧ Fine (turned m) (firsts (turned m) m.length k) ∧ ∀ x ∈ firsts (turned m) m.length k, x < m.length := by
  induction k with
  | zero => exact ⟨rfl, .nil, by simp [firsts]⟩
  | succ k ih =>
    obtain ⟨h1, h2, h3⟩ := ih (by omega)
    obtain ⟨i, hi, hp, hl⟩ := least_avail (exists_avail hv h2.nodup h3 (by omega))
    rw [firsts_some hi hp hl]
    refine ⟨by simp [h1], fine_snoc_iff.2 ⟨h2, hp⟩, fun x hx => ?_⟩
    rcases List.mem_append.1 hx with hx | hx
    · exact h3 x hx
    · rw [List.mem_singleton.1 hx]; exact hi
theorem fine_all {m l : List Nat} (h : Fine (turned m) l) (hl : ∀ x ∈ l, x < m.length) (hlen : l.length = m.length) : ∀ x, x ∈ l ↔ x < m.length :=
  fun x => ⟨hl x, fun hx => nodup_all h.nodup hl hlen x hx⟩
theorem firstRow_row {m : List Nat} (hv : Valid m) : isRow (closed m) m.length (firstRow m) ∧ (firstRow m).length = m.length := by
  obtain ⟨h1, h2, h3⟩ := firsts_fine hv m.length (Nat.le_refl _)
  exact ⟨(fine_iff_row hv (fine_all h2 h3 h1)).1 h2, h1⟩

theorem take_firsts {m : List Nat} (hv : Valid m) {k j : Nat} (hj : j ≤ k) (hk : k ≤ m.length) : (firsts (turned m) m.length k).take j = firsts (turned m) m.length j := by
  induction k with
  | zero => obtain rfl : j = 0 := by omega
            rfl
  | succ k ih =>
    obtain ⟨h1, h2, h3⟩ := firsts_fine hv k (by omega)
    obtain ⟨i, hi, hp, hl⟩ := least_avail (exists_avail hv h2.nodup h3 (by omega))
    by_cases e : j = k + 1
    · subst e
      rw [List.take_of_length_le]
      rw [firsts_some hi hp hl]; simp [h1]
    · rw [firsts_some hi hp hl, List.take_append_of_le_length (by omega), ih (by omega) (by omega)]
theorem Fine.take {pre l : List Nat} (h : Fine pre l) (k : Nat) : Fine pre (l.take k) := by
  induction h with
  | nil => simpa using Fine.nil
  | @snoc l j h1 h2 h3 ih =>
    by_cases hk : k ≤ l.length
    · rw [List.take_append_of_le_length hk]; exact ih
    · rw [List.take_of_length_le (by simp; omega)]; exact .snoc h1 h2 h3
/-- no row comes ahead of the first one -/
theorem firstRow_least {m l : List Nat} (hv : Valid m) (hrow : isRow (closed m) m.length l) (hlen : l.length = m.length) {k : Nat} (hk : k < m.length) (heq : ∀ j, j < k → l.getD j 0 = (firstRow m).getD j 0) :
    (firstRow m).getD k 0 ≤ l.getD k 0 := by
  have hf : Fine (turned m) l := (fine_iff_row hv hrow.2.1).2 hrow
  obtain ⟨h1, h2, h3⟩ := firsts_fine hv k (by omega)
  obtain ⟨i, hi, hp, hl⟩ := least_avail (exists_avail hv h2.nodup h3 (by omega))
  have e0 := firsts_some hi hp hl
  have hlast := (firsts_fine hv m.length (Nat.le_refl _)).1
  have e1 : (firstRow m).take k = firsts (turned m) m.length k := take_firsts hv (by omega) (Nat.le_refl _)
  have e2 : (firstRow m).take (k + 1) = firsts (turned m) m.length (k + 1) := take_firsts hv (by omega) (Nat.le_refl _)
  have e3 : l.take k = (firstRow m).take k := by
    apply List.ext_getElem
    · simp; unfold firstRow; omega
    · intro j g1 g2
      simp only [List.getElem_take]
      have hj : j < k := by simp at g1; omega
      have := heq j hj
      rw [List.getD_eq_getElem?_getD, List.getD_eq_getElem?_getD, List.getElem?_eq_getElem (by omega), List.getElem?_eq_getElem (by unfold firstRow; omega)] at this
      simpa using this
  have e4 : (firstRow m).getD k 0 = i := by
    have : ((firstRow m).take (k + 1)).getD k 0 = i := by rw [e2, e0, List.getD_eq_getElem?_getD, List.getElem?_append_right (by omega), h1]; simp
    rw [List.getD_eq_getElem?_getD, List.getElem?_take] at this
    rw [List.getD_eq_getElem?_getD]
    simpa using this
  rw [e4]
  have hkl : k < l.length := by omega
  have e5 : l.take (k + 1) = firsts (turned m) m.length k ++ [l.getD k 0] := by
    rw [List.take_succ_eq_append_getElem hkl, e3, e1, List.getD_eq_getElem?_getD, List.getElem?_eq_getElem hkl]; rfl
  have h5 := (hf.take (k + 1))
  rw [e5] at h5
  have h6 := (fine_snoc_iff.1 h5).2
  refine Nat.le_of_not_lt fun h => ?_
  rw [hl _ h] at h6; cases h6

/-- is a list a row: what is found, and what is wrong -/
def isGo (pre : List Nat) (n : Nat) : Nat → List Int → Bool × Nat
  | _, [] => (true, 0)
  | done, i :: t => if 0 ≤ i ∧ i < n then (if avail pre done i.toNat then isGo pre n (done ||| 2 ^ i.toNat) t else (false, 0)) else (false, 1)
def isRes (m : List Nat) (l : List Int) : Bool × Nat := if l.length = m.length then isGo (turned m) m.length 0 l else (false, 3)
theorem isGo_true {pre : List Nat} {n : Nat} : ∀ (t : List Int) (p : List Nat), Fine pre p → (∀ x ∈ p, x < n) → ((isGo pre n (bag p) t).1 = true ↔ ∃ q : List Nat, t = q.map (fun x : Nat => (x : Int)) ∧ Fine pre (p ++ q) ∧ ∀ x ∈ q, x < n) := by
  intro t
  induction t with
  | nil => intro p hp hl; exact ⟨fun _ => ⟨[], rfl, by simpa using hp, by simp⟩, fun _ => rfl⟩
  | cons i t ih =>
    intro p hp hl
    unfold isGo
    by_cases hi : 0 ≤ i ∧ i < n
    · rw [if_pos hi]
      obtain ⟨k, rfl⟩ := Int.eq_ofNat_of_zero_le hi.1
      have hk : k < n := by omega
      rw [Int.toNat_natCast]
      by_cases ha : avail pre (bag p) k = true
      · have hp' := fine_snoc_iff.2 ⟨hp, ha⟩
        rw [if_pos ha, ← bag_snoc, ih (p ++ [k]) hp' (fun x hx => by
          rcases List.mem_append.1 hx with h | h
          · exact hl x h
          · rw [List.mem_singleton.1 h]; exact hk)]
        constructor
        · rintro ⟨q, rfl, h1, h2⟩
          refine ⟨k :: q, by simp, by simpa using h1, fun x hx => ?_⟩
          rcases List.mem_cons.1 hx with rfl | h
          · exact hk
          · exact h2 x h
        · rintro ⟨q, h0, h1, h2⟩
          cases q with
          | nil => simp at h0
          | cons x q =>
            simp only [List.map_cons, List.cons.injEq] at h0
            obtain ⟨e, rfl⟩ := h0
            obtain rfl : k = x := by omega
            exact ⟨q, rfl, by simpa using h1, fun y hy => h2 y (by simp [hy])⟩
      · rw [if_neg ha]
        constructor
        · intro h; cases h
        · rintro ⟨q, h0, h1, h2⟩
          cases q with
          | nil => simp at h0
          | cons x q =>
            simp only [List.map_cons, List.cons.injEq] at h0
            obtain ⟨e, rfl⟩ := h0
            obtain rfl : k = x := by omega
            have := h1.take (p.length + 1)
            rw [show p ++ k :: q = (p ++ [k]) ++ q by simp, List.take_append_of_le_length (by simp), List.take_of_length_le (by simp)] at this
            exact absurd (fine_snoc_iff.1 this).2 ha
    · rw [if_neg hi]
      constructor
      · intro h; cases h
      · rintro ⟨q, h0, h1, h2⟩
        cases q with
        | nil => simp at h0
        | cons x q =>
          simp only [List.map_cons, List.cons.injEq] at h0
          have := h2 x (by simp)
          omega
theorem isRes_true {m : List Nat} (hv : Valid m) (l : List Int) : (isRes m l).1 = true ↔ ∃ q : List Nat, l = q.map (fun x : Nat => (x : Int)) ∧ q.length = m.length ∧ isRow (closed m) m.length q := by
  unfold isRes
  by_cases hl : l.length = m.length
  · rw [if_pos hl, show (0 : Nat) = bag [] from rfl, isGo_true l [] .nil (by simp)]
    constructor
    · rintro ⟨q, rfl, h1, h2⟩
      have hq : q.length = m.length := by simpa using hl
      exact ⟨q, rfl, hq, (fine_iff_row hv (fine_all (by simpa using h1) h2 hq)).1 (by simpa using h1)⟩
    · rintro ⟨q, rfl, h1, h2⟩
      exact ⟨q, rfl, by simpa using (fine_iff_row hv h2.2.1).2 h2, fun x hx => (h2.2.1 x).1 hx⟩
  · rw [if_neg hl]
    constructor
    · intro h; cases h
    · rintro ⟨q, rfl, h1, _⟩
      exact absurd (by simpa using h1) hl
theorem isGo_err {pre : List Nat} {n : Nat} : ∀ (t : List Int) (d : Nat), (isGo pre n d t).1 = true → (isGo pre n d t).2 = 0 := by
  intro t
  induction t with
  | nil => intro d _; rfl
  | cons i t ih =>
    intro d h
    unfold isGo at h ⊢
    split at h
    · rename_i hi
      rw [if_pos hi]
      split at h
      · rename_i ha
        rw [if_pos ha]; exact ih _ h
      · cases h
    · cases h
theorem isRes_err {m : List Nat} {l : List Int} (h : (isRes m l).1 = true) : (isRes m l).2 = 0 := by
  unfold isRes at h ⊢
  split at h
  · rename_i hl
    rw [if_pos hl]; exact isGo_err l 0 h
  · cases h
end Odr
end Go.Proofs.YtpicjikjinkkpaaDoor
