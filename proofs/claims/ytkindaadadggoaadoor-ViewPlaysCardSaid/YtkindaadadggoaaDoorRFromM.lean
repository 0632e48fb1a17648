/- Plain words on the reference's search for a row of edges, and that it finds the row that the program tells. No program is in sight. Conditions: none. -/
import Derived.Test.YtkindaadadggoaaDoorRowM
namespace Go.Proofs.YtkindaadadggoaaDoor
namespace Rw
open Odr

/-- may i come next, behind what is told? -/
def okc (e told : List Nat) (i : Nat) : Bool := told.all fun x => decide (x ≠ i) && !(rel e i x)
def rf (e : List Nat) : Nat → List Nat → List Nat
  | 0, told => told
  | f + 1, told => match (List.range e.length).find? (fun i => okc e told i && decide ((rf e f (told ++ [i])).length = e.length)) with
    | some i => rf e f (told ++ [i])
    | none => told
/-- a row in which nothing stands ahead of what it must stay behind -/
def Good (e r : List Nat) : Prop := r.Nodup ∧ (∀ x ∈ r, x < e.length) ∧ r.Pairwise fun a b => rel e b a = false
theorem okc_iff {e told : List Nat} {i : Nat} : okc e told i = true ↔ ∀ x ∈ told, x ≠ i ∧ rel e i x = false := by
  unfold okc
  rw [List.all_eq_true]
  constructor
  · intro h x hx
    have := h x hx
    simp only [Bool.and_eq_true, decide_eq_true_eq, Bool.not_eq_true'] at this
    exact this
  · intro h x hx
    simp only [Bool.and_eq_true, decide_eq_true_eq, Bool.not_eq_true']
    exact h x hx
theorem okc_snoc (e told : List Nat) (x i : Nat) : okc e (told ++ [x]) i = (okc e told i && (decide (x ≠ i) && !(rel e i x))) := by
  unfold okc
  rw [List.all_append]
  simp
theorem Good.snoc {e told : List Nat} (h : Good e told) {i : Nat} (hi : i < e.length) (hk : okc e told i = true) : Good e (told ++ [i]) := by
  rw [okc_iff] at hk
  obtain ⟨h1, h2, h3⟩ := h
  refine ⟨?_, ?_, ?_⟩
  · rw [List.nodup_append]
    refine ⟨h1, by simp, fun a ha b hb => ?_⟩
    rw [List.mem_singleton] at hb
    subst hb
    exact (hk a ha).1
  · intro x hx
    rcases List.mem_append.1 hx with h | h
    · exact h2 x h
    · rw [List.mem_singleton] at h; omega
  · rw [List.pairwise_append]
    refine ⟨h3, by simp, fun a ha b hb => ?_⟩
    rw [List.mem_singleton] at hb
    subst hb
    exact (hk a ha).2
theorem rf_some {e : List Nat} {f : Nat} {told : List Nat} {i : Nat} (hi : i < e.length) (h1 : okc e told i = true) (h2 : (rf e f (told ++ [i])).length = e.length)
    (h3 : ∀ j, j < i → (okc e told j && decide ((rf e f (told ++ [j])).length = e.length)) = false) : rf e (f + 1) told = rf e f (told ++ [i]) := by
  have : (List.range e.length).find? (fun i => okc e told i && decide ((rf e f (told ++ [i])).length = e.length)) = some i := by
    rw [List.find?_range_eq_some]
    exact ⟨by simp [h1, h2], by simpa using hi, fun j hj => by rw [h3 j hj]; rfl⟩
  rw [rf, this]
theorem rf_none {e : List Nat} {f : Nat} {told : List Nat} (h3 : ∀ j, j < e.length → (okc e told j && decide ((rf e f (told ++ [j])).length = e.length)) = false) : rf e (f + 1) told = told := by
  have : (List.range e.length).find? (fun i => okc e told i && decide ((rf e f (told ++ [i])).length = e.length)) = none := by
    rw [List.find?_eq_none]
    intro j hj
    rw [h3 j (by simpa using hj)]
    simp
  rw [rf, this]
theorem rf_eq (e : List Nat) (f : Nat) (told : List Nat) : rf e (f + 1) told = match (List.range e.length).find? (fun i => okc e told i && decide ((rf e f (told ++ [i])).length = e.length)) with
    | some i => rf e f (told ++ [i])
    | none => told := by rw [rf]
theorem rf_cases (e : List Nat) (f : Nat) (told : List Nat) : rf e (f + 1) told = told ∨ ∃ i, i < e.length ∧ okc e told i = true ∧ (rf e f (told ++ [i])).length = e.length ∧ rf e (f + 1) told = rf e f (told ++ [i]) := by
  cases h : (List.range e.length).find? (fun i => okc e told i && decide ((rf e f (told ++ [i])).length = e.length)) with
  | none => exact .inl (by rw [rf_eq, h])
  | some i =>
    have hm := List.mem_of_find?_eq_some h
    have hp := List.find?_some h
    simp only [Bool.and_eq_true, decide_eq_true_eq] at hp
    exact .inr ⟨i, by simpa using hm, hp.1, hp.2, by rw [rf_eq, h]⟩
theorem rf_good {e : List Nat} (f : Nat) : ∀ told : List Nat, Good e told → Good e (rf e f told) ∧ ∃ tail, rf e f told = told ++ tail := by
  induction f with
  | zero => exact fun told h => ⟨h, [], by simp [rf]⟩
  | succ f ih =>
    intro told h
    rcases rf_cases e f told with h1 | ⟨i, h1, h2, h3, h4⟩
    · rw [h1]; exact ⟨h, [], by simp⟩
    · rw [h4]
      obtain ⟨q1, tail, q2⟩ := ih (told ++ [i]) (h.snoc h1 h2)
      exact ⟨q1, i :: tail, by rw [q2]; simp⟩
theorem rel_left {e : List Nat} {i j : Nat} (h : rel e i j = true) : i < e.length := by
  unfold rel at h
  rw [List.getD_eq_getElem?_getD] at h
  by_cases hi : i < e.length
  · exact hi
  · rw [List.getElem?_eq_none (by omega)] at h
    simp at h
/-- a good row of all: what must come ahead of a thing stands ahead of it -/
theorem Good.ahead {e r : List Nat} (h : Good e r) (hl : r.length = e.length) (hirr : ∀ i, rel e i i = false) {k : Nat} (hk : k < r.length) {j : Nat} (hj : rel e j r[k] = true) : ∃ m, ∃ hm : m < k, r[m] = j := by
  obtain ⟨h1, h2, h3⟩ := h
  obtain ⟨m, hm, hme⟩ := List.mem_iff_getElem.1 (nodup_all h1 h2 hl j (rel_left hj))
  by_cases hmk : m < k
  · exact ⟨m, hmk, hme⟩
  · exfalso
    by_cases e1 : m = k
    · subst e1
      rw [hme] at hj
      rw [hirr j] at hj; cases hj
    · have := List.pairwise_iff_getElem.1 h3 k m hk hm (by omega)
      rw [hme] at this
      rw [this] at hj; cases hj
theorem Good.topo {e r : List Nat} (h : Good e r) (hl : r.length = e.length) (hirr : ∀ i, rel e i i = false) : Topo e r := by
  intro k hk j hj
  obtain ⟨m, hm, he⟩ := h.ahead hl hirr hk hj
  rw [List.mem_iff_getElem]
  exact ⟨m, by rw [List.length_take]; omega, by rw [List.getElem_take]; exact he⟩
/-- where the program tells a row, the search finds it -/
theorem rf_go {e : List Nat} (hirr : ∀ i, rel e i i = false) (k : Nat) : ∀ (told : List Nat) (dn : Nat) (r : List Nat), go e k told dn = some r → (∀ i, dn.testBit i = true ↔ i ∈ told) → Good e told → Topo e told → told.length + k = e.length → rf e k told = r := by
  induction k with
  | zero =>
    intro told dn r h _ _ _ _
    rw [go] at h
    injection h
  | succ k ih =>
    intro told dn r h hd hg ht hl
    rw [go] at h
    cases hn : next e dn with
    | none => rw [hn] at h; cases h
    | some i =>
      rw [hn] at h
      obtain ⟨hi, hfr, hmin⟩ := next_spec hn
      obtain ⟨hf1, hf2⟩ := (free_iff e dn i).1 hfr
      have hni : i ∉ told := fun hm => by rw [(hd i).2 hm] at hf1; cases hf1
      have hoki : okc e told i = true := okc_iff.2 fun x hx => ⟨fun e1 => hni (e1 ▸ hx), by
        by_cases hr : rel e i x = true
        · exfalso
          obtain ⟨p, hp, hpe⟩ := List.mem_iff_getElem.1 hx
          have := ht p hp i (by rw [hpe]; exact hr)
          exact hni (List.mem_of_mem_take this)
        · simpa using hr⟩
      have hd' : ∀ j, (dn ||| 2 ^ i).testBit j = true ↔ j ∈ told ++ [i] := by
        intro j
        rw [Nat.testBit_or, Nat.testBit_two_pow]
        simp only [Bool.or_eq_true, decide_eq_true_eq, List.mem_append, List.mem_singleton, hd j]
        constructor
        · rintro (h | h)
          · exact .inl h
          · exact .inr h.symm
        · rintro (h | h)
          · exact .inl h
          · exact .inr h.symm
      have hIH := ih (told ++ [i]) (dn ||| 2 ^ i) r h hd' (hg.snoc hi hoki) (topo_snoc ht fun j hj => by
        by_cases hjl : j < e.length
        · exact (hd j).1 (hf2 j hj)
        · exact absurd (rel_left hj) hjl) (by rw [List.length_append]; simp; omega)
      have hrl : r.length = e.length := by
        have hs := go_spec e k (told ++ [i]) (dn ||| 2 ^ i) r h hd' (hg.snoc hi hoki).1 (hg.snoc hi hoki).2.1 (topo_snoc ht fun j hj => (hd j).1 (hf2 j hj))
        have := hs.1
        rw [List.length_append] at this
        simp at this
        omega
      rw [rf_some hi hoki (by rw [hIH]; exact hrl) ?_, hIH]
      intro j hj
      by_cases h1 : okc e told j = true
      · by_cases h2 : (rf e k (told ++ [j])).length = e.length
        · exfalso
          have hjl : j < e.length := by omega
          obtain ⟨q1, tail, q2⟩ := rf_good k (told ++ [j]) (hg.snoc hjl h1)
          have hfree : free e dn j = true := by
            rw [free_iff]
            refine ⟨?_, fun x hx => ?_⟩
            · by_cases hb : dn.testBit j = true
              · exact absurd rfl ((okc_iff.1 h1) j ((hd j).1 hb)).1
              · simpa using hb
            · have hp : told.length < (rf e k (told ++ [j])).length := by rw [h2]; omega
              have hq : (rf e k (told ++ [j]))[told.length]? = some j := by
                rw [q2, List.append_assoc, List.getElem?_append_right (by omega)]
                simp
              obtain ⟨_, hpe⟩ := List.getElem?_eq_some_iff.1 hq
              obtain ⟨m, hm, hme⟩ := q1.ahead h2 hirr hp (j := x) (by rw [hpe]; exact hx)
              rw [hd x]
              have h5 : (rf e k (told ++ [j]))[m]? = some x := List.getElem?_eq_some_iff.2 ⟨by omega, hme⟩
              rw [q2, List.append_assoc, List.getElem?_append_left hm] at h5
              exact List.mem_of_getElem? h5
          rw [hmin j hj] at hfree
          cases hfree
        · simp [h2]
      · simp [h1]
theorem rf_row {e r : List Nat} (hirr : ∀ i, rel e i i = false) (h : row e = some r) : rf e e.length [] = r :=
  rf_go hirr e.length [] 0 r h (by simp) ⟨by simp, by simp, by simp⟩ (fun k hk => absurd hk (by simp)) (by simp)
/-- where it tells none, the search finds none -/
theorem rf_no_row {e : List Nat} (hirr : ∀ i, rel e i i = false) (hf : Fits e) (h : row e = none) : (rf e e.length []).length ≠ e.length := by
  intro hl
  obtain ⟨hg, _⟩ := rf_good e.length (e := e) [] ⟨by simp, by simp, by simp⟩
  have ht := hg.topo hl hirr
  obtain ⟨r, hr⟩ := row_of_irr (e := e) fun i => by
    by_cases g : rel (closed e) i i = true
    · exfalso
      obtain ⟨p, q, hp, hq, e1, e2, e3⟩ := topo_closed ht hg.1 (nodup_all hg.1 hg.2.1 hl) hf g
      have : p = q := (List.getElem?_inj hp hg.1).1 (by rw [List.getElem?_eq_getElem hp, List.getElem?_eq_getElem hq, e1, e2])
      omega
    · simpa using g
  rw [h] at hr; cases hr
theorem rf_le {e : List Nat} (f : Nat) : (rf e f []).length ≤ e.length := by
  obtain ⟨hg, _⟩ := rf_good (e := e) f [] ⟨by simp, by simp, by simp⟩
  exact nodup_le hg.1 hg.2.1
end Rw
end Go.Proofs.YtkindaadadggoaaDoor
