/- Plain mathematics of rows that go by edges: what core.Row tells, that it is a row, the least one, and that there is one just where no ring is. No program is in sight. Conditions: none. -/
import Derived.Test.YtkindaadadggoaaDoorCnt
namespace Go.Proofs.YtkindaadadggoaaDoor
namespace Rw
open Odr

/-- may thing i stand next, behind those that are done? -/
def freeTo (e : List Nat) (dn i : Nat) : Nat → Bool
  | 0 => !dn.testBit i
  | j + 1 => freeTo e dn i j && (dn.testBit j || !rel e j i)
def free (e : List Nat) (dn i : Nat) : Bool := freeTo e dn i e.length

theorem freeTo_iff (e : List Nat) (dn i m : Nat) : freeTo e dn i m = true ↔ dn.testBit i = false ∧ ∀ j, j < m → rel e j i = true → dn.testBit j = true := by
  induction m with
  | zero => simp [freeTo]
  | succ m ih =>
    rw [freeTo, Bool.and_eq_true, ih]
    constructor
    · rintro ⟨⟨h1, h2⟩, h3⟩
      refine ⟨h1, fun j hj hr => ?_⟩
      by_cases hjm : j < m
      · exact h2 j hjm hr
      · obtain rfl : j = m := by omega
        simpa [hr] using h3
    · rintro ⟨h1, h2⟩
      refine ⟨⟨h1, fun j hj => h2 j (by omega)⟩, ?_⟩
      by_cases hr : rel e m i = true
      · simp [h2 m (by omega) hr]
      · have : rel e m i = false := by simpa using hr
        simp [this]

theorem free_iff (e : List Nat) (dn i : Nat) : free e dn i = true ↔ dn.testBit i = false ∧ ∀ j, rel e j i = true → dn.testBit j = true := by
  unfold free
  rw [freeTo_iff]
  constructor
  · rintro ⟨h1, h2⟩
    exact ⟨h1, fun j hr => h2 j (rel_lt_left hr) hr⟩
  · rintro ⟨h1, h2⟩
    exact ⟨h1, fun j _ => h2 j⟩

/-- the least thing that may stand next -/
def next (e : List Nat) (dn : Nat) : Option Nat := (List.range e.length).find? (free e dn)

theorem next_some {e : List Nat} {dn i : Nat} (hi : i < e.length) (hf : free e dn i = true) (hn : ∀ j, j < i → free e dn j = false) : next e dn = some i := by
  unfold next
  rw [List.find?_eq_some_iff_getElem]
  refine ⟨hf, i, by simpa using hi, by simp, fun j hj => ?_⟩
  simp [hn j hj]
theorem next_none {e : List Nat} {dn : Nat} (hn : ∀ j, j < e.length → free e dn j = false) : next e dn = none := by
  unfold next
  rw [List.find?_eq_none]
  intro j hj
  have := hn j (by simpa using hj)
  simp [this]
theorem next_spec {e : List Nat} {dn i : Nat} (h : next e dn = some i) : i < e.length ∧ free e dn i = true ∧ ∀ j, j < i → free e dn j = false := by
  unfold next at h
  obtain ⟨hf, k, hk, he, hall⟩ := List.find?_eq_some_iff_getElem.1 h
  simp at he hk
  subst he
  refine ⟨hk, hf, fun j hj => ?_⟩
  have := hall j hj
  simpa using this

/-- the row: so many steps at most, behind what stands already -/
def go (e : List Nat) : Nat → List Nat → Nat → Option (List Nat)
  | 0, out, _ => some out
  | k + 1, out, dn => match next e dn with
    | none => none
    | some i => go e k (out ++ [i]) (dn ||| 2 ^ i)
def row (e : List Nat) : Option (List Nat) := go e e.length [] 0

/-- each thing stands behind all that are ahead of it -/
def Topo (e : List Nat) (r : List Nat) : Prop := ∀ k (hk : k < r.length), ∀ j, rel e j r[k] = true → j ∈ r.take k

theorem topo_snoc {e r : List Nat} (h : Topo e r) {i : Nat} (hi : ∀ j, rel e j i = true → j ∈ r) : Topo e (r ++ [i]) := by
  intro k hk j hj
  by_cases hkr : k < r.length
  · rw [List.getElem_append_left hkr] at hj
    rw [List.take_append_of_le_length (by omega)]
    exact h k hkr j hj
  · have : k = r.length := by simp at hk; omega
    subst this
    rw [List.getElem_append_right (by omega)] at hj
    rw [List.take_append_of_le_length (by omega), List.take_length]
    exact hi j (by simpa using hj)

theorem go_spec (e : List Nat) (k : Nat) : ∀ (out : List Nat) (dn : Nat) (r : List Nat), go e k out dn = some r → (∀ i, dn.testBit i = true ↔ i ∈ out) → out.Nodup → (∀ x ∈ out, x < e.length) → Topo e out →
    r.length = out.length + k ∧ r.Nodup ∧ (∀ x ∈ r, x < e.length) ∧ Topo e r := by
  induction k with
  | zero =>
    intro out dn r h hd hn hl ht
    rw [go] at h
    injection h with h
    subst h
    exact ⟨rfl, hn, hl, ht⟩
  | succ k ih =>
    intro out dn r h hd hn hl ht
    rw [go] at h
    cases hx : next e dn with
    | none => rw [hx] at h; cases h
    | some i =>
      rw [hx] at h
      obtain ⟨hi, hf, _⟩ := next_spec hx
      obtain ⟨hf1, hf2⟩ := (free_iff e dn i).1 hf
      have hni : i ∉ out := fun hm => by have := (hd i).2 hm; rw [hf1] at this; cases this
      obtain ⟨h1, h2⟩ := ih (out ++ [i]) (dn ||| 2 ^ i) r h (fun j => by
        rw [Nat.testBit_or, Bool.or_eq_true, hd j, Nat.testBit_two_pow]
        simp [eq_comm]) (by
        rw [List.nodup_append]
        exact ⟨hn, by simp, fun a ha b hb => by simp at hb; subst hb; rintro rfl; exact hni ha⟩) (fun x hx => by
        rcases List.mem_append.1 hx with hx | hx
        · exact hl x hx
        · simp at hx; omega) (topo_snoc ht (fun j hj => (hd j).1 (hf2 j hj)))
      refine ⟨?_, h2⟩
      rw [h1, List.length_append]
      simp; omega

theorem row_spec {e r : List Nat} (h : row e = some r) : r.length = e.length ∧ r.Nodup ∧ (∀ x ∈ r, x < e.length) ∧ Topo e r := by
  have := go_spec e e.length [] 0 r h (by simp) (by simp) (by simp) (fun k hk => absurd hk (by simp))
  simpa using this

/-- where no thing stands behind itself, something may always stand next -/
theorem next_of_irr {e : List Nat} (hirr : ∀ i, rel (closed e) i i = false) {dn : Nat} {x : Nat} (hx : x < e.length) (hxd : dn.testBit x = false) : ∃ i, next e dn = some i := by
  obtain ⟨i, ⟨hi1, hi2⟩, hmin⟩ := exists_least (R := fun i j => rel (closed e) i j = true) e.length (fun i j h => by have := rel_lt_left h; rwa [length_closed] at this) (fun i j k => closed_trans) (fun i h => by rw [hirr] at h; cases h)
    (fun i => i < e.length ∧ dn.testBit i = false) ⟨x, hx, hxd⟩
  have hf : free e dn i = true := by
    rw [free_iff]
    refine ⟨hi2, fun j hj => ?_⟩
    by_cases hjd : dn.testBit j = true
    · exact hjd
    · exact absurd (closedTo_has e _ _ _ hj) (hmin j ⟨rel_lt_left hj, by simpa using hjd⟩)
  cases h : next e dn with
  | some i => exact ⟨i, rfl⟩
  | none =>
    unfold next at h
    have := List.find?_eq_none.1 h i (by simpa using hi1)
    exact absurd hf this

theorem go_some {e : List Nat} (hirr : ∀ i, rel (closed e) i i = false) (k : Nat) : ∀ (out : List Nat) (dn : Nat), (∀ i, dn.testBit i = true ↔ i ∈ out) → out.Nodup → (∀ x ∈ out, x < e.length) → out.length + k = e.length → ∃ r, go e k out dn = some r := by
  induction k with
  | zero => intro out dn _ _ _ _; exact ⟨out, rfl⟩
  | succ k ih =>
    intro out dn hd hn hl hlen
    have hx : ∃ x, x < e.length ∧ dn.testBit x = false := by
      apply Classical.byContradiction
      intro hno
      have hall : ∀ x, x < e.length → x ∈ out := fun x hx => by
        rw [← hd]
        by_cases h : dn.testBit x = true
        · exact h
        · exact absurd ⟨x, hx, by simpa using h⟩ hno
      have h1 := nodup_length hn hl
      rw [cnt_congr (q := fun _ => true) (fun i hi => by simp [hall i hi])] at h1
      have h2 : cnt e.length (fun _ => true) = e.length := by
        clear h1 hall hno hlen hl hn hd ih
        generalize e.length = m
        induction m with
        | zero => rfl
        | succ m ih => unfold cnt; simp [ih]
      omega
    obtain ⟨x, hx, hxd⟩ := hx
    obtain ⟨i, hi⟩ := next_of_irr hirr hx hxd
    obtain ⟨hil, hf, _⟩ := next_spec hi
    have hf1 := ((free_iff e dn i).1 hf).1
    have hni : i ∉ out := fun hm => by have := (hd i).2 hm; rw [hf1] at this; cases this
    obtain ⟨r, hr⟩ := ih (out ++ [i]) (dn ||| 2 ^ i) (fun j => by
      rw [Nat.testBit_or, Bool.or_eq_true, hd j, Nat.testBit_two_pow]
      simp [eq_comm]) (by
      rw [List.nodup_append]
      exact ⟨hn, by simp, fun a ha b hb => by simp at hb; subst hb; rintro rfl; exact hni ha⟩) (fun y hy => by
      rcases List.mem_append.1 hy with hy | hy
      · exact hl y hy
      · simp at hy; omega) (by rw [List.length_append]; simp; omega)
    exact ⟨r, by rw [go, hi]; exact hr⟩

theorem row_of_irr {e : List Nat} (hirr : ∀ i, rel (closed e) i i = false) : ∃ r, row e = some r :=
  go_some hirr e.length [] 0 (by simp) (by simp) (by simp) (by simp)

/-- a row of all keeps the closed relation -/
theorem topo_closed {e r : List Nat} (ht : Topo e r) (hn : r.Nodup) (hall : ∀ i, i < e.length → i ∈ r) (hf : Fits e) {i j : Nat} (h : rel (closed e) i j = true) :
    ∃ p q, ∃ (hp : p < r.length) (hq : q < r.length), r[p] = i ∧ r[q] = j ∧ p < q := by
  rw [closed_iff] at h
  refine h (fun i j => ∃ p q, ∃ (hp : p < r.length) (hq : q < r.length), r[p] = i ∧ r[q] = j ∧ p < q) ?_ ?_
  · intro a b hab
    obtain ⟨q, hq, rfl⟩ := List.mem_iff_getElem.1 (hall b (rel_lt_right hf hab))
    obtain ⟨p, hp, hpe⟩ := List.mem_iff_getElem.1 (ht q hq a hab)
    rw [List.length_take] at hp
    rw [List.getElem_take] at hpe
    exact ⟨p, q, by omega, hq, hpe, rfl, by omega⟩
  · rintro a b c ⟨p, q, hp, hq, h1, h2, h3⟩ ⟨p', q', hp', hq', h1', h2', h3'⟩
    have : q = p' := by
      have e1 : r[q] = r[p'] := by rw [h2, h1']
      exact (List.getElem?_inj hq hn).1 (by rw [List.getElem?_eq_getElem hq, List.getElem?_eq_getElem hp', e1])
    subst this
    exact ⟨p, q', hp, hq', h1, h2', by omega⟩

theorem irr_of_row {e r : List Nat} (h : row e = some r) (hf : Fits e) (i : Nat) : rel (closed e) i i = false := by
  obtain ⟨h1, h2, h3, h4⟩ := row_spec h
  by_cases g : rel (closed e) i i = true
  · obtain ⟨p, q, hp, hq, e1, e2, e3⟩ := topo_closed h4 h2 (nodup_all h2 h3 h1) hf g
    have : p = q := (List.getElem?_inj hp h2).1 (by rw [List.getElem?_eq_getElem hp, List.getElem?_eq_getElem hq, e1, e2])
    omega
  · simpa using g

/-- there is a row just where no thing stands behind itself -/
theorem row_isSome_iff {e : List Nat} (hf : Fits e) : (row e).isSome = true ↔ ∀ i, rel (closed e) i i = false := by
  constructor
  · intro h i
    obtain ⟨r, hr⟩ := Option.isSome_iff_exists.1 h
    exact irr_of_row hr hf i
  · intro h
    obtain ⟨r, hr⟩ := row_of_irr h
    rw [hr]; rfl

end Rw
end Go.Proofs.YtkindaadadggoaaDoor
