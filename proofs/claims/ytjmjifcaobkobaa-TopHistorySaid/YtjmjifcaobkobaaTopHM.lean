/- Plain words on a schedule told as a history: it is atomic, in just the row in which it stands. No program is in sight. Conditions: none. -/
import Derived.Test.YtjmjifcaobkobaaHistM
import Derived.Test.YtjmjifcaobkobaaSameM
namespace Go.Proofs.Ytjmjifcaobkobaa
namespace His
open Odr

/-- what act i tells as its value -/
def tval (t : List Sch.N3) (i : Nat) : Nat := if (t.getD i Sch.d3).2.2 = 1 then i + 1 else (Sch.lastW t (t.getD i Sch.d3).2.1 i + 1).toNat
def top (t : List Sch.N3) (i : Nat) : N6 := ((t.getD i Sch.d3).1, (t.getD i Sch.d3).2.1, (t.getD i Sch.d3).2.2, tval t i, 2 * i, 2 * i + 1)
def topTo (t : List Sch.N3) (k : Nat) : List N6 := (List.range k).map (top t)
def topH (t : List Sch.N3) : List N6 := topTo t t.length
@[simp] theorem length_topTo (t : List Sch.N3) (k : Nat) : (topTo t k).length = k := by simp [topTo]
@[simp] theorem length_topH (t : List Sch.N3) : (topH t).length = t.length := by simp [topH]
theorem topTo_next (t : List Sch.N3) (k : Nat) : topTo t (k + 1) = topTo t k ++ [top t k] := by simp [topTo, List.range_succ]
theorem opAt_topH {t : List Sch.N3} {i : Nat} (h : i < t.length) : opAt (topH t) i = top t i := by
  rw [opAt_eq (by simpa using h)]; simp [topH, topTo]
theorem tval_le (t : List Sch.N3) (i : Nat) : tval t i ≤ i + 1 := by
  unfold tval
  split
  · exact Nat.le_refl _
  · have := Sch.lastW_lt t (t.getD i Sch.d3).2.1 i
    omega
theorem topH_ok {t : List Sch.N3} (hl : t.length ≤ 10) (ht : ∀ a ∈ t, Sch.Ok3 a) (h3 : ∀ i, i < t.length → (t.getD i Sch.d3).2.1 < 3) : Hok (topH t) := by
  refine ⟨by simpa using hl, fun a ha => ?_, ?_⟩
  · obtain ⟨i, hi, rfl⟩ := List.mem_map.1 ha
    rw [List.mem_range] at hi
    obtain ⟨h1, _, h2⟩ := Sch.getD_ok ht i
    have := tval_le t i
    have := h3 i hi
    simp only [top, pr, ob, wr, vl, fr, tt]
    omega
  · unfold topH topTo
    rw [List.pairwise_map]
    refine List.pairwise_lt_range.imp fun {i j} hij => ?_
    rintro ⟨_, h1, h2⟩
    simp only [top, fr, tt] at h1 h2
    omega

/-- how the objects stand ahead of act k -/
def tst (t : List Sch.N3) (k : Nat) : List Nat := (List.range 3).map fun o => (Sch.lastW t o k + 1).toNat
theorem getD_tst (t : List Sch.N3) (k o : Nat) (h : o < 3) : (tst t k).getD o 0 = (Sch.lastW t o k + 1).toNat := by
  unfold tst
  rw [List.getD_eq_getElem?_getD, List.getElem?_map, List.getElem?_range h]; rfl
theorem after_tst {t : List Sch.N3} {k : Nat} (hk : k < t.length) : after (topH t) (tst t k) k = tst t (k + 1) := by
  unfold after
  rw [opAt_topH hk]
  apply List.ext_getElem (by simp [tst])
  intro o h1 h2
  rw [List.getElem_set]
  have ho : o < 3 := by simpa [tst] using h2
  have e1 : ∀ q (h : o < (tst t q).length), (tst t q)[o] = (Sch.lastW t o q + 1).toNat := fun q h => by simp [tst]
  have e2 : Sch.lastW t o (k + 1) = if (t.getD k Sch.d3).2.1 = o ∧ (t.getD k Sch.d3).2.2 = 1 then (k : Int) else Sch.lastW t o k := rfl
  rw [e1 (k + 1), e1 k, e2]
  show (if (t.getD k Sch.d3).2.1 = o then tval t k else (Sch.lastW t o k + 1).toNat) = _
  by_cases e : (t.getD k Sch.d3).2.1 = o
  · rw [if_pos e]
    unfold tval
    by_cases hw : (t.getD k Sch.d3).2.2 = 1
    · rw [if_pos hw, if_pos ⟨e, hw⟩]; omega
    · rw [if_neg hw, if_neg (fun h => hw h.2), e]
  · rw [if_neg e, if_neg (fun h => e h.1)]
theorem pres_top {t : List Sch.N3} {k j : Nat} (hk : k < t.length) : ((pres true (topH t)).getD k 0).testBit j = decide (j < k) := by
  rw [pres_bit, length_topH]
  by_cases hj : j < t.length
  · rw [opAt_topH hk, opAt_topH hj]
    have e : aheadB true (top t j) (top t k) = decide (j < k) := by
      have : aheadB true (top t j) (top t k) = decide (2 * j + 1 ≤ 2 * k) := by simp [aheadB, top]
      rw [this]
      exact decide_eq_decide.2 (by omega)
    rw [e]
    simp [hk, hj]
  · have : ¬ j < k := by omega
    simp [hj, this]
/-- the first k things -/
theorem low_bit (k j : Nat) : (2 ^ k - 1).testBit j = decide (j < k) := Nat.testBit_two_pow_sub_one k j
theorem low_next (k : Nat) : 2 ^ k - 1 ||| 2 ^ k = 2 ^ (k + 1) - 1 := by
  apply Nat.eq_of_testBit_eq
  intro j
  rw [Nat.testBit_or, low_bit, low_bit, Nat.testBit_two_pow]
  rw [Bool.eq_iff_iff]
  simp only [Bool.or_eq_true, decide_eq_true_eq]
  omega
theorem top_step {t : List Sch.N3} (h3 : ∀ i, i < t.length → (t.getD i Sch.d3).2.1 < 3) {k : Nat} (hk : k < t.length) : okStep (topH t) (pres true (topH t)) (2 ^ k - 1) (tst t k) k = true := by
  refine okStep_iff.2 ⟨by rw [low_bit]; simp, fun j hj => ?_, ?_⟩
  · rw [pres_top hk] at hj
    rw [low_bit]; exact hj
  · rw [opAt_topH hk]
    simp only [top, wr, ob, vl]
    rw [getD_tst t k _ (h3 k hk)]
    unfold tval
    by_cases hw : (t.getD k Sch.d3).2.2 = 1
    · exact .inl hw
    · right; rw [if_neg hw]
theorem top_good {t : List Sch.N3} (h3 : ∀ i, i < t.length → (t.getD i Sch.d3).2.1 < 3) : ∀ n k, n + k = t.length → GoodFrom (topH t) (pres true (topH t)) (List.range' k n) (2 ^ k - 1) (tst t k) := by
  intro n
  induction n with
  | zero => intro k _; trivial
  | succ n ih =>
    intro k hk
    refine ⟨by simp; omega, top_step h3 (by omega), ?_⟩
    rw [low_next, after_tst (by omega)]
    exact ih (k + 1) (by omega)
theorem tst_zero (t : List Sch.N3) : tst t 0 = [0, 0, 0] := rfl
theorem range_of_inc : ∀ (n k : Nat) (l : List Nat), l.length = n → l.Pairwise (· < ·) → (∀ x ∈ l, k ≤ x ∧ x < n + k) → l = List.range' k n := by
  intro n
  induction n with
  | zero => intro k l hl _ _; exact List.length_eq_zero_iff.1 hl
  | succ n ih =>
    intro k l hl hp hx
    match l, hl with
    | a :: l, hl =>
      obtain ⟨p1, p2⟩ := List.pairwise_cons.1 hp
      have hnd : (a :: l).Nodup := hp.imp fun h => by omega
      have hall : ∀ i, i < n + 1 → i + k ∈ a :: l := by
        have h1 : ((a :: l).map (· - k)).Nodup := by
          rw [List.Nodup, List.pairwise_map]
          refine hnd.imp_of_mem fun {x y} hxm hym hne e => hne ?_
          have := hx x hxm; have := hx y hym; omega
        have h2 := nodup_all h1 (n := n + 1) (fun y hy => by
          obtain ⟨x, hxm, rfl⟩ := List.mem_map.1 hy
          have := hx x hxm; omega) (by simpa using hl)
        intro i hi
        obtain ⟨x, hxm, e⟩ := List.mem_map.1 (h2 i hi)
        have := hx x hxm
        rw [show i + k = x by omega]; exact hxm
      have ha : a = k := by
        have h0 := hall 0 (by omega)
        rw [Nat.zero_add] at h0
        rcases List.mem_cons.1 h0 with h | h
        · exact h.symm
        · have := p1 k h
          have := hx a (List.mem_cons_self ..)
          omega
      subst ha
      rw [List.range'_succ]
      congr 1
      exact ih (a + 1) l (by simpa using hl) p2 (fun x hxm => by
        have := p1 x hxm
        have := hx x (List.mem_cons_of_mem _ hxm)
        omega)
theorem top_row {t : List Sch.N3} (hl : t.length ≤ 10) (ht : ∀ a ∈ t, Sch.Ok3 a) (h3 : ∀ i, i < t.length → (t.getD i Sch.d3).2.1 < 3) : rowOf true (topH t) = some (List.range t.length) := by
  have hh := topH_ok hl ht h3
  have hg := top_good h3 t.length 0 (by omega)
  rw [tst_zero] at hg
  obtain ⟨r, hr⟩ := from_complete (h := topH t) (pre := pres true (topH t)) (topH t).length 0 [0, 0, 0] _ (by simp) hg
  have hr' : rowOf true (topH t) = some r := hr
  rw [hr']
  obtain ⟨g1, g2, _⟩ := from_some _ _ _ _ hr
  obtain ⟨s1, s2, s3, _⟩ := good_spec hh.obj r 0 [0, 0, 0] rfl g2
  rw [length_topH] at g1
  congr 1
  rw [List.range_eq_range']
  refine range_of_inc t.length 0 r g1 ?_ (fun x hx => by have := (s2 x hx).1; rw [length_topH] at this; omega)
  have hboth : r.Pairwise fun a b => a ≠ b ∧ ((pres true (topH t)).getD a 0).testBit b = false := s1.and s3
  refine hboth.imp_of_mem fun {a b} ha hb hab => ?_
  have hal : a < t.length := by have := (s2 a ha).1; rwa [length_topH] at this
  have := hab.2
  rw [pres_top hal] at this
  have : ¬ b < a := by simpa using this
  have := hab.1
  omega
theorem top_weak {t : List Sch.N3} (hl : t.length ≤ 10) (ht : ∀ a ∈ t, Sch.Ok3 a) (h3 : ∀ i, i < t.length → (t.getD i Sch.d3).2.1 < 3) : (rowOf false (topH t)).isSome = true := by
  have hh := topH_ok hl ht h3
  obtain ⟨L, hL⟩ := (rowOf_isSome hh).1 (Option.isSome_iff_exists.2 ⟨_, top_row hl ht h3⟩)
  exact (rowOf_isSome hh).2 ⟨L, lin_weaker hL⟩
end His
end Go.Proofs.Ytjmjifcaobkobaa
