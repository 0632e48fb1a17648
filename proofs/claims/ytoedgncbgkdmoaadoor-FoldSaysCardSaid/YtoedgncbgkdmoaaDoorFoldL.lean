/- Plain words on the least of all words that are the same but for places. No program is in sight. Conditions: none. -/
import Derived.Test.YtoedgncbgkdmoaaDoorFoldF
namespace Go.Proofs.YtoedgncbgkdmoaaDoor
namespace Fld
open Odr

/-- may the letter at a place go to the front? -/
def okAt (free w : List Nat) (i : Nat) : Bool := (w.take i).all fun x => rel free x (w.getD i 0)
/-- the place of the least letter that may, of the first ones -/
def bestTo (free w : List Nat) : Nat → Option Nat
  | 0 => none
  | i + 1 => if okAt free w i = true ∧ (∀ b, bestTo free w i = some b → w.getD i 0 < w.getD b 0) then some i else bestTo free w i
def leastN (free : List Nat) : Nat → List Nat → List Nat
  | 0, _ => []
  | k + 1, w => match bestTo free w w.length with
    | none => []
    | some b => w.getD b 0 :: leastN free k (w.eraseIdx b)
def least (free w : List Nat) : List Nat := leastN free w.length w

theorem bestTo_spec (free w : List Nat) (n : Nat) : (∀ b, bestTo free w n = some b → b < n ∧ okAt free w b = true ∧ ∀ i, i < n → okAt free w i = true → w.getD b 0 ≤ w.getD i 0) ∧
    (bestTo free w n = none → ∀ i, i < n → okAt free w i = false) := by
  induction n with
  | zero => exact ⟨(fun b h => by cases h), (fun _ i h => by omega)⟩
  | succ n ih =>
    rw [bestTo]
    split
    · rename_i hc
      refine ⟨fun b h => ?_, fun h => by cases h⟩
      injection h with h
      subst h
      refine ⟨by omega, hc.1, fun i hi ho => ?_⟩
      by_cases e : i = n
      · subst e; exact Nat.le_refl _
      · cases hb : bestTo free w n with
        | none => rw [ih.2 hb i (by omega)] at ho; cases ho
        | some b =>
          have h1 := hc.2 b hb
          have h2 := (ih.1 b hb).2.2 i (by omega) ho
          omega
    · rename_i hc
      refine ⟨fun b h => ?_, fun h i hi => ?_⟩
      · obtain ⟨h1, h2, h3⟩ := ih.1 b h
        refine ⟨by omega, h2, fun i hi ho => ?_⟩
        by_cases e : i = n
        · subst e
          exact Nat.le_of_not_lt fun hh => hc ⟨ho, fun b' hb' => by rw [h] at hb'; injection hb' with hb'; subst hb'; exact hh⟩
        · exact h3 i (by omega) ho
      · by_cases e : i = n
        · subst e
          cases ho : okAt free w i
          · rfl
          · exact absurd ⟨ho, fun b hb => by rw [h] at hb; cases hb⟩ hc
        · exact ih.2 h i (by omega)

theorem Alike.rfl {free v : List Nat} : Alike free v v := fun _ _ _ _ _ => Eq.refl _
theorem Alike.symm {free v w : List Nat} (h : Alike free v w) : Alike free w v := fun a b ha hb hd => (h a b ha hb hd).symm
theorem Alike.trans {free u v w : List Nat} (h : Alike free u v) (g : Alike free v w) : Alike free u w := fun a b ha hb hd => (h a b ha hb hd).trans (g a b ha hb hd)
theorem Alike.cons {free v w : List Nat} (a : Nat) (h : Alike free v w) : Alike free (a :: v) (a :: w) := by
  intro x y hx hy hd
  by_cases hc : a = x ∨ a = y
  · rw [proj_cons_in hc, proj_cons_in hc, h x y hx hy hd]
  · rw [proj_cons_out (fun h => hc (.inl h)) (fun h => hc (.inr h)), proj_cons_out (fun h => hc (.inl h)) (fun h => hc (.inr h)), h x y hx hy hd]
theorem Alike.tail {free v w : List Nat} {a : Nat} (h : Alike free (a :: v) (a :: w)) : Alike free v w := by
  intro x y hx hy hd
  have := h x y hx hy hd
  by_cases hc : a = x ∨ a = y
  · rw [proj_cons_in hc, proj_cons_in hc] at this
    injection this
  · rwa [proj_cons_out (fun h => hc (.inl h)) (fun h => hc (.inr h)), proj_cons_out (fun h => hc (.inl h)) (fun h => hc (.inr h))] at this
theorem alike_front {free : List Nat} (hg : Good free) {a : Nat} {u v : List Nat} (h : ∀ x ∈ u, rel free a x = true) : Alike free (a :: (u ++ v)) (u ++ a :: v) := by
  intro x y _ _ hd
  rw [proj_append]
  by_cases hc : a = x ∨ a = y
  · have hno : proj u x y = [] := by
      apply proj_none
      · intro hm
        have h1 := h x hm
        rcases hc with rfl | rfl
        · rw [hg.2.2.1] at h1; cases h1
        · rw [hg.2.2.2 _ _ h1] at hd; cases hd
      · intro hm
        have h1 := h y hm
        rcases hc with rfl | rfl
        · rw [h1] at hd; cases hd
        · rw [hg.2.2.1] at h1; cases h1
    rw [proj_cons_in hc, proj_cons_in hc, proj_append, hno]
    rfl
  · rw [proj_cons_out (fun h => hc (.inl h)) (fun h => hc (.inr h)), proj_cons_out (fun h => hc (.inl h)) (fun h => hc (.inr h)), proj_append]

theorem proj_length_le (w : List Nat) (a b : Nat) : (proj w a b).length ≤ w.length := List.length_filter_le _ _

/-- a letter may go to the front -/
def Avail (free w : List Nat) (a : Nat) : Prop := ∃ w1 w2, w = w1 ++ a :: w2 ∧ ∀ x ∈ w1, rel free a x = true
theorem Avail.alike {free : List Nat} (hg : Good free) {v w : List Nat} {a : Nat} (hv : ∀ x ∈ v, x < free.length) (hw : ∀ x ∈ w, x < free.length) (h : Alike free v w) (hA : Avail free v a) : Avail free w a := by
  obtain ⟨v1, v2, rfl, hx⟩ := hA
  obtain ⟨w1, w2, e, hi, _⟩ := alike_split hw (hv a (by simp)) hg ((alike_front hg hx).trans h)
  exact ⟨w1, w2, e, hi⟩
theorem eraseIdx_mid (u v : List Nat) (a : Nat) : (u ++ a :: v).eraseIdx u.length = u ++ v := by
  rw [List.eraseIdx_append_of_length_le (Nat.le_refl _), Nat.sub_self]
  rfl
theorem split_at {w : List Nat} {b : Nat} (hb : b < w.length) : ∃ w1 w2, w = w1 ++ w.getD b 0 :: w2 ∧ w1 = w.take b ∧ w1.length = b ∧ w.eraseIdx b = w1 ++ w2 := by
  have e : w = w.take b ++ w.getD b 0 :: w.drop (b + 1) := by
    rw [List.getD_eq_getElem?_getD, List.getElem?_eq_getElem hb]
    simp
  have hl : (w.take b).length = b := by rw [List.length_take]; omega
  refine ⟨w.take b, w.drop (b + 1), e, rfl, hl, ?_⟩
  have := eraseIdx_mid (w.take b) (w.drop (b + 1)) (w.getD b 0)
  rw [hl, ← e] at this
  exact this
theorem okAt_iff {free w : List Nat} (hg : Good free) {i : Nat} : okAt free w i = true ↔ ∀ x ∈ w.take i, rel free (w.getD i 0) x = true := by
  unfold okAt
  rw [List.all_eq_true]
  exact ⟨fun h x hx => hg.2.2.2 _ _ (h x hx), fun h x hx => hg.2.2.2 _ _ (h x hx)⟩
theorem avail_iff {free w : List Nat} (hg : Good free) {a : Nat} : Avail free w a ↔ ∃ i, i < w.length ∧ okAt free w i = true ∧ w.getD i 0 = a := by
  constructor
  · rintro ⟨w1, w2, rfl, h⟩
    have e : (w1 ++ a :: w2).getD w1.length 0 = a := by simp [List.getD_eq_getElem?_getD]
    refine ⟨w1.length, by simp, (okAt_iff hg).2 fun x hx => ?_, e⟩
    rw [e]
    rw [List.take_left] at hx
    exact h x hx
  · rintro ⟨i, hi, h, rfl⟩
    obtain ⟨w1, w2, e1, rfl, e3, _⟩ := split_at hi
    exact ⟨w.take i, w2, e1, (okAt_iff hg).1 h⟩

/-- the least letter that may go to the front, and what is left then -/
theorem best_exists {free w : List Nat} (hg : Good free) (hne : w ≠ []) : ∃ b, bestTo free w w.length = some b ∧ b < w.length ∧ Avail free w (w.getD b 0) ∧ (∀ a, Avail free w a → w.getD b 0 ≤ a) ∧ Alike free (w.getD b 0 :: w.eraseIdx b) w := by
  have hpos : 0 < w.length := List.length_pos_iff.2 hne
  cases hb : bestTo free w w.length with
  | none =>
    have := (bestTo_spec free w w.length).2 hb 0 hpos
    simp [okAt] at this
  | some b =>
    obtain ⟨h1, h2, h3⟩ := (bestTo_spec free w w.length).1 b hb
    obtain ⟨w1, w2, e1, e2, e3, e4⟩ := split_at h1
    have hin := (okAt_iff hg).1 h2
    rw [← e2] at hin
    refine ⟨b, rfl, h1, (avail_iff hg).2 ⟨b, h1, h2, rfl⟩, fun a ha => ?_, ?_⟩
    · obtain ⟨i, hi, ho, rfl⟩ := (avail_iff hg).1 ha
      exact h3 i hi ho
    · rw [e4]
      have := alike_front hg (v := w2) hin
      rwa [← e1] at this

theorem least_nil (free : List Nat) : least free [] = [] := rfl
theorem least_cons {free w : List Nat} (hg : Good free) (hne : w ≠ []) : ∃ b, b < w.length ∧ bestTo free w w.length = some b ∧ least free w = w.getD b 0 :: least free (w.eraseIdx b) ∧ Avail free w (w.getD b 0) ∧ (∀ a, Avail free w a → w.getD b 0 ≤ a) ∧ Alike free (w.getD b 0 :: w.eraseIdx b) w := by
  obtain ⟨b, h1, h2, h3, h4, h5⟩ := best_exists hg hne
  refine ⟨b, h2, h1, ?_, h3, h4, h5⟩
  have hl : (w.eraseIdx b).length = w.length - 1 := by rw [List.length_eraseIdx]; simp [h2]
  unfold least
  rw [hl, show w.length = (w.length - 1) + 1 by omega, leastN, show w.length - 1 + 1 = w.length by omega, h1]

theorem mem_erase {w : List Nat} {b n : Nat} (hw : ∀ x ∈ w, x < n) : ∀ x ∈ w.eraseIdx b, x < n := fun x hx => hw x (List.mem_of_mem_eraseIdx hx)

theorem least_spec {free : List Nat} (hg : Good free) : ∀ (k : Nat) (w : List Nat), w.length = k → (∀ x ∈ w, x < free.length) →
    (least free w).length = w.length ∧ (∀ x ∈ least free w, x < free.length) ∧ Alike free (least free w) w := by
  intro k
  induction k with
  | zero =>
    intro w hk hw
    have : w = [] := List.length_eq_zero_iff.1 hk
    subst this
    exact ⟨rfl, hw, .rfl⟩
  | succ k ih =>
    intro w hk hw
    obtain ⟨b, h1, _, h2, _, _, h5⟩ := least_cons (free := free) (w := w) hg (by rintro rfl; simp at hk)
    have hl : (w.eraseIdx b).length = k := by rw [List.length_eraseIdx]; simp [h1]; omega
    obtain ⟨g1, g2, g3⟩ := ih _ hl (mem_erase hw)
    rw [h2]
    refine ⟨by rw [List.length_cons, g1, hl, hk], fun x hx => ?_, (g3.cons _).trans h5⟩
    rcases List.mem_cons.1 hx with rfl | hx
    · rw [List.getD_eq_getElem?_getD, List.getElem?_eq_getElem h1]; exact hw _ (List.getElem_mem h1)
    · exact g2 x hx
theorem steps_least {free w : List Nat} (hg : Good free) (hw : ∀ x ∈ w, x < free.length) : steps free (least free w) = steps free w := by
  obtain ⟨_, h2, h3⟩ := least_spec hg _ w rfl hw
  exact (steps_eq_iff hg h2 hw).2 h3

theorem alike_length {free : List Nat} (hg : Good free) : ∀ (v w : List Nat), (∀ x ∈ v, x < free.length) → (∀ x ∈ w, x < free.length) → Alike free v w → v.length = w.length := by
  intro v
  induction v with
  | nil => intro w _ hw h; rw [alike_nil hg hw h]
  | cons a v ih =>
    intro w hv hw h
    obtain ⟨w1, w2, rfl, _, hal⟩ := alike_split hw (hv a (List.mem_cons_self ..)) hg h
    have := ih (w1 ++ w2) (fun x hx => hv x (List.mem_cons_of_mem _ hx)) (fun x hx => hw x (by
      rcases List.mem_append.1 hx with hx | hx
      · exact List.mem_append_left _ hx
      · exact List.mem_append_right _ (List.mem_cons_of_mem _ hx))) hal
    simp at this ⊢
    omega

/-- the least word is one for all that are the same -/
theorem least_alike {free : List Nat} (hg : Good free) : ∀ (k : Nat) (v w : List Nat), v.length = k → (∀ x ∈ v, x < free.length) → (∀ x ∈ w, x < free.length) → Alike free v w → least free v = least free w := by
  intro k
  induction k with
  | zero =>
    intro v w hk _ hw h
    have : v = [] := List.length_eq_zero_iff.1 hk
    subst this
    rw [alike_nil hg hw h]
  | succ k ih =>
    intro v w hk hv hw h
    have hl := alike_length hg v w hv hw h
    obtain ⟨b, h1, _, h2, h3, h4, h5⟩ := least_cons (free := free) (w := v) hg (by rintro rfl; simp at hk)
    obtain ⟨c, g1, _, g2, g3, g4, g5⟩ := least_cons (free := free) (w := w) hg (by rintro rfl; rw [hk] at hl; simp at hl)
    have e : v.getD b 0 = w.getD c 0 := Nat.le_antisymm (h4 _ (g3.alike hg hw hv h.symm)) (g4 _ (h3.alike hg hv hw h))
    rw [h2, g2, e]
    congr 1
    rw [e] at h5
    have hle : (v.eraseIdx b).length = k := by rw [List.length_eraseIdx]; simp [h1]; omega
    exact ih _ _ hle (mem_erase hv) (mem_erase hw) ((h5.trans (h.trans g5.symm)).tail)

/-- in it no two neighbours that may change places stand the greater one first -/
theorem least_sorted {free : List Nat} (hg : Good free) : ∀ (k : Nat) (w : List Nat), w.length = k → (∀ x ∈ w, x < free.length) →
    ∀ i, i + 1 < (least free w).length → rel free ((least free w).getD i 0) ((least free w).getD (i + 1) 0) = true → (least free w).getD i 0 ≤ (least free w).getD (i + 1) 0 := by
  intro k
  induction k with
  | zero =>
    intro w hk _ i hi
    have : w = [] := List.length_eq_zero_iff.1 hk
    subst this
    rw [least_nil] at hi; simp at hi
  | succ k ih =>
    intro w hk hw i hi hr
    obtain ⟨b, h1, _, h2, h3, h4, h5⟩ := least_cons (free := free) (w := w) hg (by rintro rfl; simp at hk)
    have hle : (w.eraseIdx b).length = k := by rw [List.length_eraseIdx]; simp [h1]; omega
    rw [h2] at hi hr ⊢
    cases i with
    | succ i => exact ih _ hle (mem_erase hw) i (by simpa using hi) hr
    | zero =>
      have hne : w.eraseIdx b ≠ [] := by
        intro h0
        rw [h0, least_nil] at hi
        simp at hi
      obtain ⟨c, g1, _, g2, g3, g4, g5⟩ := least_cons (free := free) (w := w.eraseIdx b) hg hne
      rw [g2] at hr ⊢
      have e0 : ∀ (x y : Nat) (l : List Nat), (x :: y :: l).getD 0 0 = x := fun _ _ _ => rfl
      have e1 : ∀ (x y : Nat) (l : List Nat), (x :: y :: l).getD (0 + 1) 0 = y := fun _ _ _ => rfl
      rw [e0, e1] at hr ⊢
      have hx : w.getD b 0 < free.length := by rw [List.getD_eq_getElem?_getD, List.getElem?_eq_getElem h1]; exact hw _ (List.getElem_mem h1)
      have hy : (w.eraseIdx b).getD c 0 < free.length := by rw [List.getD_eq_getElem?_getD, List.getElem?_eq_getElem g1]; exact mem_erase hw _ (List.getElem_mem g1)
      have hA : Avail free (w.getD b 0 :: (w.eraseIdx b).getD c 0 :: (w.eraseIdx b).eraseIdx c) ((w.eraseIdx b).getD c 0) := ⟨[w.getD b 0], (w.eraseIdx b).eraseIdx c, rfl, fun x hx => by
        simp at hx; subst hx; exact hg.2.2.2 _ _ hr⟩
      refine h4 _ (hA.alike hg (fun x hx' => ?_) hw ((g5.cons _).trans h5))
      rcases List.mem_cons.1 hx' with rfl | hx'
      · exact hx
      · rcases List.mem_cons.1 hx' with rfl | hx'
        · exact hy
        · exact mem_erase (mem_erase hw) _ hx'

/-- and none that is the same comes ahead of it -/
theorem least_first {free : List Nat} (hg : Good free) : ∀ (k : Nat) (u : List Nat), u.length = k → (∀ x ∈ u, x < free.length) →
    ∀ i, i < u.length → (∀ j, j < i → (least free u).getD j 0 = u.getD j 0) → (least free u).getD i 0 ≤ u.getD i 0 := by
  intro k
  induction k with
  | zero => intro u hk _ i hi; omega
  | succ k ih =>
    intro u hk hu i hi heq
    obtain ⟨b, h1, _, h2, h3, h4, h5⟩ := least_cons (free := free) (w := u) hg (by rintro rfl; simp at hk)
    rcases u with _ | ⟨x, u⟩
    · simp at hk
    · have hx : x < free.length := hu x (List.mem_cons_self ..)
      cases i with
      | zero =>
        rw [h2]
        exact h4 x ⟨[], u, rfl, by simp⟩
      | succ i =>
        have h0 := heq 0 (by omega)
        rw [h2] at h0
        have hxe : (x :: u).getD b 0 = x := h0
        have e := least_alike hg _ ((x :: u).eraseIdx b) u rfl (mem_erase hu) (fun y hy => hu y (List.mem_cons_of_mem _ hy)) (by rw [hxe] at h5; exact h5.tail)
        have hlst : least free (x :: u) = x :: least free u := by rw [h2, hxe, e]
        rw [hlst] at heq ⊢
        have := ih u (by simpa using hk) (fun y hy => hu y (List.mem_cons_of_mem _ hy)) i (by simpa using hi) (fun j hj => heq (j + 1) (by omega))
        exact this

end Fld
end Go.Proofs.YtoedgncbgkdmoaaDoor
