/- Plain words on what the law ViewFirst counts: who wrote what, and at which deed one began and ended. No program is in sight. Conditions: none. -/
import Derived.Test.YtkindaadadggoaaDoorViewE
namespace Go.Proofs.YtkindaadadggoaaDoor
namespace Vw
open Odr Sch

structure VF (v : V) (n : Nat) (W Bg En : List Nat) : Prop where
  lw : W.length = 5
  lb : Bg.length = 5
  le : En.length = 5
  wr : ∀ x, x < 5 → W.getD x 0 = (tx v x).wrt
  hb : ∀ x, Bg.getD x 0 ≤ n
  he : ∀ x, En.getD x 0 ≤ n
  tm : Times v n (fun x => Bg.getD x 0) (fun x => En.getD x 0)
def fW (d : D4) (W : List Nat) : List Nat := if d.1 = 3 ∧ d.2.2.2 = 1 then W.set d.2.1 (W.getD d.2.1 0 ||| 2 ^ d.2.2.1) else W
def fB (d : D4) (n : Nat) (B : List Nat) : List Nat := if d.1 = 4 then B.set d.2.1 n else B
def fE (d : D4) (n : Nat) (E : List Nat) : List Nat := if d.1 = 5 then E.set d.2.1 n else E
theorem vf0 : VF v0 0 [0, 0, 0, 0, 0] [0, 0, 0, 0, 0] [0, 0, 0, 0, 0] := by
  have hz : ∀ x, ([0, 0, 0, 0, 0] : List Nat).getD x 0 = 0 := fun x => by
    match x with
    | 0 => rfl
    | 1 => rfl
    | 2 => rfl
    | 3 => rfl
    | 4 => rfl
    | x + 5 => rfl
  refine ⟨rfl, rfl, rfl, fun x _ => by rw [hz, tx_v0]; rfl, fun x => by rw [hz]; exact Nat.le_refl _, fun x => by rw [hz]; exact Nat.le_refl _, fun x h => ?_, fun x y h => ?_⟩
  · rw [tx_v0] at h; cases h
  · rw [tx_v0] at h; cases h
theorem getD_set_nat (l : List Nat) (x y n : Nat) (hx : x < l.length) : (l.set x n).getD y 0 = if y = x then n else l.getD y 0 := by
  rw [List.getD_eq_getElem?_getD, List.getD_eq_getElem?_getD, List.getElem?_set]
  by_cases e : x = y
  · subst e
    rw [if_pos rfl, if_pos rfl, if_pos hx]
    rfl
  · rw [if_neg e, if_neg (fun g => e g.symm)]
/-- what keeps every phase, beginning and end keeps the times -/
theorem Times.same {v v' : V} {n : Nat} {b e : Nat → Nat} (h : Times v n b e) (hp : ∀ x, (tx v' x).ph = 2 → (tx v x).ph = 2) (hp0 : ∀ x, (tx v' x).ph ≠ 0 → (tx v x).ph ≠ 0) (hb : ∀ x, (tx v' x).bg = (tx v x).bg) (he : ∀ x, (tx v' x).en = (tx v x).en) : Times v' (n + 1) b e := by
  refine ⟨fun x hx => Nat.lt_succ_of_lt (h.1 x (hp x hx)), fun x y hx hy hxy => h.2 x y (hp x hx) (hp0 y hy) ?_⟩
  rw [← hb, ← he]; exact hxy
theorem VF.step {v : V} {n : Nat} {W Bg En : List Nat} (hI : Inv v) (h : VF v n W Bg En) {d : D4} (hd : OkD d) :
    ((vstep v d).2.2 = 0 → VF (vstep v d).1 (n + 1) (fW d W) (fB d n Bg) (fE d n En)) ∧ ((vstep v d).2.2 ≠ 0 → VF (vstep v d).1 (n + 1) W Bg En) := by
  obtain ⟨k, x, i, u⟩ := d
  obtain ⟨d1, d2, d3, d4⟩ := hd
  simp only at d1 d2 d3 d4
  have hw5 := h.lw
  have hb5 := h.lb
  have he5 := h.le
  have hle : ∀ y, Bg.getD y 0 ≤ n + 1 := fun y => Nat.le_succ_of_le (h.hb y)
  have hee : ∀ y, En.getD y 0 ≤ n + 1 := fun y => Nat.le_succ_of_le (h.he y)
  have hsame : VF v (n + 1) W Bg En := ⟨h.lw, h.lb, h.le, h.wr, hle, hee, h.tm.same (fun _ h => h) (fun _ h => h) (fun _ => rfl) (fun _ => rfl)⟩
  have tp := fun (t : T) (y : Nat) => tx_put hI.ltx d3 t y
  -- one that stays open
  have hput : ∀ (t : T), (tx v x).ph = 1 → t.ph = 1 ∨ t.ph = 3 → t.bg = (tx v x).bg → t.en = (tx v x).en → Times (put v x t) (n + 1) (fun x => Bg.getD x 0) (fun x => En.getD x 0) := by
    intro t h1 h2 h3 h4
    refine h.tm.same (fun y hy => ?_) (fun y hy => ?_) (fun y => ?_) (fun y => ?_)
    · rw [tp] at hy
      by_cases e : y = x
      · rw [if_pos e] at hy; omega
      · rw [if_neg e] at hy; exact hy
    · rw [tp] at hy
      by_cases e : y = x
      · subst e; omega
      · rw [if_neg e] at hy; exact hy
    · rw [tp]
      by_cases e : y = x
      · subst e; rw [if_pos rfl, h3]
      · rw [if_neg e]
    · rw [tp]
      by_cases e : y = x
      · subst e; rw [if_pos rfl, h4]
      · rw [if_neg e]
  have hwk : ∀ (t : T), t.wrt = (tx v x).wrt → ∀ y, y < 5 → W.getD y 0 = (tx (put v x t) y).wrt := by
    intro t ht y hy
    rw [tp]
    by_cases e : y = x
    · subst e; rw [if_pos rfl, ht]; exact h.wr _ hy
    · rw [if_neg e]; exact h.wr _ hy
  unfold vstep
  simp only
  by_cases hk4 : k = 4
  · rw [if_pos hk4]
    by_cases hp : (tx v x).ph = 0
    · rw [if_neg (by omega)]
      refine ⟨fun _ => ?_, fun hh => absurd rfl hh⟩
      unfold fW fB fE
      simp only
      rw [if_neg (by omega), if_pos hk4, if_neg (by omega)]
      refine ⟨h.lw, by simpa using h.lb, h.le, hwk _ rfl, fun y => ?_, hee, fun y hy => ?_, fun y z hy hz hyz => ?_⟩
      · rw [getD_set_nat _ _ _ _ (by omega)]
        by_cases e : y = x
        · rw [if_pos e]; omega
        · rw [if_neg e]; exact hle y
      · rw [tp] at hy
        by_cases e : y = x
        · rw [if_pos e] at hy; cases hy
        · rw [if_neg e] at hy; exact Nat.lt_succ_of_lt (h.tm.1 y hy)
      · rw [tp] at hy
        by_cases e : y = x
        · rw [if_pos e] at hy; cases hy
        · rw [if_neg e] at hy
          dsimp only
          rw [getD_set_nat _ _ _ _ (by omega)]
          by_cases e2 : z = x
          · rw [if_pos e2]; exact h.tm.1 y hy
          · rw [if_neg e2]
            rw [tp, if_neg e2] at hz
            rw [tp, tp, if_neg e, if_neg e2] at hyz
            exact h.tm.2 y z hy hz hyz
    · rw [if_pos hp]
      exact ⟨fun hh => (by cases hh), fun _ => hsame⟩
  · rw [if_neg hk4]
    by_cases hp : (tx v x).ph = 1
    · rw [if_neg (by omega)]
      by_cases hk5 : k = 5
      · rw [if_pos hk5]
        by_cases hst : stale v x = true
        · rw [if_pos hst]
          exact ⟨fun hh => (by cases hh), fun _ => ⟨h.lw, h.lb, h.le, hwk _ rfl, hle, hee, hput _ hp (.inr rfl) rfl rfl⟩⟩
        · rw [if_neg hst]
          refine ⟨fun _ => ?_, fun hh => absurd rfl hh⟩
          unfold fW fB fE
          simp only
          rw [if_neg (by omega), if_neg hk4, if_pos hk5]
          have tc := fun (y : Nat) => tx_commit hI.ltx d3 y
          refine ⟨h.lw, h.lb, by simpa using h.le, fun y hy => ?_, hle, fun y => ?_, fun y hy => ?_, fun y z hy hz hyz => ?_⟩
          · rw [tc]
            by_cases e : y = x
            · subst e; rw [if_pos rfl]; exact h.wr _ hy
            · rw [if_neg e]; exact h.wr _ hy
          · rw [getD_set_nat _ _ _ _ (by omega)]
            by_cases e : y = x
            · rw [if_pos e]; omega
            · rw [if_neg e]; exact hee y
          · dsimp only
            rw [getD_set_nat _ _ _ _ (by omega)]
            by_cases e : y = x
            · rw [if_pos e]; omega
            · rw [if_neg e]
              rw [tc, if_neg e] at hy
              exact Nat.lt_succ_of_lt (h.tm.1 y hy)
          · have hbz : (tx (commit v x) z).bg = (tx v z).bg := by
              rw [tc]
              by_cases e : z = x
              · subst e; rw [if_pos rfl]
              · rw [if_neg e]
            rw [hbz] at hyz
            have hbn := hI.bgn z
            dsimp only
            rw [getD_set_nat _ _ _ _ (by omega)]
            by_cases e : y = x
            · rw [tc, if_pos e] at hyz
              have : v.now + 1 ≤ (tx v z).bg := hyz
              omega
            · rw [if_neg e]
              rw [tc, if_neg e] at hyz
              rw [tc, if_neg e] at hy
              refine h.tm.2 y z hy ?_ hyz
              rw [tc] at hz
              by_cases e2 : z = x
              · rw [e2, hp]; decide
              · rw [if_neg e2] at hz; exact hz
      · rw [if_neg hk5]
        by_cases hu : u = 1
        · rw [if_pos hu]
          refine ⟨fun _ => ?_, fun hh => absurd rfl hh⟩
          unfold fW fB fE
          simp only
          rw [if_pos ⟨by omega, hu⟩, if_neg hk4, if_neg hk5]
          refine ⟨by simpa using h.lw, h.lb, h.le, fun y hy => ?_, hle, hee, hput _ hp (.inl hp) rfl rfl⟩
          rw [getD_set_nat _ _ _ _ (by omega), tp]
          by_cases e : y = x
          · subst e; rw [if_pos rfl, if_pos rfl, h.wr _ hy]
          · rw [if_neg e, if_neg e]; exact h.wr _ hy
        · rw [if_neg hu]
          have hfe : fW (k, x, i, u) W = W ∧ fB (k, x, i, u) n Bg = Bg ∧ fE (k, x, i, u) n En = En := by
            unfold fW fB fE
            simp only
            rw [if_neg (by omega), if_neg hk4, if_neg hk5]
            exact ⟨rfl, rfl, rfl⟩
          rw [hfe.1, hfe.2.1, hfe.2.2]
          by_cases ht : (tx v x).wrt.testBit i = true
          · rw [if_pos ht]
            exact ⟨fun _ => hsame, fun hh => absurd rfl hh⟩
          · rw [if_neg ht]
            exact ⟨fun _ => ⟨h.lw, h.lb, h.le, hwk _ rfl, hle, hee, hput _ hp (.inl hp) rfl rfl⟩, fun hh => absurd rfl hh⟩
    · rw [if_pos hp]
      exact ⟨fun hh => (by cases hh), fun _ => hsame⟩
/-- of two that are committed none wrote what the other one wrote while both were open -/
theorem VF.first {v : V} {n : Nat} {W Bg En : List Nat} (hI : Inv v) (h : VF v n W Bg En) {a b : Nat} (ha : a < 5) (hb : b < 5) (hne : a ≠ b) (ca : (tx v a).ph = 2) (cb : (tx v b).ph = 2) (hw : W.getD a 0 &&& W.getD b 0 ≠ 0) (h1 : Bg.getD a 0 < En.getD b 0) (h2 : Bg.getD b 0 < En.getD a 0) : False := by
  obtain ⟨i, hi⟩ := Nat.exists_testBit_of_ne_zero hw
  rw [Nat.testBit_and, Bool.and_eq_true, h.wr a ha, h.wr b hb] at hi
  have hi4 : i < 4 := by
    rcases Nat.lt_or_ge i 4 with g | g
    · exact g
    · have h3 := Nat.ge_two_pow_of_testBit hi.1
      have h4 : 2 ^ 4 ≤ 2 ^ i := Nat.pow_le_pow_right (by omega) g
      have := hI.wlt a
      omega
  rcases h.tm.first hI hi4 hne ⟨ca, hi.1⟩ ⟨cb, hi.2⟩ with g | g
  · have g' : En.getD a 0 < Bg.getD b 0 := g
    omega
  · have g' : En.getD b 0 < Bg.getD a 0 := g
    omega
end Vw
end Go.Proofs.YtkindaadadggoaaDoor
