/- Plain words on what a gate skips: who wrote an item last is the greatest of all who would have. No program is in sight. Conditions: none. -/
import Derived.Test.YtkindaadadggoaaDoorPriorM
namespace Go.Proofs.YtkindaadadggoaaDoor
namespace Gt
open Odr Sch

/-- one more than who wrote an item last (0: nobody) -/
def lastBy (item : Nat) (l : List N3) : Nat := l.foldl (fun x a => if a.2.1 = item ∧ a.2.2 = 1 then a.1 + 1 else x) 0
theorem lastBy_nil (item : Nat) : lastBy item [] = 0 := rfl
theorem lastBy_snoc (item : Nat) (l : List N3) (a : N3) : lastBy item (l ++ [a]) = if a.2.1 = item ∧ a.2.2 = 1 then a.1 + 1 else lastBy item l := by
  unfold lastBy
  rw [List.foldl_append]
  rfl
theorem lastBy_take (item : Nat) (l : List N3) {k : Nat} (hk : k < l.length) : lastBy item (l.take (k + 1)) = if (l.getD k d3).2.1 = item ∧ (l.getD k d3).2.2 = 1 then (l.getD k d3).1 + 1 else lastBy item (l.take k) := by
  rw [List.take_succ_eq_append_getElem hk, lastBy_snoc]
  rw [List.getD_eq_getElem?_getD, List.getElem?_eq_getElem hk]
  rfl
/-- what always holds of who wrote last -/
def Lasts (g : G) : Prop := g.wr.length = 4 ∧ ∀ i, i < 4 → g.wr.getD i 0 = lastBy i g.acts
theorem lasts0 : Lasts g0 := by
  refine ⟨rfl, fun i hi => ?_⟩
  have : i = 0 ∨ i = 1 ∨ i = 2 ∨ i = 3 := by omega
  rcases this with rfl | rfl | rfl | rfl <;> rfl
theorem lasts_pass (skips : Bool) {g : G} (hg : Lasts g) {a : N3} (ha : Ok3 a) : Lasts (pass skips g a).1 := by
  obtain ⟨h1, h2⟩ := hg
  unfold pass
  split
  · exact ⟨h1, h2⟩
  split
  · exact ⟨h1, h2⟩
  split
  · exact ⟨h1, h2⟩
  split
  · rename_i hw
    split
    · exact ⟨h1, h2⟩
    · refine ⟨by simpa using h1, fun i hi => ?_⟩
      rw [getD_set, lastBy_snoc]
      by_cases e : a.2.1 = i
      · rw [if_pos ⟨e, by rw [h1]; exact ha.2.1⟩, if_pos ⟨e, hw⟩]
      · rw [if_neg (fun h => e h.1), if_neg (fun h => e h.1), h2 i hi]
  · rename_i hw
    refine ⟨h1, fun i hi => ?_⟩
    rw [lastBy_snoc, if_neg (fun h => hw h.2), h2 i hi]
/-- at a gate that skips: a write that is let by was done just if nobody greater had written the item -/
theorem pass_skips {g : G} {a : N3} (h : (pass true g a).2.2 = 0) :
    (a.2.2 = 1 → ((pass true g a).2.1 = true ∧ g.wr.getD a.2.1 0 ≤ a.1 + 1 ∧ (pass true g a).1.wr = g.wr.set a.2.1 (a.1 + 1)) ∨ ((pass true g a).2.1 = false ∧ a.1 + 1 < g.wr.getD a.2.1 0 ∧ (pass true g a).1 = g)) ∧
    (a.2.2 ≠ 1 → (pass true g a).2.1 = true ∧ (pass true g a).1.wr = g.wr) := by
  unfold pass at h ⊢
  split at h
  · cases h
  rw [if_neg (by assumption)]
  split at h
  · cases h
  rw [if_neg (by assumption)]
  split at h
  · cases h
  rw [if_neg (by assumption)]
  constructor
  · intro hw
    rw [if_pos hw]
    by_cases hl : late g a = true
    · rw [if_pos hl]
      exact .inr ⟨rfl, by unfold late at hl; simpa using hl, rfl⟩
    · rw [if_neg hl]
      exact .inl ⟨rfl, by unfold late at hl; simpa using hl, rfl⟩
  · intro hw
    rw [if_neg hw]
    exact ⟨rfl, rfl⟩
/-- what went wrong left who wrote as it was -/
theorem pass_wrong {skips : Bool} {g : G} {a : N3} (h : (pass skips g a).2.2 ≠ 0) : (pass skips g a).1.wr = g.wr := by
  unfold pass at h ⊢
  split
  · rfl
  split
  · rfl
  split
  · rfl
  rename_i h1 h2 h3
  rw [if_neg h1, if_neg h2, if_neg h3] at h
  split at h
  · split at h <;> exact absurd rfl h
  · exact absurd rfl h
end Gt
end Go.Proofs.YtkindaadadggoaaDoor
