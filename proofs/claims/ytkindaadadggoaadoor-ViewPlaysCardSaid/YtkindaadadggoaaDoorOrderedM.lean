/- Plain words on schedules that are put one transaction behind the other, and that these are serial. No program is in sight. Conditions: none. -/
import Derived.Test.YtkindaadadggoaaDoorSchedM
import Derived.Test.YtkindaadadggoaaDoorRowM
namespace Go.Proofs.YtkindaadadggoaaDoor
namespace Sch
open Odr

/-- the places of a transaction's acts -/
def places (t : List N3) (x : Nat) : List Nat := (List.range t.length).filter fun i => decide ((t.getD i d3).1 = x)

/-- what is wrong with a row, and the places of all acts, transaction by transaction -/
def ordGo (t : List N3) : List Int → Nat → List Nat → Nat × List Nat
  | [], _, out => (0, out)
  | r :: rs, seen, out => if 0 ≤ r ∧ r ≤ 4 then (if seen.testBit r.toNat then (6, []) else ordGo t rs (seen ||| 2 ^ r.toNat) (out ++ places t r.toNat)) else (1, [])
def ordered (t : List N3) (row : List Int) : Nat × List Nat := if row.length = 5 then ordGo t row 0 [] else (3, [])

theorem ordGo_spec (t : List N3) : ∀ (rs : List Int) (seen : Nat) (out res : List Nat) (done : List Nat), ordGo t rs seen out = (0, res) → (∀ i, seen.testBit i = true ↔ i ∈ done) → done.Nodup → (∀ x ∈ done, x < 5) → out = done.flatMap (places t) →
    ∃ all : List Nat, all.Nodup ∧ (∀ x ∈ all, x < 5) ∧ all.length = done.length + rs.length ∧ res = all.flatMap (places t) := by
  intro rs
  induction rs with
  | nil =>
    intro seen out res done h hs hn hl ho
    rw [ordGo] at h
    simp only [Prod.mk.injEq, true_and] at h
    subst h
    exact ⟨done, hn, hl, by simp, ho⟩
  | cons r rs ih =>
    intro seen out res done h hs hn hl ho
    rw [ordGo] at h
    by_cases hr : 0 ≤ r ∧ r ≤ 4
    · rw [if_pos hr] at h
      by_cases hb : seen.testBit r.toNat = true
      · rw [if_pos hb] at h; cases h
      · rw [if_neg hb] at h
        have hni : r.toNat ∉ done := fun hm => hb ((hs _).2 hm)
        obtain ⟨all, h1, h2, h3, h4⟩ := ih _ _ res (done ++ [r.toNat]) h (fun j => by
          rw [Nat.testBit_or, Bool.or_eq_true, hs j, Nat.testBit_two_pow]
          simp [eq_comm]) (by
          rw [List.nodup_append]
          exact ⟨hn, by simp, fun a ha b hb => by simp at hb; subst hb; rintro rfl; exact hni ha⟩) (fun y hy => by
          rcases List.mem_append.1 hy with hy | hy
          · exact hl y hy
          · simp at hy; omega) (by rw [ho, List.flatMap_append]; simp)
        exact ⟨all, h1, h2, by rw [h3, List.length_append, List.length_cons]; simp; omega, h4⟩
    · rw [if_neg hr] at h; cases h

theorem ordered_spec {t : List N3} {row : List Int} {res : List Nat} (h : ordered t row = (0, res)) : ∃ all : List Nat, all.Nodup ∧ (∀ x ∈ all, x < 5) ∧ all.length = 5 ∧ res = all.flatMap (places t) := by
  unfold ordered at h
  by_cases hl : row.length = 5
  · rw [if_pos hl] at h
    have := ordGo_spec t row 0 [] res [] h (by simp) (by simp) (by simp) rfl
    simpa [hl] using this
  · rw [if_neg hl] at h; cases h

theorem ordGo_ok (t : List N3) : ∀ (r : List Nat) (seen : Nat) (out : List Nat), r.Nodup → (∀ x ∈ r, x < 5) → (∀ x ∈ r, seen.testBit x = false) →
    ordGo t (r.map fun x : Nat => (x : Int)) seen out = (0, out ++ r.flatMap (places t)) := by
  intro r
  induction r with
  | nil => intro seen out _ _ _; simp [ordGo]
  | cons x r ih =>
    intro seen out hn hl hs
    obtain ⟨h1, h2⟩ := List.nodup_cons.1 hn
    have hx := hl x (List.mem_cons_self ..)
    rw [List.map_cons, ordGo, if_pos (by omega), if_neg (by rw [Int.toNat_natCast, hs x (List.mem_cons_self ..)]; simp), Int.toNat_natCast,
      ih _ _ h2 (fun y hy => hl y (List.mem_cons_of_mem _ hy)) (fun y hy => by
        rw [Nat.testBit_or, hs y (List.mem_cons_of_mem _ hy), Nat.testBit_two_pow]
        simp
        rintro rfl
        exact h1 hy)]
    rw [List.flatMap_cons, List.append_assoc]
theorem ordered_ok {t : List N3} {r : List Nat} (hn : r.Nodup) (hl : ∀ x ∈ r, x < 5) (h5 : r.length = 5) : ordered t (r.map fun x : Nat => (x : Int)) = (0, r.flatMap (places t)) := by
  unfold ordered
  rw [if_pos (by simpa using h5), ordGo_ok t r 0 [] hn hl (by simp)]
  rfl

theorem eq_map_getD (t : List N3) : t = (List.range t.length).map fun i => t.getD i d3 := by
  apply List.ext_getElem (by simp)
  intro i h1 h2
  simp [List.getD_eq_getElem?_getD, List.getElem?_eq_getElem h1]

theorem map_places (t : List N3) (x : Nat) : (places t x).map (fun i => t.getD i d3) = t.filter fun a => decide (a.1 = x) := by
  conv => rhs; rw [eq_map_getD t]
  rw [List.filter_map]
  rfl
theorem map_ordered (t : List N3) (all : List Nat) : (all.flatMap (places t)).map (fun i => t.getD i d3) = all.flatMap fun x => t.filter fun a => decide (a.1 = x) := by
  rw [List.map_flatMap]
  congr 1
  funext x
  exact map_places t x

/-- one ahead of another one, in a list -/
def before (all : List Nat) (x y : Nat) : Prop := ∃ p q, ∃ (hp : p < all.length) (hq : q < all.length), all[p] = x ∧ all[q] = y ∧ p < q
theorem before.trans {all : List Nat} (hn : all.Nodup) {x y z : Nat} (h : before all x y) (g : before all y z) : before all x z := by
  obtain ⟨p, q, hp, hq, h1, h2, h3⟩ := h
  obtain ⟨p', q', hp', hq', h1', h2', h3'⟩ := g
  have : q = p' := (List.getElem?_inj hq hn).1 (by rw [List.getElem?_eq_getElem hq, List.getElem?_eq_getElem hp', h2, h1'])
  subst this
  exact ⟨p, q', hp, hq', h1, h2', by omega⟩
theorem before.irr {all : List Nat} (hn : all.Nodup) {x : Nat} (h : before all x x) : False := by
  obtain ⟨p, q, hp, hq, h1, h2, h3⟩ := h
  have : p = q := (List.getElem?_inj hp hn).1 (by rw [List.getElem?_eq_getElem hp, List.getElem?_eq_getElem hq, h1, h2])
  omega

/-- where acts stand as their transactions do in a list, edges go on in that list -/
theorem edges_before {u : List N3} (hu : ∀ a ∈ u, Ok3 a) {all : List Nat} (hp : u.Pairwise fun a b => a.1 = b.1 ∨ before all a.1 b.1) {x y : Nat} (h : rel (edges u) x y = true) : before all x y := by
  obtain ⟨j, hj, i, hij, hc, h1, h2⟩ := (rel_edges hu x y).1 h
  have hi : i < u.length := by omega
  have := List.pairwise_iff_getElem.1 hp i j hi hj hij
  have e1 : u.getD i d3 = u[i] := by simp [List.getD_eq_getElem?_getD, List.getElem?_eq_getElem hi]
  have e2 : u.getD j d3 = u[j] := by simp [List.getD_eq_getElem?_getD, List.getElem?_eq_getElem hj]
  rw [e1, e2] at hc
  rw [e1] at h1
  rw [e2] at h2
  rcases this with h | h
  · unfold clash at hc
    rw [h] at hc
    simp at hc
  · rw [← h1, ← h2]; exact h

theorem irr_of_before {u : List N3} (hu : ∀ a ∈ u, Ok3 a) {all : List Nat} (hn : all.Nodup) (hp : u.Pairwise fun a b => a.1 = b.1 ∨ before all a.1 b.1) (x : Nat) : rel (closed (edges u)) x x = false := by
  by_cases g : rel (closed (edges u)) x x = true
  · rw [closed_iff] at g
    exact (before.irr hn (g (before all) (fun a b h => edges_before hu hp h) (fun a b c => before.trans hn))).elim
  · simpa using g

theorem pairwise_ordered (t : List N3) (all : List Nat) : (all.flatMap fun x => t.filter fun a => decide (a.1 = x)).Pairwise fun a b => a.1 = b.1 ∨ before all a.1 b.1 := by
  rw [List.pairwise_flatMap]
  constructor
  · intro x _
    rw [List.pairwise_iff_getElem]
    intro i j hi hj _
    have h1 := (List.mem_filter.1 (List.getElem_mem hi)).2
    have h2 := (List.mem_filter.1 (List.getElem_mem hj)).2
    simp at h1 h2
    exact .inl (h1.trans h2.symm)
  · rw [List.pairwise_iff_getElem]
    intro p q hp hq hpq a ha b hb
    have h1 := (List.mem_filter.1 ha).2
    have h2 := (List.mem_filter.1 hb).2
    simp at h1 h2
    exact .inr ⟨p, q, hp, hq, h1.symm, h2.symm, hpq⟩

theorem length_ordered {t : List N3} (ht : ∀ a ∈ t, Ok3 a) {all : List Nat} (hn : all.Nodup) (hall : ∀ x, x < 5 → x ∈ all) : (all.flatMap fun x => t.filter fun a => decide (a.1 = x)).length = t.length := by
  induction t with
  | nil => exact congrArg List.length (List.flatMap_eq_nil_iff.2 (fun _ _ => rfl))
  | cons a t ih =>
    have := ih (fun b hb => ht b (List.mem_cons_of_mem _ hb))
    rw [List.length_cons, ← this]
    have ha := hall a.1 (ht a (List.mem_cons_self ..)).1
    clear ih this hall
    induction all with
    | nil => simp at ha
    | cons x all ih2 =>
      obtain ⟨h1, h2⟩ := List.nodup_cons.1 hn
      rw [List.flatMap_cons, List.flatMap_cons, List.length_append, List.length_append, List.filter_cons]
      by_cases hx : a.1 = x
      · have hno : ∀ (l : List Nat), x ∉ l → (l.flatMap fun y => (a :: t).filter fun b => decide (b.1 = y)).length = (l.flatMap fun y => t.filter fun b => decide (b.1 = y)).length := by
          intro l hl
          induction l with
          | nil => rfl
          | cons y l ih3 =>
            have hy : ¬ a.1 = y := fun e => hl (by rw [← hx, e]; exact List.mem_cons_self ..)
            rw [List.flatMap_cons, List.flatMap_cons, List.length_append, List.length_append, List.filter_cons, ih3 (fun h => hl (List.mem_cons_of_mem _ h))]
            simp [hy]
        rw [hno all h1]
        simp [hx]
        omega
      · have ha' : a.1 ∈ all := by
          rcases List.mem_cons.1 ha with h | h
          · exact absurd h hx
          · exact h
        rw [ih2 h2 ha']
        simp [hx]
        omega

/-- one transaction behind the other it is serial -/
theorem ordered_serial {t : List N3} (ht : ∀ a ∈ t, Ok3 a) {row : List Int} {res : List Nat} (h : ordered t row = (0, res)) :
    res.length = t.length ∧ (∀ i ∈ res, i < t.length) ∧ (∀ a ∈ res.map (fun i => t.getD i d3), Ok3 a) ∧ (Rw.row (edges (res.map fun i => t.getD i d3))).isSome = true := by
  obtain ⟨all, h1, h2, h3, rfl⟩ := ordered_spec h
  have hok : ∀ a ∈ (all.flatMap (places t)).map (fun i => t.getD i d3), Ok3 a := by
    intro a ha
    obtain ⟨i, _, rfl⟩ := List.mem_map.1 ha
    exact getD_ok ht i
  have hmap := map_ordered t all
  refine ⟨?_, ?_, hok, ?_⟩
  · rw [← length_ordered ht h1 (nodup_all h1 h2 h3), ← hmap, List.length_map]
  · intro i hi
    obtain ⟨x, _, hx⟩ := List.mem_flatMap.1 hi
    have := (List.mem_filter.1 hx).1
    simpa using this
  · rw [Rw.row_isSome_iff (fits_edges hok)]
    rw [hmap] at hok ⊢
    exact irr_of_before hok h1 (pairwise_ordered t all)

end Sch
end Go.Proofs.YtkindaadadggoaaDoor
