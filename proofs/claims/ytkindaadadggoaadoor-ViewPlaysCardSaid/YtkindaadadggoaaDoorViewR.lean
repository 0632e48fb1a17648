/- Plain words on a store's row: each reads of the last one ahead of it that wrote that. No program is in sight. Conditions: none. -/
import Derived.Test.YtkindaadadggoaaDoorViewM
import Derived.Test.YtkindaadadggoaaDoorOrderedM
namespace Go.Proofs.YtkindaadadggoaaDoor
namespace Vw
open Odr Sch

theorem Inv.lt5 {v : V} (h : Inv v) {x : Nat} (hx : (tx v x).ph ≠ 0) : x < 5 := by
  rcases Nat.lt_or_ge x 5 with g | g
  · exact g
  · exfalso
    have : tx v x = t0 := by
      unfold tx
      rw [List.getD_eq_getElem?_getD, List.getElem?_eq_none (by rw [h.ltx]; exact g)]; rfl
    rw [this] at hx; exact hx rfl

theorem seenTo_spec {l : List Ver} (hs : l.Pairwise (fun a b => a.2 < b.2)) (hh : l[0]? = some dv) (m : Nat) : ∀ n, 1 ≤ n → n ≤ l.length → seenTo l m n ∈ l ∧ (seenTo l m n).2 ≤ m ∧ ∀ k, (hk : k < l.length) → k < n → l[k].2 ≤ m → l[k].2 ≤ (seenTo l m n).2 := by
  intro n
  induction n with
  | zero => intro h; omega
  | succ n ih =>
    intro _ hn
    rw [seenTo]
    have e : l.getD n dv = l[n] := getD_at (by omega)
    rw [e]
    split
    · rename_i hm
      refine ⟨List.getElem_mem _, hm, fun k hk hkn _ => ?_⟩
      by_cases h : k = n
      · subst h; exact Nat.le_refl _
      · exact Nat.le_of_lt (List.pairwise_iff_getElem.1 hs k n hk (by omega) (by omega))
    · rename_i hm
      by_cases h0 : n = 0
      · subst h0
        exfalso
        have : l[0] = dv := by
          rw [List.getElem?_eq_getElem (by omega)] at hh
          exact Option.some.inj hh
        rw [this] at hm
        exact hm (Nat.zero_le _)
      · obtain ⟨h1, h2, h3⟩ := ih (by omega) (by omega)
        refine ⟨h1, h2, fun k hk hkn hkm => ?_⟩
        by_cases h : k = n
        · subst h; exact absurd hkm hm
        · exact h3 k hk (by omega) hkm
theorem seen_spec {l : List Ver} (hs : l.Pairwise (fun a b => a.2 < b.2)) (hh : l[0]? = some dv) (m : Nat) : seen l m ∈ l ∧ (seen l m).2 ≤ m ∧ ∀ p ∈ l, p.2 ≤ m → p.2 ≤ (seen l m).2 := by
  have hl : 1 ≤ l.length := (List.getElem?_eq_some_iff.1 hh).1
  obtain ⟨h1, h2, h3⟩ := seenTo_spec hs hh m l.length hl (Nat.le_refl _)
  refine ⟨h1, h2, fun p hp hpm => ?_⟩
  obtain ⟨k, hk, rfl⟩ := List.mem_iff_getElem.1 hp
  exact h3 k hk hk hpm

/-- of a row's first n the last one that is such a one -/
def lastTo (W : Nat → Bool) (r : List Nat) : Nat → Int
  | 0 => -1
  | n + 1 => if W (r.getD n 0) = true then ((r.getD n 0 : Nat) : Int) else lastTo W r n
theorem lastTo_none {W : Nat → Bool} {r : List Nat} {n : Nat} (h : ∀ k, k < n → W (r.getD k 0) = false) : lastTo W r n = -1 := by
  induction n with
  | zero => rfl
  | succ n ih =>
    rw [lastTo, h n (by omega)]
    exact ih (fun k hk => h k (by omega))
theorem lastTo_at {W : Nat → Bool} {r : List Nat} {n k : Nat} (hk : k < n) (hw : W (r.getD k 0) = true) (h : ∀ q, k < q → q < n → W (r.getD q 0) = false) : lastTo W r n = ((r.getD k 0 : Nat) : Int) := by
  induction n with
  | zero => omega
  | succ n ih =>
    rw [lastTo]
    by_cases e : k = n
    · subst e; rw [if_pos hw]
    · rw [h n (by omega) (by omega)]
      exact ih (by omega) (fun q h1 h2 => h q h1 (by omega))

theorem nodup_inj {r : List Nat} (hn : r.Nodup) {p q : Nat} {hp : p < r.length} {hq : q < r.length} (h : r[p] = r[q]) : p = q := by
  rcases Nat.lt_trichotomy p q with g | g | g
  · exact absurd h (List.pairwise_iff_getElem.1 hn p q hp hq g)
  · exact g
  · exact absurd h.symm (List.pairwise_iff_getElem.1 hn q p hq hp g)
theorem before_of_rel {e r : List Nat} (ht : Rw.Topo e r) {a b : Nat} (hb : b ∈ r) (h : rel e a b = true) : before r a b := by
  obtain ⟨k, hk, ek⟩ := List.mem_iff_getElem.1 hb
  have := ht k hk a (by rw [ek]; exact h)
  obtain ⟨m, hm, em⟩ := List.mem_iff_getElem.1 this
  rw [List.length_take] at hm
  rw [List.getElem_take] at em
  exact ⟨m, k, by omega, hk, em, ek, by omega⟩
theorem before_at {r : List Nat} (hn : r.Nodup) {p q : Nat} (hp : p < r.length) (hq : q < r.length) (h : before r r[p] r[q]) : p < q := by
  obtain ⟨p', q', hp', hq', e1, e2, hlt⟩ := h
  have h1 := nodup_inj hn e1
  have h2 := nodup_inj hn e2
  omega

/-- in a row those that wrote an item stand as they wrote it -/
theorem chain_before {v : V} (h : Inv v) {i : Nat} (hi : i < 4) {e r : List Nat} (hn : r.Nodup) (ht : Rw.Topo e r) (hall : ∀ x, x < 5 → x ∈ r) (he : ∀ a b, Beh v a b → rel e a b = true) {p : Nat} {a : Nat} (ha : ((verl v i).getD p dv).1 = (a : Int)) :
    ∀ (d b : Nat), p + d + 1 < (verl v i).length → ((verl v i).getD (p + d + 1) dv).1 = (b : Int) → before r a b := by
  intro d
  induction d with
  | zero =>
    intro b hl hb
    exact before_of_rel ht (hall b (h.at_ hi hl hb).1) (he a b ⟨i, hi, .inl ⟨p, hl, ha, hb⟩⟩)
  | succ d ih =>
    intro b hl hb
    have hk : p + d + 1 < (verl v i).length := by omega
    have hc : ∃ c : Nat, ((verl v i).getD (p + d + 1) dv).1 = (c : Int) := by
      rw [getD_at hk]
      rcases h.mem i hi _ (List.getElem_mem hk) with g | ⟨x, _, g2, _, _⟩
      · exfalso
        have h0 := h.hed i hi
        have hl0 : 0 < (verl v i).length := by omega
        rw [List.getElem?_eq_getElem hl0] at h0
        have hs := List.pairwise_iff_getElem.1 (h.srt i hi) 0 (p + d + 1) hl0 hk (by omega)
        rw [g] at hs
        exact absurd hs (Nat.not_lt_zero _)
      · exact ⟨x, by rw [g2]⟩
    obtain ⟨c, hc⟩ := hc
    have h1 := ih c hk hc
    have h2 := before_of_rel ht (hall b (h.at_ hi hl hb).1) (he c b ⟨i, hi, .inl ⟨p + d + 1, hl, hc, hb⟩⟩)
    exact h1.trans hn h2

/-- IN A ROW EACH READS THE SAME -/
theorem row_reads {v : V} (h : Inv v) {e r : List Nat} (hl : r.length = 5) (hn : r.Nodup) (ht : Rw.Topo e r) (hall : ∀ x, x < 5 → x ∈ r) (he : ∀ a b, Beh v a b → rel e a b = true) {t i p : Nat} (hi : i < 4) (hc : (tx v t).ph = 2) (hr : (tx v t).rds.testBit i = true) (hp : p < 5) (hpt : r.getD p 0 = t) :
    lastTo (fun x => decide ((tx v x).ph = 2) && (tx v x).wrt.testBit i) r p = (seen (verl v i) (tx v t).bg).1 := by
  have hg : ∀ q, q < 5 → r.getD q 0 = r[q]! ∧ True := fun q _ => ⟨by simp [List.getD_eq_getElem?_getD, List.getElem!_eq_getElem?_getD], trivial⟩
  have hgq : ∀ q (hq : q < 5), r.getD q 0 = r[q]'(by omega) := by
    intro q hq
    rw [List.getD_eq_getElem?_getD, List.getElem?_eq_getElem (by omega)]; rfl
  clear hg
  have hpe := hgq p hp
  obtain ⟨s1, s2, s3⟩ := seen_spec (h.srt i hi) (h.hed i hi) (tx v t).bg
  have hct := h.com t hc
  -- one that wrote it stands ahead just if it had ended
  have hlate : ∀ q, q < p → Wrote v (r.getD q 0) i → (tx v (r.getD q 0)).en ≤ (tx v t).bg := by
    intro q hq hw
    rcases Nat.lt_or_ge (tx v t).bg (tx v (r.getD q 0)).en with g | g
    · exfalso
      have hne : t ≠ r.getD q 0 := by
        rw [← hpt, hpe, hgq q (by omega)]
        intro e'
        have := nodup_inj hn e'
        omega
      have hb := before_of_rel ht (hall _ (h.lt5 (by rw [hw.1]; decide))) (he t _ ⟨i, hi, .inr (.inr ⟨hne, ⟨hc, hr⟩, hw, g⟩)⟩)
      rw [← hpt, hpe, hgq q (by omega)] at hb
      have := before_at hn (by omega) (by omega) hb
      omega
    · exact g
  have hW : ∀ x, ((decide ((tx v x).ph = 2) && (tx v x).wrt.testBit i) = true) ↔ Wrote v x i := by
    intro x
    unfold Wrote
    simp
  rcases h.mem i hi _ s1 with g | ⟨y, y1, y2, y3, y4⟩
  · rw [g]
    refine lastTo_none fun q hq => ?_
    by_cases hw : Wrote v (r.getD q 0) i
    · exfalso
      have h1 := hlate q hq hw
      have h2 := s3 _ (h.all i hi _ (h.lt5 (by rw [hw.1]; decide)) hw.1 hw.2) h1
      rw [g] at h2
      have h3 := (h.com _ hw.1).1
      have h2' : (tx v (r.getD q 0)).en ≤ 0 := h2
      omega
    · have := mt (hW _).1 hw
      simpa using this
  · have hey : (tx v y).en ≤ (tx v t).bg := by rw [y2] at s2; exact s2
    have hyt : y ≠ t := by rintro rfl; omega
    have hwy : Wrote v y i := ⟨y3, y4⟩
    have hb := before_of_rel ht (hall t (h.lt5 (by rw [hc]; decide))) (he y t ⟨i, hi, .inr (.inl ⟨hyt, ⟨hc, hr⟩, hwy, hey⟩)⟩)
    obtain ⟨k, p', hk, hp', ek, ep, hkp⟩ := hb
    have hpp : p' = p := by
      have e1 : r[p'] = r[p]'(by omega) := by rw [ep, ← hpt, hpe]
      exact nodup_inj hn e1
    subst hpp
    have ek' : r.getD k 0 = y := by rw [hgq k (by omega), ek]
    rw [y2]
    show _ = (y : Int)
    rw [← ek']
    refine lastTo_at hkp ((hW _).2 (by rw [ek']; exact hwy)) fun q hq1 hq2 => ?_
    by_cases hw : Wrote v (r.getD q 0) i
    · exfalso
      have h1 := hlate q hq2 hw
      have hmem := h.all i hi _ (h.lt5 (by rw [hw.1]; decide)) hw.1 hw.2
      have h2 := s3 _ hmem h1
      rw [y2] at h2
      have h2' : (tx v (r.getD q 0)).en ≤ (tx v y).en := h2
      -- it was written ahead of that
      obtain ⟨ka, hka, eka⟩ := List.mem_iff_getElem.1 hmem
      obtain ⟨ky, hky, eky⟩ := List.mem_iff_getElem.1 (h.all i hi y y1 y3 y4)
      have hlt : ka < ky := by
        rcases Nat.lt_trichotomy ka ky with g | g | g
        · exact g
        · exfalso
          subst g
          rw [eka] at eky
          have e1 : ((r.getD q 0 : Nat) : Int) = (y : Int) := congrArg Prod.fst eky
          have e2 : r.getD q 0 = r.getD k 0 := by rw [ek']; omega
          rw [hgq q (by omega), hgq k (by omega)] at e2
          have := nodup_inj hn e2
          omega
        · exfalso
          have := List.pairwise_iff_getElem.1 (h.srt i hi) ky ka hky hka g
          rw [eka, eky] at this
          have h5 : (tx v y).en < (tx v (r.getD q 0)).en := this
          omega
      have hbf := chain_before h hi hn ht hall he (p := ka) (a := r.getD q 0) (by rw [getD_at hka, eka]) (ky - ka - 1) y (by omega) (by rw [show ka + (ky - ka - 1) + 1 = ky by omega, getD_at hky, eky])
      rw [hgq q (by omega), ← ek] at hbf
      have := before_at hn (by omega) (by omega) hbf
      omega
    · have := mt (hW _).1 hw
      simpa using this

/-- at which deed one began and ended: what the store's own time says -/
def Times (v : V) (n : Nat) (bgn endn : Nat → Nat) : Prop :=
  (∀ x, (tx v x).ph = 2 → endn x < n) ∧ ∀ x y, (tx v x).ph = 2 → (tx v y).ph ≠ 0 → (tx v x).en ≤ (tx v y).bg → endn x < bgn y
/-- OF TWO AT ONCE THE FIRST ONE WINS -/
theorem Times.first {v : V} (h : Inv v) {n : Nat} {bgn endn : Nat → Nat} (ht : Times v n bgn endn) {i : Nat} (hi : i < 4) {x y : Nat} (hne : x ≠ y) (hx : Wrote v x i) (hy : Wrote v y i) : endn x < bgn y ∨ endn y < bgn x := by
  rcases h.win i hi x y hne hx.1 hx.2 hy.1 hy.2 with g | g
  · exact .inl (ht.2 x y hx.1 (by rw [hy.1]; decide) g)
  · exact .inr (ht.2 y x hy.1 (by rw [hx.1]; decide) g)

end Vw
end Go.Proofs.YtkindaadadggoaaDoor
