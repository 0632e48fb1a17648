/- Plain mathematics: DILWORTH, as few rows as the most that stand side by side; and a search that finds them. No program is in sight. Conditions: none. -/
import Derived.Test.YtpicjikjinkkpaaDoorOrd
namespace Go.Proofs.YtpicjikjinkkpaaDoor
namespace Dil
open Classical

theorem nodup_le {T : List Nat} : ∀ {S : List Nat}, T.Nodup → (∀ x ∈ T, x ∈ S) → T.length ≤ S.length := by
  induction T with
  | nil => intro S _ _; exact Nat.zero_le _
  | cons x T ih =>
    intro S h hs
    obtain ⟨h1, h2⟩ := List.nodup_cons.1 h
    have hx := hs x (List.mem_cons_self ..)
    have := ih (S := S.erase x) h2 (fun y hy => (List.mem_erase_of_ne (fun (e : y = x) => h1 (e ▸ hy))).2 (hs y (List.mem_cons_of_mem _ hy)))
    rw [List.length_erase_of_mem hx] at this
    have hl : 0 < S.length := List.length_pos_of_mem hx
    rw [List.length_cons]
    omega
/-- k that differ, of k: all of them -/
theorem hits {T : List Nat} {f : Nat → Nat} {k : Nat} (hn : T.Nodup) (hl : T.length = k) (hf : ∀ x ∈ T, f x < k) (hi : ∀ x ∈ T, ∀ y ∈ T, f x = f y → x = y) {c : Nat} (hc : c < k) : ∃ y ∈ T, f y = c := by
  by_cases h : ∃ y ∈ T, f y = c
  · exact h
  · exfalso
    have hm : (T.map f).Nodup := by
      rw [List.Nodup, List.pairwise_map]
      exact hn.imp_of_mem fun {a b} ha hb hab e => hab (hi a ha b hb e)
    have h1 : (c :: T.map f).Nodup := List.nodup_cons.2 ⟨fun hm => by
      obtain ⟨y, hy, e⟩ := List.mem_map.1 hm
      exact h ⟨y, hy, e⟩, hm⟩
    have := nodup_le (S := List.range k) h1 (fun x hx => by
      rcases List.mem_cons.1 hx with rfl | hx
      · exact List.mem_range.2 hc
      · obtain ⟨y, hy, rfl⟩ := List.mem_map.1 hx
        exact List.mem_range.2 (hf y hy))
    rw [List.length_cons, List.length_map, List.length_range] at this
    omega

section
variable (R : Nat → Nat → Prop)
def Anti (T : List Nat) : Prop := T.Nodup ∧ ∀ x ∈ T, ∀ y ∈ T, ¬ R x y
variable {R}
theorem exists_top (hirr : ∀ x, ¬ R x x) (htr : ∀ x y z, R x y → R y z → R x z) : ∀ (S : List Nat), S ≠ [] → ∃ a ∈ S, ∀ y ∈ S, ¬ R a y := by
  intro S
  induction S with
  | nil => intro h; exact absurd rfl h
  | cons a S ih =>
    intro _
    by_cases h0 : S = []
    · subst h0
      exact ⟨a, List.mem_cons_self .., fun y hy => by rw [List.mem_singleton.1 hy]; exact hirr a⟩
    · obtain ⟨m, hm, hmx⟩ := ih h0
      by_cases h : R m a
      · refine ⟨a, List.mem_cons_self .., fun y hy => ?_⟩
        rcases List.mem_cons.1 hy with rfl | hy
        · exact hirr _
        · exact fun hr => hmx y hy (htr _ _ _ h hr)
      · refine ⟨m, List.mem_cons_of_mem _ hm, fun y hy => ?_⟩
        rcases List.mem_cons.1 hy with rfl | hy
        · exact h
        · exact hmx y hy
theorem exists_width (S : List Nat) : ∀ n, (∀ T, Anti R T → (∀ x ∈ T, x ∈ S) → T.length ≤ n) → ∃ k, k ≤ n ∧ (∃ T, Anti R T ∧ (∀ x ∈ T, x ∈ S) ∧ T.length = k) ∧ ∀ T, Anti R T → (∀ x ∈ T, x ∈ S) → T.length ≤ k := by
  intro n
  induction n with
  | zero => intro h; exact ⟨0, Nat.le_refl _, ⟨[], ⟨List.nodup_nil, fun x hx => by simp at hx⟩, fun x hx => by simp at hx, rfl⟩, h⟩
  | succ n ih =>
    intro h
    by_cases g : ∃ T, Anti R T ∧ (∀ x ∈ T, x ∈ S) ∧ T.length = n + 1
    · exact ⟨n + 1, Nat.le_refl _, g, h⟩
    · obtain ⟨k, h1, h2, h3⟩ := ih (fun T hT hs => by
        have := h T hT hs
        rcases Nat.lt_or_ge n T.length with g' | g'
        · exact absurd ⟨T, hT, hs, by omega⟩ g
        · exact g')
      exact ⟨k, by omega, h2, h3⟩

/-- DILWORTH -/
theorem dilworth (hirr : ∀ x, ¬ R x x) (htr : ∀ x y z, R x y → R y z → R x z) : ∀ (m : Nat) (S : List Nat) (k : Nat), S.length ≤ m → S.Nodup → (∀ T, Anti R T → (∀ x ∈ T, x ∈ S) → T.length ≤ k) →
    ∃ f : Nat → Nat, (∀ x ∈ S, f x < k) ∧ ∀ x ∈ S, ∀ y ∈ S, f x = f y → x ≠ y → R x y ∨ R y x := by
  intro m
  induction m with
  | zero =>
    intro S k hm _ _
    have : S = [] := List.length_eq_zero_iff.1 (by omega)
    subst this
    exact ⟨fun _ => 0, fun x hx => by simp at hx, fun x hx => by simp at hx⟩
  | succ m ih =>
    intro S k hm hS hk
    by_cases h0 : S = []
    · subst h0
      exact ⟨fun _ => 0, fun x hx => by simp at hx, fun x hx => by simp at hx⟩
    obtain ⟨a, haS, hamax⟩ := exists_top hirr htr S h0
    have hS' : (S.erase a).Nodup := hS.erase a
    have hsub : ∀ x, x ∈ S.erase a → x ∈ S := fun x hx => List.mem_of_mem_erase hx
    have hin : ∀ x, x ∈ S → x ≠ a → x ∈ S.erase a := fun x hx hne => (List.mem_erase_of_ne hne).2 hx
    have hna : a ∉ S.erase a := fun h => by
      rw [List.Nodup.mem_erase_iff hS] at h
      exact h.1 rfl
    have hlen : (S.erase a).length ≤ m := by
      rw [List.length_erase_of_mem haS]; omega
    obtain ⟨k', hk'k, ⟨T0, hT0, hT0s, hT0l⟩, hk'⟩ := exists_width (R := R) (S.erase a) k (fun T hT hs => hk T hT (fun x hx => hsub x (hs x hx)))
    obtain ⟨f, hf1, hf2⟩ := ih (S.erase a) k' hlen hS' hk'
    rcases Nat.lt_or_ge k' k with hlt | hge
    · refine ⟨fun x => if x = a then k' else f x, fun x hx => ?_, fun x hx y hy e hne => ?_⟩
      · by_cases e : x = a
        · simp only [if_pos e]; exact hlt
        · simp only [if_neg e]
          have := hf1 x (hin x hx e)
          omega
      · by_cases ex : x = a
        · by_cases ey : y = a
          · exact absurd (ex.trans ey.symm) hne
          · simp only [if_pos ex, if_neg ey] at e
            have := hf1 y (hin y hy ey)
            omega
        · by_cases ey : y = a
          · simp only [if_neg ex, if_pos ey] at e
            have := hf1 x (hin x hx ex)
            omega
          · simp only [if_neg ex, if_neg ey] at e
            exact hf2 x (hin x hx ex) y (hin y hy ey) e hne
    · obtain rfl : k' = k := by omega
      -- an antichain of as many has one of each row
      have hone : ∀ T, Anti R T → (∀ x ∈ T, x ∈ S.erase a) → T.length = k' → ∀ c, c < k' → ∃ y ∈ T, f y = c := by
        intro T hT hs hl c hc
        refine hits hT.1 hl (fun x hx => hf1 x (hs x hx)) (fun x hx y hy e => ?_) hc
        by_cases hxy : x = y
        · exact hxy
        · rcases hf2 x (hs x hx) y (hs y hy) e hxy with h | h
          · exact absurd h (hT.2 x hx y hy)
          · exact absurd h (hT.2 y hy x hx)
      let Gd : Nat → Prop := fun x => ∃ T, Anti R T ∧ (∀ x ∈ T, x ∈ S.erase a) ∧ T.length = k' ∧ x ∈ T
      have hX : ∀ c, ∃ x, c < k' → x ∈ S.erase a ∧ f x = c ∧ Gd x ∧ ∀ y, y ∈ S.erase a → f y = c → Gd y → y = x ∨ R y x := by
        intro c
        by_cases hc : c < k'
        · obtain ⟨y0, hy0, ey0⟩ := hone T0 hT0 hT0s hT0l c hc
          have hmem : y0 ∈ (S.erase a).filter (fun x => decide (f x = c ∧ Gd x)) := by
            rw [List.mem_filter]
            exact ⟨hT0s y0 hy0, decide_eq_true ⟨ey0, T0, hT0, hT0s, hT0l, hy0⟩⟩
          obtain ⟨x, hx, hmx⟩ := exists_top hirr htr ((S.erase a).filter (fun x => decide (f x = c ∧ Gd x))) (fun e => by rw [e] at hmem; simp at hmem)
          rw [List.mem_filter] at hx
          obtain ⟨hx1, hx2⟩ := hx
          have hx2 := of_decide_eq_true hx2
          refine ⟨x, fun _ => ⟨hx1, hx2.1, hx2.2, fun y hy hfy hgy => ?_⟩⟩
          by_cases e : y = x
          · exact .inl e
          · right
            rcases hf2 y hy x hx1 (hfy.trans hx2.1.symm) e with h | h
            · exact h
            · exact absurd h (hmx y (List.mem_filter.2 ⟨hy, decide_eq_true ⟨hfy, hgy⟩⟩))
        · exact ⟨0, fun h => absurd h hc⟩
      let X : Nat → Nat := fun c => Classical.choose (hX c)
      have hXs : ∀ c, c < k' → X c ∈ S.erase a ∧ f (X c) = c ∧ Gd (X c) ∧ ∀ y, y ∈ S.erase a → f y = c → Gd y → y = X c ∨ R y (X c) := fun c hc => Classical.choose_spec (hX c) hc
      have hXX : ∀ c d, c < k' → d < k' → ¬ R (X c) (X d) := by
        intro c d hc hd hr
        obtain ⟨_, _, ⟨T, hT, hTs, hTl, hTm⟩, _⟩ := hXs d hd
        obtain ⟨y, hy, ey⟩ := hone T hT hTs hTl c hc
        rcases (hXs c hc).2.2.2 y (hTs y hy) ey ⟨T, hT, hTs, hTl, hy⟩ with h | h
        · rw [← h] at hr; exact hT.2 y hy _ hTm hr
        · exact hT.2 y hy _ hTm (htr _ _ _ h hr)
      have hA : ¬ Anti R (a :: (List.range k').map X) := by
        intro hA
        have := hk _ hA (fun x hx => by
          rcases List.mem_cons.1 hx with rfl | hx
          · exact haS
          · obtain ⟨c, hc, rfl⟩ := List.mem_map.1 hx
            exact hsub _ (hXs c (List.mem_range.1 hc)).1)
        rw [List.length_cons, List.length_map, List.length_range] at this
        omega
      have hac : ∃ c, c < k' ∧ R (X c) a := by
        by_cases g : ∃ c, c < k' ∧ R (X c) a
        · exact g
        · exfalso
          apply hA
          refine ⟨List.nodup_cons.2 ⟨fun h => ?_, ?_⟩, fun x hx y hy hr => ?_⟩
          · obtain ⟨c, hc, e⟩ := List.mem_map.1 h
            have := (hXs c (List.mem_range.1 hc)).1
            rw [e] at this
            exact hna this
          · rw [List.Nodup, List.pairwise_map]
            refine (List.nodup_range (n := k')).imp_of_mem fun {c d} hc hd hcd e => hcd ?_
            have h1 := (hXs c (List.mem_range.1 hc)).2.1
            have h2 := (hXs d (List.mem_range.1 hd)).2.1
            rw [← h1, ← h2, e]
          · rcases List.mem_cons.1 hx with rfl | hx
            · have hyS : y ∈ S := by
                rcases List.mem_cons.1 hy with rfl | hy
                · exact haS
                · obtain ⟨c, hc, rfl⟩ := List.mem_map.1 hy
                  exact hsub _ (hXs c (List.mem_range.1 hc)).1
              exact hamax y hyS hr
            · obtain ⟨c, hc, rfl⟩ := List.mem_map.1 hx
              rcases List.mem_cons.1 hy with rfl | hy
              · exact g ⟨c, List.mem_range.1 hc, hr⟩
              · obtain ⟨d, hd, rfl⟩ := List.mem_map.1 hy
                exact hXX c d (List.mem_range.1 hc) (List.mem_range.1 hd) hr
      obtain ⟨c, hc, hca⟩ := hac
      let K : Nat → Prop := fun x => x = a ∨ (x ∈ S.erase a ∧ f x = c ∧ (x = X c ∨ R x (X c)))
      have hsub2 : ∀ x, x ∈ (S.erase a).filter (fun x => decide (¬ K x)) → x ∈ S.erase a ∧ ¬ K x := fun x hx => by
        rw [List.mem_filter] at hx
        exact ⟨hx.1, of_decide_eq_true hx.2⟩
      obtain ⟨g, hg1, hg2⟩ := ih ((S.erase a).filter (fun x => decide (¬ K x))) (k' - 1) (Nat.le_trans (List.length_filter_le _ _) hlen) (hS'.filter _) (fun T hT hs => by
        have hs' : ∀ x ∈ T, x ∈ S.erase a := fun x hx => (hsub2 x (hs x hx)).1
        have h1 := hk' T hT hs'
        by_cases hl : T.length = k'
        · exfalso
          obtain ⟨y, hy, ey⟩ := hone T hT hs' hl c hc
          exact (hsub2 y (hs y hy)).2 (.inr ⟨hs' y hy, ey, (hXs c hc).2.2.2 y (hs' y hy) ey ⟨T, hT, hs', hl, hy⟩⟩)
        · omega)
      have hKin : ∀ x, x ∈ S → ¬ K x → x ∈ (S.erase a).filter (fun x => decide (¬ K x)) := fun x hx hn => by
        rw [List.mem_filter]
        exact ⟨hin x hx (fun e => hn (.inl e)), decide_eq_true hn⟩
      refine ⟨fun x => if K x then k' - 1 else g x, fun x hx => ?_, fun x hx y hy e hne => ?_⟩
      · by_cases h : K x
        · simp only [if_pos h]; omega
        · simp only [if_neg h]
          have := hg1 x (hKin x hx h)
          omega
      · by_cases hx' : K x
        · by_cases hy' : K y
          · rcases hx' with rfl | ⟨x1, x2, x3⟩
            · rcases hy' with rfl | ⟨y1, y2, y3⟩
              · exact absurd rfl hne
              · right
                rcases y3 with rfl | y3
                · exact hca
                · exact htr _ _ _ y3 hca
            · rcases hy' with rfl | ⟨y1, y2, y3⟩
              · left
                rcases x3 with rfl | x3
                · exact hca
                · exact htr _ _ _ x3 hca
              · exact hf2 x x1 y y1 (x2.trans y2.symm) hne
          · simp only [if_pos hx', if_neg hy'] at e
            have := hg1 y (hKin y hy hy')
            omega
        · by_cases hy' : K y
          · simp only [if_neg hx', if_pos hy'] at e
            have := hg1 x (hKin x hx hx')
            omega
          · simp only [if_neg hx', if_neg hy'] at e
            exact hg2 x (hKin x hx hx') y (hKin y hy hy') e hne
end
end Dil
end Go.Proofs.YtpicjikjinkkpaaDoor
