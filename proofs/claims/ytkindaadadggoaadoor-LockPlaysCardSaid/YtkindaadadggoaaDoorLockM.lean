/- Plain words on transactions that lock what they use. No program is in sight. Conditions: none. -/
import Derived.Test.YtkindaadadggoaaDoorSchedM
import Derived.Test.YtkindaadadggoaaDoorRowM
import Derived.Test.YtkindaadadggoaaDoorBits
namespace Go.Proofs.YtkindaadadggoaaDoor
namespace Lk
open Odr Sch

/-- of each item who reads it (as bits), who writes it (one more than it); who freed something; what each waits for (an item, whether to write); what was done -/
structure L where
  rdr : List Nat
  wtr : List Nat
  shr : Nat
  wants : List (Option (Nat × Nat))
  acts : List N3
def l0 : L := ⟨[0, 0, 0, 0], [0, 0, 0, 0], 0, [none, none, none, none, none], []⟩

def wbit (n : Nat) : Nat := if 0 < n then 2 ^ (n - 1) else 0
/-- who holds what stands against a lock -/
def blk (l : L) (tx it own : Nat) : Nat := diff (wbit (l.wtr.getD it 0) ||| (if own = 1 then l.rdr.getD it 0 else 0)) (2 ^ tx)
theorem testBit_wbit (n y : Nat) : (wbit n).testBit y = decide (n = y + 1) := by
  unfold wbit
  split
  · rw [Nat.testBit_two_pow, Bool.eq_iff_iff]; simp; omega
  · rw [Nat.zero_testBit, Bool.eq_iff_iff]; simp; omega
theorem testBit_blk (l : L) (tx it own y : Nat) : (blk l tx it own).testBit y = ((decide (l.wtr.getD it 0 = y + 1) || (decide (own = 1) && (l.rdr.getD it 0).testBit y)) && !decide (y = tx)) := by
  unfold blk
  rw [testBit_diff, Nat.testBit_or, testBit_wbit, Nat.testBit_two_pow]
  have e : decide (tx = y) = decide (y = tx) := by rw [Bool.eq_iff_iff]; simp [eq_comm]
  rw [e]
  by_cases h : own = 1
  · simp [h]
  · simp [h]

/-- a deed of small numbers: its kind, its transaction, its item, whether it writes -/
abbrev N4 := Nat × Nat × Nat × Nat
def Ok4 (d : N4) : Prop := d.1 < 4 ∧ d.2.1 < 5 ∧ d.2.2.1 < 4 ∧ (d.1 = 3 → d.2.2.2 < 2)
def lockOf (l : L) (d : N4) : L :=
  if d.1 = 1 then { l with wants := l.wants.set d.2.1 none, wtr := l.wtr.set d.2.2.1 (d.2.1 + 1) }
  else { l with wants := l.wants.set d.2.1 none, rdr := l.rdr.set d.2.2.1 (l.rdr.getD d.2.2.1 0 ||| 2 ^ d.2.1) }
def freed (l : L) (d : N4) : L :=
  { l with rdr := l.rdr.set d.2.2.1 (diff (l.rdr.getD d.2.2.1 0) (2 ^ d.2.1)), wtr := (if l.wtr.getD d.2.2.1 0 = d.2.1 + 1 then l.wtr.set d.2.2.1 0 else l.wtr), shr := l.shr ||| 2 ^ d.2.1 }
def mine (l : L) (d : N4) : Bool := decide (l.wtr.getD d.2.2.1 0 = d.2.1 + 1)
def reads (l : L) (d : N4) : Bool := (l.rdr.getD d.2.2.1 0).testBit d.2.1
/-- a deed: the table then, what is wrong -/
def lstep (l : L) (d : N4) : L × Nat :=
  if d.1 < 2 then
    (if l.shr.testBit d.2.1 = true then (l, 7)
     else if blk l d.2.1 d.2.2.1 d.1 ≠ 0 then ({ l with wants := l.wants.set d.2.1 (some (d.2.2.1, d.1)) }, 6)
     else (lockOf l d, 0))
  else if d.1 = 2 then
    (if reads l d = false ∧ mine l d = false then (l, 5) else (freed l d, 0))
  else
    (if mine l d = false ∧ (d.2.2.2 = 1 ∨ reads l d = false) then (l, 5)
     else if l.acts.length = 24 then (l, 4)
     else ({ l with acts := l.acts ++ [(d.2.1, d.2.2.1, d.2.2.2)] }, 0))

/-- shapes and bounds -/
def Inv (l : L) : Prop := l.rdr.length = 4 ∧ l.wtr.length = 4 ∧ l.wants.length = 5 ∧ l.shr < 32 ∧ (∀ i, l.rdr.getD i 0 < 32) ∧ (∀ i, l.wtr.getD i 0 ≤ 5) ∧ l.acts.length ≤ 24 ∧ (∀ a ∈ l.acts, Ok3 a) ∧
  (∀ t i o, l.wants.getD t none = some (i, o) → i < 4 ∧ o < 2) ∧
  (∀ i x y, l.wtr.getD i 0 = x + 1 → (l.rdr.getD i 0).testBit y = true → y = x)
theorem inv0 : Inv l0 := by
  have h4 : ∀ i, ([0, 0, 0, 0] : List Nat).getD i 0 = 0 := by
    intro i
    match i with
    | 0 => rfl
    | 1 => rfl
    | 2 => rfl
    | 3 => rfl
    | i + 4 => rfl
  refine ⟨rfl, rfl, rfl, by decide, fun i => ?_, fun i => ?_, by decide, by simp [l0], fun t i o h => ?_, fun i x y h => ?_⟩
  · show ([0, 0, 0, 0] : List Nat).getD i 0 < 32; rw [h4]; omega
  · show ([0, 0, 0, 0] : List Nat).getD i 0 ≤ 5; rw [h4]; omega
  · have : ([none, none, none, none, none] : List (Option (Nat × Nat))).getD t none = none := by
      match t with
      | 0 => rfl
      | 1 => rfl
      | 2 => rfl
      | 3 => rfl
      | 4 => rfl
      | t + 5 => rfl
    have h' : ([none, none, none, none, none] : List (Option (Nat × Nat))).getD t none = some (i, o) := h
    rw [this] at h'; cases h'
  · have h' : ([0, 0, 0, 0] : List Nat).getD i 0 = x + 1 := h
    rw [h4] at h'; omega

theorem blk_zero {l : L} {tx it own : Nat} (h : blk l tx it own = 0) (y : Nat) (hy : y ≠ tx) : l.wtr.getD it 0 ≠ y + 1 ∧ (own = 1 → (l.rdr.getD it 0).testBit y = false) := by
  have := testBit_blk l tx it own y
  rw [h, Nat.zero_testBit] at this
  simp [hy] at this
  exact ⟨this.1, this.2⟩

theorem inv_step {l : L} (h : Inv l) {d : N4} (hd : Ok4 d) : Inv (lstep l d).1 := by
  obtain ⟨h1, h2, h3, h4, h5, h6, h7, h8, h9, h10⟩ := h
  obtain ⟨d1, d2, d3, d4⟩ := hd
  have hI : Inv l := ⟨h1, h2, h3, h4, h5, h6, h7, h8, h9, h10⟩
  have hp : 2 ^ d.2.1 < 2 ^ 5 := Nat.pow_lt_pow_right (by omega) d2
  unfold lstep
  split
  · rename_i hk
    split
    · exact hI
    split
    · refine ⟨h1, h2, by simpa using h3, h4, h5, h6, h7, h8, fun t i o ht => ?_, h10⟩
      simp only [getD_set] at ht
      split at ht
      · injection ht with ht
        injection ht with h11 h12
        exact ⟨by omega, by omega⟩
      · exact h9 t i o ht
    · rename_i hb
      have hb0 : blk l d.2.1 d.2.2.1 d.1 = 0 := by
        by_cases e : blk l d.2.1 d.2.2.1 d.1 = 0
        · exact e
        · exact absurd e hb
      have hw9 : ∀ t i o, (l.wants.set d.2.1 none).getD t none = some (i, o) → i < 4 ∧ o < 2 := by
        intro t i o ht
        rw [getD_set] at ht
        split at ht
        · cases ht
        · exact h9 t i o ht
      unfold lockOf
      split
      · rename_i hk1
        refine ⟨h1, by simpa using h2, by simpa using h3, h4, h5, fun i => ?_, h7, h8, hw9, fun i x y hx hy => ?_⟩
        · simp only [getD_set]
          split
          · omega
          · exact h6 i
        · simp only [getD_set] at hx
          split at hx
          · rename_i hc
            obtain ⟨rfl, _⟩ := hc
            obtain rfl : d.2.1 = x := by omega
            by_cases e : y = d.2.1
            · exact e
            · rw [(blk_zero hb0 y e).2 hk1] at hy; cases hy
          · exact h10 i x y hx hy
      · rename_i hk1
        refine ⟨by simpa using h1, h2, by simpa using h3, h4, fun i => ?_, h6, h7, h8, hw9, fun i x y hx hy => ?_⟩
        · simp only [getD_set]
          split
          · exact Nat.or_lt_two_pow (n := 5) (h5 _) hp
          · exact h5 i
        · simp only [getD_set] at hy
          split at hy
          · rename_i hc
            obtain ⟨rfl, _⟩ := hc
            rw [Nat.testBit_or, Nat.testBit_two_pow] at hy
            simp only [Bool.or_eq_true, decide_eq_true_eq] at hy
            by_cases e : x = d.2.1
            · rcases hy with hy | hy
              · exact h10 _ x y hx hy
              · omega
            · exact absurd hx (blk_zero hb0 x e).1
          · exact h10 i x y hx hy
  split
  · split
    · exact hI
    · unfold freed
      refine ⟨by simpa using h1, ?_, h3, Nat.or_lt_two_pow (n := 5) h4 hp, fun i => ?_, fun i => ?_, h7, h8, h9, fun i x y hx hy => ?_⟩
      · show (if _ then _ else _ : List Nat).length = 4
        split
        · simpa using h2
        · exact h2
      · simp only [getD_set]
        split
        · exact diff_lt (n := 5) _ (h5 _)
        · exact h5 i
      · show (if _ then _ else _ : List Nat).getD i 0 ≤ 5
        split
        · rw [getD_set]
          split
          · omega
          · exact h6 i
        · exact h6 i
      · have hx' : l.wtr.getD i 0 = x + 1 := by
          have : (if l.wtr.getD d.2.2.1 0 = d.2.1 + 1 then l.wtr.set d.2.2.1 0 else l.wtr).getD i 0 = x + 1 := hx
          split at this
          · rw [getD_set] at this
            split at this
            · omega
            · exact this
          · exact this
        have hy' : (l.rdr.getD i 0).testBit y = true := by
          simp only [getD_set] at hy
          split at hy
          · rename_i hc
            obtain ⟨rfl, _⟩ := hc
            rw [testBit_diff] at hy
            simp only [Bool.and_eq_true] at hy
            exact hy.1
          · exact hy
        exact h10 i x y hx' hy'
  · split
    · exact hI
    split
    · exact hI
    · rename_i hne
      refine ⟨h1, h2, h3, h4, h5, h6, ?_, fun a ha => ?_, h9, h10⟩
      · rw [List.length_append]; simp; omega
      · rcases List.mem_append.1 ha with ha | ha
        · exact h8 a ha
        · simp at ha; subst ha; exact ⟨d2, d3, d4 (by omega)⟩

/-- does one hold what an act asks? -/
def Suff (l : L) (x i w : Nat) : Prop := l.wtr.getD i 0 = x + 1 ∨ (w = 0 ∧ (l.rdr.getD i 0).testBit x = true)

/-- two phases: F tells when one freed something first -/
def Two (F : Nat → Nat) (T : Nat) (l : L) : Prop :=
  (∀ x, l.shr.testBit x = true → F x < T) ∧
  (∀ a ∈ l.acts, l.shr.testBit a.1 = true ∨ Suff l a.1 a.2.1 a.2.2) ∧
  (∀ a ∈ l.acts, ∀ y w, Suff l y a.2.1 w → y ≠ a.1 → 0 < a.2.2 + w → l.shr.testBit a.1 = true ∧ (l.shr.testBit y = true → F a.1 < F y)) ∧
  l.acts.Pairwise (fun a b => clash a b = true → l.shr.testBit a.1 = true ∧ (l.shr.testBit b.1 = true → F a.1 < F b.1))
theorem two0 : Two (fun _ => 0) 0 l0 :=
  ⟨fun x h => by simp [l0] at h, fun a h => by simp [l0] at h, fun a h => by simp [l0] at h, by simp [l0]⟩

theorem suff_excl {l : L} (h : Inv l) {x y i w v : Nat} (h1 : Suff l x i w) (h2 : Suff l y i v) (hne : x ≠ y) (hw : 0 < w + v) : False := by
  obtain ⟨_, _, _, _, _, _, _, _, _, h10⟩ := h
  rcases h1 with h1 | ⟨hw0, h1⟩
  · rcases h2 with h2 | ⟨_, h2⟩
    · omega
    · exact hne (h10 i x y h1 h2).symm
  · rcases h2 with h2 | ⟨hv0, _⟩
    · exact hne (h10 i y x h2 h1)
    · omega

/-- what is held behind a deed that is no lock was held ahead of it -/
theorem two_step {F : Nat → Nat} {T : Nat} {l : L} (hI : Inv l) (h : Two F T l) {d : N4} (hd : Ok4 d) : ∃ F' T', Two F' T' (lstep l d).1 := by
  obtain ⟨t1, t2, t3, t4⟩ := h
  have hT : Two F T l := ⟨t1, t2, t3, t4⟩
  have hI' := inv_step hI hd
  obtain ⟨d1, d2, d3, d4⟩ := hd
  obtain ⟨h1, h2, h3, h4, h5, h6, h7, h8, h9, h10⟩ := hI
  unfold lstep at hI' ⊢
  by_cases hk : d.1 < 2
  · rw [if_pos hk] at hI' ⊢
    by_cases hs : l.shr.testBit d.2.1 = true
    · rw [if_pos hs]; exact ⟨F, T, hT⟩
    · rw [if_neg hs] at hI' ⊢
      by_cases hb : blk l d.2.1 d.2.2.1 d.1 = 0
      · rw [if_neg (by simpa using hb)] at hI' ⊢
        -- what one holds then one held, or it is the new lock
        have hnew : ∀ y i w, Suff (lockOf l d) y i w → Suff l y i w ∨ (y = d.2.1 ∧ i = d.2.2.1 ∧ (w = 0 ∨ d.1 = 1)) := by
          intro y i w hS
          unfold lockOf Suff at hS
          split at hS
          · rename_i hk1
            simp only [getD_set] at hS
            rcases hS with hS | ⟨hw, hS⟩
            · split at hS
              · rename_i hc
                exact .inr ⟨by omega, hc.1.symm, .inr hk1⟩
              · exact .inl (.inl hS)
            · exact .inl (.inr ⟨hw, hS⟩)
          · simp only [getD_set] at hS
            rcases hS with hS | ⟨hw, hS⟩
            · exact .inl (.inl hS)
            · split at hS
              · rename_i hc
                rw [Nat.testBit_or, Nat.testBit_two_pow] at hS
                simp only [Bool.or_eq_true, decide_eq_true_eq] at hS
                rcases hS with hS | hS
                · exact .inl (.inr ⟨hw, hc.1 ▸ hS⟩)
                · exact .inr ⟨hS.symm, hc.1.symm, .inl hw⟩
              · exact .inl (.inr ⟨hw, hS⟩)
        have hold : ∀ y i w, Suff l y i w → Suff (lockOf l d) y i w ∨ y = d.2.1 ∨ False := by
          intro y i w hS
          by_cases hy : y = d.2.1
          · exact .inr (.inl hy)
          · left
            unfold lockOf Suff
            split
            · rename_i hk1
              simp only [getD_set]
              rcases hS with hS | ⟨hw, hS⟩
              · left
                split
                · rename_i hc
                  rw [← hc.1] at hS
                  exact absurd hS (blk_zero hb y hy).1
                · exact hS
              · exact .inr ⟨hw, hS⟩
            · simp only [getD_set]
              rcases hS with hS | ⟨hw, hS⟩
              · exact .inl hS
              · right
                refine ⟨hw, ?_⟩
                split
                · rename_i hc
                  rw [Nat.testBit_or, hc.1, hS]; rfl
                · exact hS
        have hself : ∀ i w, Suff l d.2.1 i w → Suff (lockOf l d) d.2.1 i w := by
          intro i w hS
          unfold lockOf Suff
          split
          · simp only [getD_set]
            rcases hS with hS | ⟨hw, hS⟩
            · left
              split
              · rfl
              · exact hS
            · exact .inr ⟨hw, hS⟩
          · simp only [getD_set]
            rcases hS with hS | ⟨hw, hS⟩
            · exact .inl hS
            · right
              refine ⟨hw, ?_⟩
              split
              · rename_i hc
                rw [Nat.testBit_or, hc.1, hS]; rfl
              · exact hS
        have eshr : (lockOf l d).shr = l.shr := by unfold lockOf; split <;> rfl
        have eacts : (lockOf l d).acts = l.acts := by unfold lockOf; split <;> rfl
        refine ⟨F, T, ?_⟩
        unfold Two
        simp only [eshr, eacts]
        refine ⟨t1, fun a ha => ?_, fun a ha y w hS hne hw => ?_, t4⟩
        · rcases t2 a ha with h | h
          · exact .inl h
          · right
            by_cases hy : a.1 = d.2.1
            · rw [hy] at h ⊢; exact hself _ _ h
            · rcases hold _ _ _ h with h | h | h
              · exact h
              · exact absurd h hy
              · exact h.elim
        · rcases hnew y _ w hS with hS | ⟨rfl, e, hw1⟩
          · exact t3 a ha y w hS hne hw
          · refine ⟨?_, fun hc => absurd hc hs⟩
            rcases t2 a ha with h | h
            · exact h
            · exfalso
              rw [e] at h
              rcases h with h | ⟨hw0, h⟩
              · exact (blk_zero hb a.1 (fun e' => hne e'.symm)).1 h
              · rcases hw1 with hw1 | hw1
                · omega
                · rw [(blk_zero hb a.1 (fun e' => hne e'.symm)).2 hw1] at h; cases h
      · rw [if_pos hb]; exact ⟨F, T, hT⟩
  · rw [if_neg hk] at hI' ⊢
    by_cases hk2 : d.1 = 2
    · rw [if_pos hk2] at hI' ⊢
      by_cases hc : reads l d = false ∧ mine l d = false
      · rw [if_pos hc]; exact ⟨F, T, hT⟩
      · rw [if_neg hc] at hI' ⊢
        -- F is new for one that frees for the first time
        let F' : Nat → Nat := fun x => if x = d.2.1 ∧ l.shr.testBit d.2.1 = false then T else F x
        have hbit : ∀ x, (l.shr ||| 2 ^ d.2.1).testBit x = (l.shr.testBit x || decide (x = d.2.1)) := by
          intro x
          rw [Nat.testBit_or, Nat.testBit_two_pow]
          congr 1
          rw [Bool.eq_iff_iff]; simp [eq_comm]
        have hF : ∀ x, l.shr.testBit x = true → F' x = F x := by
          intro x hx
          show (if _ then _ else _) = _
          rw [if_neg]
          rintro ⟨rfl, h⟩
          rw [hx] at h; cases h
        have hshrink : ∀ y i w, Suff (freed l d) y i w → Suff l y i w := by
          intro y i w hS
          unfold freed Suff at hS
          rcases hS with hS | ⟨hw, hS⟩
          · left
            have : (if l.wtr.getD d.2.2.1 0 = d.2.1 + 1 then l.wtr.set d.2.2.1 0 else l.wtr).getD i 0 = y + 1 := hS
            split at this
            · rw [getD_set] at this
              split at this
              · omega
              · exact this
            · exact this
          · right
            refine ⟨hw, ?_⟩
            simp only [getD_set] at hS
            split at hS
            · rename_i hc
              rw [testBit_diff, hc.1] at hS
              simp only [Bool.and_eq_true] at hS
              exact hS.1
            · exact hS
        have hkeep : ∀ y i w, y ≠ d.2.1 → Suff l y i w → Suff (freed l d) y i w := by
          intro y i w hy hS
          unfold freed Suff
          rcases hS with hS | ⟨hw, hS⟩
          · left
            show (if l.wtr.getD d.2.2.1 0 = d.2.1 + 1 then l.wtr.set d.2.2.1 0 else l.wtr).getD i 0 = y + 1
            split
            · rename_i hc
              rw [getD_set]
              split
              · rename_i hc2
                rw [hc2.1] at hc
                omega
              · exact hS
            · exact hS
          · right
            refine ⟨hw, ?_⟩
            simp only [getD_set]
            split
            · rename_i hc
              rw [testBit_diff, hc.1, hS, Nat.testBit_two_pow]
              simp
              exact fun e => hy e.symm
            · exact hS
        have hord : ∀ x y, l.shr.testBit x = true → (l.shr.testBit y = true → F x < F y) → ((l.shr ||| 2 ^ d.2.1).testBit y = true → F' x < F' y) := by
          intro x y hx hxy hy
          rw [hF x hx]
          by_cases hys : l.shr.testBit y = true
          · rw [hF y hys]; exact hxy hys
          · rw [hbit] at hy
            simp only [Bool.or_eq_true, decide_eq_true_eq] at hy
            rcases hy with hy | rfl
            · exact absurd hy hys
            · have : F' d.2.1 = T := by
                show (if _ then _ else _) = _
                rw [if_pos ⟨rfl, by simpa using hys⟩]
              rw [this]; exact t1 x hx
        refine ⟨F', T + 1, fun x hx => ?_, fun a ha => ?_, fun a ha y w hS hne hw => ?_, ?_⟩
        · have hx' : (l.shr ||| 2 ^ d.2.1).testBit x = true := hx
          by_cases hxs : l.shr.testBit x = true
          · rw [hF x hxs]; have := t1 x hxs; omega
          · show (if _ then _ else _) < _
            split
            · omega
            · rename_i hc
              rw [hbit] at hx'
              simp only [Bool.or_eq_true, decide_eq_true_eq] at hx'
              rcases hx' with hx' | rfl
              · exact absurd hx' hxs
              · exact absurd ⟨rfl, by simpa using hxs⟩ hc
        · by_cases hy : a.1 = d.2.1
          · left
            show (l.shr ||| 2 ^ d.2.1).testBit a.1 = true
            rw [hbit, hy]; simp
          · rcases t2 a ha with h | h
            · left
              show (l.shr ||| 2 ^ d.2.1).testBit a.1 = true
              rw [hbit, h]; rfl
            · exact .inr (hkeep _ _ _ hy h)
        · obtain ⟨g1, g2⟩ := t3 a ha y w (hshrink _ _ _ hS) hne hw
          exact ⟨(by show (l.shr ||| 2 ^ d.2.1).testBit a.1 = true; rw [hbit, g1]; rfl), hord _ _ g1 g2⟩
        · refine t4.imp fun {a b} hab hcl => ?_
          obtain ⟨g1, g2⟩ := hab hcl
          exact ⟨(by show (l.shr ||| 2 ^ d.2.1).testBit a.1 = true; rw [hbit, g1]; rfl), hord _ _ g1 g2⟩
    · rw [if_neg hk2] at hI' ⊢
      by_cases hc : mine l d = false ∧ (d.2.2.2 = 1 ∨ reads l d = false)
      · rw [if_pos hc]; exact ⟨F, T, hT⟩
      · rw [if_neg hc] at hI' ⊢
        by_cases hl : l.acts.length = 24
        · rw [if_pos hl]; exact ⟨F, T, hT⟩
        · rw [if_neg hl] at hI' ⊢
          have hmy : Suff l d.2.1 d.2.2.1 d.2.2.2 := by
            by_cases hm : mine l d = true
            · exact .inl (by simpa [mine] using hm)
            · right
              have hm' : mine l d = false := by simpa using hm
              have h2 : ¬ (d.2.2.2 = 1 ∨ reads l d = false) := fun h => hc ⟨hm', h⟩
              have hw := d4 (by omega)
              refine ⟨by omega, ?_⟩
              cases hr : reads l d
              · exact absurd (.inr hr) h2
              · exact hr
          refine ⟨F, T, t1, fun a ha => ?_, fun a ha y w hS hne hw => ?_, ?_⟩
          · rcases List.mem_append.1 ha with ha | ha
            · exact t2 a ha
            · simp at ha; subst ha; exact .inr hmy
          · rcases List.mem_append.1 ha with ha | ha
            · exact t3 a ha y w hS hne hw
            · simp at ha
              subst ha
              exact (suff_excl ⟨h1, h2, h3, h4, h5, h6, h7, h8, h9, h10⟩ hmy hS (fun e => hne e.symm) hw).elim
          · rw [List.pairwise_append]
            refine ⟨t4, by simp, fun a ha b hb hcl => ?_⟩
            simp at hb
            subst hb
            unfold clash at hcl
            simp only [Bool.and_eq_true, bne_iff_ne, beq_iff_eq, decide_eq_true_eq] at hcl
            obtain ⟨c1, c2, c3⟩ := hcl
            rw [← c2] at hmy
            exact t3 a ha _ _ hmy (fun e => c1 e.symm) c3

/-- ESWARAN, GRAY, LORIE, TRAIGER: two phases are enough -/
theorem row_of_two {F : Nat → Nat} {T : Nat} {l : L} (hI : Inv l) (h : Two F T l) : ∃ r, Rw.row (edges l.acts) = some r := by
  obtain ⟨t1, _, _, t4⟩ := h
  obtain ⟨_, _, _, _, _, _, _, h8, _, _⟩ := hI
  refine Rw.row_of_irr fun i => ?_
  have hlt : ∀ x y, rel (edges l.acts) x y = true → (if l.shr.testBit x = true then F x else T) < (if l.shr.testBit y = true then F y else T) := by
    intro x y hxy
    obtain ⟨j, hj, i, hi, hc, rfl, rfl⟩ := (rel_edges h8 x y).1 hxy
    have hp := List.pairwise_iff_getElem.1 t4 i j (by omega) hj hi
    have e1 : l.acts.getD i d3 = l.acts[i] := by simp [List.getD_eq_getElem?_getD, List.getElem?_eq_getElem (show i < l.acts.length by omega)]
    have e2 : l.acts.getD j d3 = l.acts[j] := by simp [List.getD_eq_getElem?_getD, List.getElem?_eq_getElem hj]
    rw [e1, e2] at hc ⊢
    obtain ⟨g1, g2⟩ := hp hc
    rw [if_pos g1]
    split
    · rename_i hy; exact g2 hy
    · exact t1 _ g1
  by_cases g : rel (closed (edges l.acts)) i i = true
  · rw [closed_iff] at g
    have := g (fun x y => (if l.shr.testBit x = true then F x else T) < (if l.shr.testBit y = true then F y else T)) (fun a b h => hlt a b h) (fun a b c h1 h2 => Nat.lt_trans h1 h2)
    exact absurd this (Nat.lt_irrefl _)
  · simpa using g

end Lk
end Go.Proofs.YtkindaadadggoaaDoor
