/- Plain mathematics of the reference's closing of a relation: it is the closed relation. No program is in sight. Conditions: none. -/
import Derived.Test.YtpicjikjinkkpaaDoorCnt
namespace Go.Proofs.YtpicjikjinkkpaaDoor
namespace Odr

/-- the reference: whoever is in a set brings those behind it -/
def rstep (l : List Nat) (s j : Nat) : Nat := if s.testBit j then s ||| l.getD j 0 else s
def rto (l : List Nat) (s : Nat) : Nat → Nat
  | 0 => s
  | j + 1 => rstep l (rto l s j) j
def rround (l : List Nat) (s : Nat) : Nat := rto l s l.length
def rounds (l : List Nat) (s : Nat) : Nat → Nat
  | 0 => s
  | k + 1 => rround l (rounds l s k)
def rclosed (l : List Nat) : List Nat := (List.range l.length).map fun i => rounds l (l.getD i 0) l.length

theorem rstep_mono {l : List Nat} {s j x : Nat} (h : s.testBit x = true) : (rstep l s j).testBit x = true := by
  unfold rstep; split
  · rw [Nat.testBit_or, h]; rfl
  · exact h
theorem rto_mono {l : List Nat} {s m x : Nat} (h : s.testBit x = true) : (rto l s m).testBit x = true := by
  induction m with
  | zero => exact h
  | succ m ih => exact rstep_mono ih
theorem rto_has {l : List Nat} {s m j x : Nat} (hj : j < m) (h : s.testBit j = true) (hx : rel l j x = true) : (rto l s m).testBit x = true := by
  induction m with
  | zero => omega
  | succ m ih =>
    by_cases hjm : j < m
    · exact rstep_mono (ih hjm)
    · obtain rfl : j = m := by omega
      rw [rto, rstep, if_pos (rto_mono h), Nat.testBit_or]
      unfold rel at hx
      rw [hx]; simp
theorem rto_sound {l : List Nat} {P : Nat → Prop} {s : Nat} (hs : ∀ x, s.testBit x = true → P x) (hP : ∀ j x, P j → rel l j x = true → P x) (m : Nat) : ∀ x, (rto l s m).testBit x = true → P x := by
  induction m with
  | zero => exact hs
  | succ m ih =>
    intro x hx
    rw [rto, rstep] at hx
    split at hx
    · rename_i hm
      rw [Nat.testBit_or, Bool.or_eq_true] at hx
      rcases hx with hx | hx
      · exact ih x hx
      · exact hP m x (ih m hm) hx
    · exact ih x hx
theorem rounds_sound {l : List Nat} {P : Nat → Prop} {s : Nat} (hs : ∀ x, s.testBit x = true → P x) (hP : ∀ j x, P j → rel l j x = true → P x) (k : Nat) : ∀ x, (rounds l s k).testBit x = true → P x := by
  induction k with
  | zero => exact hs
  | succ k ih => exact rto_sound ih hP _
theorem rounds_mono {l : List Nat} {s k x : Nat} (h : s.testBit x = true) : (rounds l s k).testBit x = true := by
  induction k with
  | zero => exact h
  | succ k ih => exact rto_mono ih

theorem rto_lt {l : List Nat} (hf : Fits l) {s : Nat} (hs : s < 2 ^ l.length) (m : Nat) : rto l s m < 2 ^ l.length := by
  induction m with
  | zero => exact hs
  | succ m ih =>
    rw [rto, rstep]; split
    · exact Nat.or_lt_two_pow ih (hf.getD m)
    · exact ih
theorem rounds_lt {l : List Nat} (hf : Fits l) {s : Nat} (hs : s < 2 ^ l.length) (k : Nat) : rounds l s k < 2 ^ l.length := by
  induction k with
  | zero => exact hs
  | succ k ih => exact rto_lt hf ih _

/-- either a round does nothing more, or each did something -/
theorem rounds_grow {l : List Nat} (hf : Fits l) {s : Nat} (hs : s < 2 ^ l.length) (k : Nat) :
    rround l (rounds l s k) = rounds l s k ∨ k ≤ cnt l.length (rounds l s k).testBit := by
  induction k with
  | zero => exact .inr (Nat.zero_le _)
  | succ k ih =>
    rcases ih with ih | ih
    · exact .inl (by rw [rounds, ih, ih])
    · by_cases h : rround l (rounds l s k) = rounds l s k
      · exact .inl (by rw [rounds, h, h])
      · right
        have hex : ∃ x, x < l.length ∧ (rounds l s k).testBit x = false ∧ (rround l (rounds l s k)).testBit x = true := by
          apply Classical.byContradiction
          intro hno
          apply h
          refine eq_of_bits (rto_lt hf (rounds_lt hf hs k) _) (rounds_lt hf hs k) (fun x hx => ?_)
          rw [Bool.eq_iff_iff]
          constructor
          · intro hx1
            by_cases hx2 : (rounds l s k).testBit x = true
            · exact hx2
            · exact absurd ⟨x, hx, by simpa using hx2, hx1⟩ hno
          · exact fun hx1 => rto_mono hx1
        obtain ⟨x, hx, h1, h2⟩ := hex
        have := cnt_lt (n := l.length) (p := (rounds l s k).testBit) (q := (rround l (rounds l s k)).testBit) (fun i _ hi => rto_mono hi) hx h2 h1
        rw [rounds]
        omega

theorem rounds_closed {l : List Nat} (hf : Fits l) {s : Nat} (hs : s < 2 ^ l.length) {j x : Nat} (hj : (rounds l s l.length).testBit j = true) (hx : rel l j x = true) : (rounds l s l.length).testBit x = true := by
  rcases rounds_grow hf hs l.length with h | h
  · rw [← h]
    exact rto_has (rel_lt_left hx) hj hx
  · have := cnt_le l.length (rounds l s l.length).testBit
    exact cnt_full (by omega) x (rel_lt_right hf hx)

theorem testBit_rounds {l : List Nat} (hf : Fits l) {i : Nat} (x : Nat) : (rounds l (l.getD i 0) l.length).testBit x = rel (closed l) i x := by
  rw [Bool.eq_iff_iff]
  constructor
  · refine rounds_sound (P := fun x => rel (closed l) i x = true) (fun x hx => closedTo_has l _ _ _ hx) (fun j x hj hx => closed_trans hj (closedTo_has l _ _ _ hx)) _ x
  · intro h
    rw [closed_iff] at h
    refine h (fun a b => ∀ T : Nat, (∀ j x, T.testBit j = true → rel l j x = true → T.testBit x = true) → (∀ y, rel l a y = true → T.testBit y = true) → T.testBit b = true) ?_ ?_ _
      (fun j x hj hx => rounds_closed hf (hf.getD i) hj hx) (fun y hy => rounds_mono hy)
    · intro a b hab T _ h2
      exact h2 b hab
    · intro a b c h1 h2 T hT ha
      exact h2 T hT (fun y hy => hT b y (h1 T hT ha) hy)

theorem rclosed_eq {l : List Nat} (hf : Fits l) : rclosed l = closed l := by
  have hfr : Fits (rclosed l) := by
    intro y hy
    unfold rclosed at hy ⊢
    rw [List.length_map, List.length_range]
    obtain ⟨i, _, rfl⟩ := List.mem_map.1 hy
    exact rounds_lt hf (hf.getD i) _
  refine ext_rel hfr hf.closed (by simp [rclosed, length_closed]) (fun i j hi _ => ?_)
  rw [← testBit_rounds hf]
  unfold rel rclosed
  rw [List.getD_eq_getElem?_getD, List.getElem?_map, List.getElem?_range (by simpa [rclosed] using hi)]
  rfl

end Odr
end Go.Proofs.YtpicjikjinkkpaaDoor
