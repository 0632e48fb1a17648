/- Plain mathematics of orders that are given as rows of bits: the closed relation, its laws, a step more, and the order turned round. No program is in sight. Conditions: none. -/
namespace Go.Proofs.YtpicjikjinkkpaaDoor
namespace Odr

/-- the number whose bits below n are those that p names -/
def mk : Nat → (Nat → Bool) → Nat
  | 0, _ => 0
  | n + 1, p => if p n then 2 ^ n + mk n p else mk n p

theorem mk_lt (n : Nat) (p : Nat → Bool) : mk n p < 2 ^ n := by
  induction n with
  | zero => simp [mk]
  | succ n ih =>
    unfold mk
    have : 2 ^ (n + 1) = 2 ^ n + 2 ^ n := by rw [Nat.pow_succ]; omega
    split <;> omega

theorem testBit_lt {x n i : Nat} (h : x < 2 ^ n) (hi : n ≤ i) : x.testBit i = false :=
  Nat.testBit_lt_two_pow (Nat.lt_of_lt_of_le h (Nat.pow_le_pow_right (by omega) hi))

theorem testBit_mk (n : Nat) (p : Nat → Bool) (i : Nat) : (mk n p).testBit i = (decide (i < n) && p i) := by
  induction n with
  | zero => simp [mk]
  | succ n ih =>
    have hlt := mk_lt n p
    unfold mk
    rcases Nat.lt_trichotomy i n with h | h | h
    · have h1 : decide (i < n + 1) = true := by simp; omega
      have h2 : decide (i < n) = true := by simp; omega
      split
      · rw [Nat.testBit_two_pow_add_gt h, ih, h1, h2]
      · rw [ih, h1, h2]
    · subst h
      have h0 := testBit_lt hlt (Nat.le_refl _)
      split
      · rename_i hp
        rw [Nat.testBit_two_pow_add_eq, h0]; simp [hp]
      · rename_i hp
        rw [h0]; simp [hp]
    · have h1 : decide (i < n + 1) = false := by simp; omega
      have h2 : (mk (n + 1) p).testBit i = false := testBit_lt (mk_lt (n + 1) p) (by omega)
      rw [mk] at h2
      rw [h2, h1]; rfl

theorem mk_self {x n : Nat} (h : x < 2 ^ n) : mk n x.testBit = x := by
  apply Nat.eq_of_testBit_eq
  intro i
  rw [testBit_mk]
  by_cases hi : i < n
  · simp [hi]
  · rw [testBit_lt h (by omega)]; simp

theorem mk_congr {n : Nat} {p q : Nat → Bool} (h : ∀ i, i < n → p i = q i) : mk n p = mk n q := by
  apply Nat.eq_of_testBit_eq
  intro i
  rw [testBit_mk, testBit_mk]
  by_cases hi : i < n
  · rw [h i hi]
  · simp [hi]

theorem eq_of_bits {x y n : Nat} (hx : x < 2 ^ n) (hy : y < 2 ^ n) (h : ∀ i, i < n → x.testBit i = y.testBit i) : x = y := by
  apply Nat.eq_of_testBit_eq
  intro i
  by_cases hi : i < n
  · exact h i hi
  · rw [testBit_lt hx (by omega), testBit_lt hy (by omega)]

/-- the transitive closure of a relation -/
def TC (R : Nat → Nat → Prop) (i j : Nat) : Prop :=
  ∀ S : Nat → Nat → Prop, (∀ a b, R a b → S a b) → (∀ a b c, S a b → S b c → S a c) → S i j

theorem TC.base {R : Nat → Nat → Prop} {i j : Nat} (h : R i j) : TC R i j := fun _ h1 _ => h1 _ _ h
theorem TC.trans {R : Nat → Nat → Prop} {i j k : Nat} (h : TC R i j) (g : TC R j k) : TC R i k :=
  fun S h1 h2 => h2 _ _ _ (h S h1 h2) (g S h1 h2)
theorem TC.mono {R R' : Nat → Nat → Prop} (hR : ∀ i j, R i j → TC R' i j) {i j : Nat} (h : TC R i j) : TC R' i j :=
  h (TC R') hR (fun _ _ _ => TC.trans)

/-- bit j of row i -/
def rel (l : List Nat) (i j : Nat) : Bool := (l.getD i 0).testBit j

/-- all rows are sets of as many things as there are rows -/
def Fits (l : List Nat) : Prop := ∀ x ∈ l, x < 2 ^ l.length

theorem Fits.getD {l : List Nat} (h : Fits l) (i : Nat) : l.getD i 0 < 2 ^ l.length := by
  rw [List.getD_eq_getElem?_getD]
  by_cases hi : i < l.length
  · rw [List.getElem?_eq_getElem hi]; exact h _ (List.getElem_mem hi)
  · rw [List.getElem?_eq_none (by omega)]; exact Nat.two_pow_pos _

theorem rel_lt_left {l : List Nat} {i j : Nat} (h : rel l i j = true) : i < l.length := by
  unfold rel at h
  rw [List.getD_eq_getElem?_getD] at h
  by_cases hi : i < l.length
  · exact hi
  · rw [List.getElem?_eq_none (by omega)] at h; simp at h

theorem rel_lt_right {l : List Nat} (hf : Fits l) {i j : Nat} (h : rel l i j = true) : j < l.length := by
  by_cases hj : j < l.length
  · exact hj
  · unfold rel at h; rw [testBit_lt (hf.getD i) (by omega)] at h; cases h

theorem ext_rel {l m : List Nat} (hl : Fits l) (hm : Fits m) (hlen : l.length = m.length) (h : ∀ i j, i < l.length → j < l.length → rel l i j = rel m i j) : l = m := by
  apply List.ext_getElem hlen
  intro i h1 h2
  have e1 : l.getD i 0 = l[i] := by rw [List.getD_eq_getElem?_getD, List.getElem?_eq_getElem h1]; rfl
  have e2 : m.getD i 0 = m[i] := by rw [List.getD_eq_getElem?_getD, List.getElem?_eq_getElem h2]; rfl
  refine eq_of_bits (hl _ (List.getElem_mem h1)) (by rw [hlen]; exact hm _ (List.getElem_mem h2)) (fun j hj => ?_)
  have := h i j h1 hj
  unfold rel at this
  rwa [e1, e2] at this

/-- one step of the closing: whoever has k behind it has all behind k -/
def wrow (y k x : Nat) : Nat := if x.testBit k then x ||| y else x
def wstep (k : Nat) (l : List Nat) : List Nat := l.map (wrow (l.getD k 0) k)
def closedTo (l : List Nat) : Nat → List Nat
  | 0 => l
  | m + 1 => wstep m (closedTo l m)
def closed (l : List Nat) : List Nat := closedTo l l.length

theorem length_wstep (k : Nat) (l : List Nat) : (wstep k l).length = l.length := by simp [wstep]
theorem length_closedTo (l : List Nat) (m : Nat) : (closedTo l m).length = l.length := by
  induction m with
  | zero => rfl
  | succ m ih => rw [closedTo, length_wstep, ih]
theorem length_closed (l : List Nat) : (closed l).length = l.length := length_closedTo l _

theorem getD_map (f : Nat → Nat) (l : List Nat) (i : Nat) : (l.map f).getD i 0 = if i < l.length then f (l.getD i 0) else 0 := by
  rw [List.getD_eq_getElem?_getD, List.getD_eq_getElem?_getD, List.getElem?_map]
  by_cases hi : i < l.length
  · rw [List.getElem?_eq_getElem hi]; simp [hi]
  · rw [List.getElem?_eq_none (by omega)]; simp [hi]

theorem rel_wstep (k : Nat) (l : List Nat) (i j : Nat) : rel (wstep k l) i j = (rel l i j || (rel l i k && rel l k j)) := by
  unfold rel wstep
  rw [getD_map]
  by_cases hi : i < l.length
  · rw [if_pos hi]
    unfold wrow
    by_cases hb : (l.getD i 0).testBit k = true
    · rw [if_pos hb, Nat.testBit_or, hb]; simp
    · rw [if_neg hb]
      have : (l.getD i 0).testBit k = false := by simpa using hb
      rw [this]; simp
  · rw [if_neg hi]
    have : l.getD i 0 = 0 := by rw [List.getD_eq_getElem?_getD, List.getElem?_eq_none (by omega)]; rfl
    rw [this]; simp

theorem wrow_lt {y k x n : Nat} (hy : y < 2 ^ n) (hx : x < 2 ^ n) : wrow y k x < 2 ^ n := by
  unfold wrow
  split
  · exact Nat.or_lt_two_pow hx hy
  · exact hx

theorem Fits.wstep {l : List Nat} (h : Fits l) (k : Nat) : Fits (wstep k l) := by
  intro x hx
  rw [length_wstep]
  unfold Odr.wstep at hx
  obtain ⟨y, hy, rfl⟩ := List.mem_map.1 hx
  exact wrow_lt (h.getD k) (h y hy)
theorem Fits.closedTo {l : List Nat} (h : Fits l) (m : Nat) : Fits (closedTo l m) := by
  induction m with
  | zero => exact h
  | succ m ih => exact ih.wstep m
theorem Fits.closed {l : List Nat} (h : Fits l) : Fits (closed l) := h.closedTo _

theorem closedTo_sound (l : List Nat) (m : Nat) : ∀ i j, rel (closedTo l m) i j = true → TC (fun a b => rel l a b = true) i j := by
  induction m with
  | zero => intro i j h; exact TC.base h
  | succ m ih =>
    intro i j h
    rw [closedTo, rel_wstep] at h
    simp only [Bool.or_eq_true, Bool.and_eq_true] at h
    rcases h with h | ⟨h1, h2⟩
    · exact ih _ _ h
    · exact (ih _ _ h1).trans (ih _ _ h2)

theorem closedTo_has (l : List Nat) (m : Nat) : ∀ i j, rel l i j = true → rel (closedTo l m) i j = true := by
  induction m with
  | zero => intro i j h; exact h
  | succ m ih => intro i j h; rw [closedTo, rel_wstep, ih _ _ h]; rfl

theorem closedTo_trans (l : List Nat) (m : Nat) : ∀ k, k < m → ∀ i j, rel (closedTo l m) i k = true → rel (closedTo l m) k j = true → rel (closedTo l m) i j = true := by
  induction m with
  | zero => intro k hk; omega
  | succ m ih =>
    intro k hk i j h1 h2
    simp only [closedTo, rel_wstep, Bool.or_eq_true, Bool.and_eq_true] at h1 h2 ⊢
    rcases Nat.lt_or_ge k m with h | h
    · rcases h1 with h1 | ⟨h1, h1'⟩
      · rcases h2 with h2 | ⟨h2, h2'⟩
        · exact .inl (ih k h i j h1 h2)
        · exact .inr ⟨ih k h i m h1 h2, h2'⟩
      · rcases h2 with h2 | ⟨h2, h2'⟩
        · exact .inr ⟨h1, ih k h m j h1' h2⟩
        · exact .inr ⟨h1, h2'⟩
    · have e : k = m := by omega
      subst e
      have a : rel (closedTo l k) i k = true := by rcases h1 with h1 | h1; exact h1; exact h1.1
      have b : rel (closedTo l k) k j = true := by rcases h2 with h2 | h2; exact h2; exact h2.2
      exact .inr ⟨a, b⟩

theorem closed_trans {l : List Nat} {i j k : Nat} (h1 : rel (closed l) i k = true) (h2 : rel (closed l) k j = true) : rel (closed l) i j = true := by
  have hk : k < l.length := by have := rel_lt_left h2; rwa [length_closed] at this
  exact closedTo_trans l l.length k hk i j h1 h2

theorem closed_iff (l : List Nat) (i j : Nat) : rel (closed l) i j = true ↔ TC (fun a b => rel l a b = true) i j :=
  ⟨closedTo_sound l _ i j, fun h => h (fun a b => rel (closed l) a b = true) (closedTo_has l _) (fun _ _ _ => closed_trans)⟩

/-- what is closed already stays -/
theorem closed_of_trans {l : List Nat} (hf : Fits l) (h : ∀ i j k, rel l i j = true → rel l j k = true → rel l i k = true) : closed l = l := by
  refine ext_rel hf.closed hf (length_closed l) (fun i j _ _ => ?_)
  rw [Bool.eq_iff_iff, closed_iff]
  exact ⟨fun g => g (fun a b => rel l a b = true) (fun _ _ x => x) (fun _ _ _ => h _ _ _), fun g => TC.base g⟩

theorem closed_closed {l : List Nat} (hf : Fits l) : closed (closed l) = closed l :=
  closed_of_trans hf.closed (fun _ _ _ => closed_trans)

/-- an order: few rows, each a set of things, none behind itself -/
structure Valid (l : List Nat) : Prop where
  few : l.length ≤ 12
  fits : Fits l
  irr : ∀ i, rel (closed l) i i = false

theorem Valid.asym {l : List Nat} (h : Valid l) {i j : Nat} (h1 : rel (closed l) i j = true) : rel (closed l) j i = false := by
  by_cases h2 : rel (closed l) j i = true
  · have := closed_trans h1 h2; rw [h.irr] at this; cases this
  · simpa using h2

theorem Valid.closed {l : List Nat} (h : Valid l) : Valid (closed l) :=
  ⟨by rw [length_closed]; exact h.few, h.fits.closed, by rw [closed_closed h.fits]; exact h.irr⟩

/-- turned round: row j has all that stand ahead of j -/
def turned (l : List Nat) : List Nat := (List.range l.length).map fun j => mk l.length fun i => rel (closed l) i j

theorem length_turned (l : List Nat) : (turned l).length = l.length := by simp [turned]
theorem Fits.turned (l : List Nat) : Fits (turned l) := by
  intro x hx
  rw [length_turned]
  unfold Odr.turned at hx
  obtain ⟨j, _, rfl⟩ := List.mem_map.1 hx
  exact mk_lt _ _

theorem rel_turned {l : List Nat} (hf : Fits l) (j i : Nat) : rel (turned l) j i = rel (closed l) i j := by
  have hb : rel (closed l) i j = true → i < l.length ∧ j < l.length := fun h =>
    ⟨by have := rel_lt_left h; rwa [length_closed] at this, by have := rel_lt_right hf.closed h; rwa [length_closed] at this⟩
  by_cases hj : j < l.length
  · have e : (turned l).getD j 0 = mk l.length (fun i => rel (closed l) i j) := by
      unfold turned
      rw [List.getD_eq_getElem?_getD, List.getElem?_map, List.getElem?_range hj]; rfl
    unfold rel at e ⊢
    rw [e, testBit_mk]
    by_cases hi : i < l.length
    · simp [hi]
    · have : ((Odr.closed l).getD i 0).testBit j = false := by
        by_cases h : ((Odr.closed l).getD i 0).testBit j = true
        · exact absurd (hb h).1 hi
        · simpa using h
      simp only [this]; simp
  · have h1 : rel (turned l) j i = false := by
      by_cases h : rel (turned l) j i = true
      · have := rel_lt_left h; rw [length_turned] at this; exact absurd this hj
      · simpa using h
    have h2 : rel (closed l) i j = false := by
      by_cases h : rel (closed l) i j = true
      · exact absurd (hb h).2 hj
      · simpa using h
    rw [h1, h2]

theorem closed_turned {l : List Nat} (hf : Fits l) : closed (turned l) = turned l := by
  refine closed_of_trans (Fits.turned l) (fun i j k h1 h2 => ?_)
  rw [rel_turned hf] at h1 h2 ⊢
  exact closed_trans h2 h1

theorem Valid.turned {l : List Nat} (h : Valid l) : Valid (turned l) :=
  ⟨by rw [length_turned]; exact h.few, Fits.turned l, by intro i; rw [closed_turned h.fits, rel_turned h.fits]; exact h.irr i⟩

theorem turned_turned {l : List Nat} (h : Valid l) : turned (turned l) = closed l := by
  refine ext_rel (Fits.turned _) h.fits.closed (by rw [length_turned, length_turned, length_closed]) (fun i j _ _ => ?_)
  rw [rel_turned (Fits.turned l), closed_turned h.fits, rel_turned h.fits]

/-- a step more -/
def more (l : List Nat) (a b : Nat) : List Nat := l.set a (l.getD a 0 ||| 2 ^ b)

theorem length_more (l : List Nat) (a b : Nat) : (more l a b).length = l.length := by simp [more]

theorem rel_more {l : List Nat} {a b : Nat} (ha : a < l.length) (i j : Nat) : rel (more l a b) i j = (rel l i j || (decide (i = a) && decide (j = b))) := by
  unfold rel more
  rw [List.getD_eq_getElem?_getD, List.getElem?_set]
  by_cases hi : a = i
  · subst hi
    simp [ha, Nat.testBit_or, Nat.testBit_two_pow]
    by_cases hb : b = j
    · simp [hb]
    · have : ¬ j = b := fun e => hb e.symm
      simp [hb, this]
  · have : ¬ i = a := fun e => hi e.symm
    simp [hi, this]

theorem Fits.more {l : List Nat} (h : Fits l) {a b : Nat} (hb : b < l.length) : Fits (more l a b) := by
  intro x hx
  rw [length_more]
  unfold Odr.more at hx
  rcases List.mem_or_eq_of_mem_set hx with hx | rfl
  · exact h x hx
  · exact Nat.or_lt_two_pow (h.getD a) (Nat.pow_lt_pow_right (by omega) hb)

/-- ahead or the same -/
def le (l : List Nat) (i j : Nat) : Prop := i = j ∨ rel (closed l) i j = true
theorem le.trans {l : List Nat} {i j k : Nat} (h : le l i j) (g : le l j k) : le l i k := by
  rcases h with rfl | h
  · exact g
  · rcases g with rfl | g
    · exact .inr h
    · exact .inr (closed_trans h g)

theorem closed_more {l : List Nat} {a b : Nat} (ha : a < l.length) (i j : Nat) :
    rel (closed (more l a b)) i j = true ↔ rel (closed l) i j = true ∨ (le l i a ∧ le l b j) := by
  rw [closed_iff]
  constructor
  · intro h
    refine h (fun i j => rel (closed l) i j = true ∨ (le l i a ∧ le l b j)) ?_ ?_
    · intro i j g
      rw [rel_more ha] at g
      simp only [Bool.or_eq_true, Bool.and_eq_true, decide_eq_true_eq] at g
      rcases g with g | ⟨rfl, rfl⟩
      · exact .inl (closedTo_has l _ _ _ g)
      · exact .inr ⟨.inl rfl, .inl rfl⟩
    · rintro i j k (h1 | ⟨h1, h1'⟩) (h2 | ⟨h2, h2'⟩)
      · exact .inl (closed_trans h1 h2)
      · exact .inr ⟨le.trans (.inr h1) h2, h2'⟩
      · exact .inr ⟨h1, le.trans h1' (.inr h2)⟩
      · exact .inr ⟨h1, h2'⟩
  · have hmono : ∀ i j, rel (closed l) i j = true → TC (fun a' b' => rel (more l a b) a' b' = true) i j := by
      intro i j g
      rw [closed_iff] at g
      exact TC.mono (fun i j h => TC.base (by rw [rel_more ha, h]; rfl)) g
    have hab : TC (fun a' b' => rel (more l a b) a' b' = true) a b := TC.base (by rw [rel_more ha]; simp)
    rintro (h | ⟨h1, h2⟩)
    · exact hmono _ _ h
    · have h3 : TC (fun a' b' => rel (more l a b) a' b' = true) i b := by
        rcases h1 with rfl | h1
        · exact hab
        · exact (hmono _ _ h1).trans hab
      rcases h2 with rfl | h2
      · exact h3
      · exact h3.trans (hmono _ _ h2)

theorem more_irr {l : List Nat} (h : Valid l) {a b : Nat} (ha : a < l.length) :
    (∀ i, rel (closed (more l a b)) i i = false) ↔ ¬ le l b a := by
  constructor
  · intro hi hba
    have : rel (closed (more l a b)) a a = true := (closed_more ha a a).2 (.inr ⟨.inl rfl, hba⟩)
    rw [hi] at this; cases this
  · intro hba i
    by_cases g : rel (closed (more l a b)) i i = true
    · rcases (closed_more ha i i).1 g with g | ⟨g1, g2⟩
      · rw [h.irr] at g; cases g
      · exact absurd (g2.trans g1) hba
    · simpa using g

theorem Valid.more {l : List Nat} (h : Valid l) {a b : Nat} (ha : a < l.length) (hb : b < l.length) (hba : ¬ le l b a) : Valid (more l a b) :=
  ⟨by rw [length_more]; exact h.few, h.fits.more hb, (more_irr h ha).2 hba⟩

end Odr
end Go.Proofs.YtpicjikjinkkpaaDoor
