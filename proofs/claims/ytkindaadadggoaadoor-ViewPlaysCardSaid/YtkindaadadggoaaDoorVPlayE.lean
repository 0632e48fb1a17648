/- Plain words on the reference's two rows of edges of a store of views, and that they are the program's. No program is in sight. Conditions: none. -/
import Derived.Test.YtkindaadadggoaaDoorVPlayM
namespace Go.Proofs.YtkindaadadggoaaDoor
namespace Vw
open Odr Sch

def t1L (L : List D4) (a b i : Nat) : Bool := wroteL L a i && wroteL L b i && decide (whenN L a 5 < whenN L b 5) && decide (lastOf L i (whenN L b 5) = ((a : Nat) : Int))
def t2L (L : List D4) (a b i : Nat) : Bool := wroteL L a i && firstL L b i && decide (whenN L a 5 < whenN L b 4)
def t3L (L : List D4) (a b i : Nat) : Bool := firstL L a i && wroteL L b i && decide (whenN L a 4 < whenN L b 5)
def t4L (L : List D4) (a b i : Nat) : Bool := t3L L a b i && decide (whenN L b 4 < whenN L a 5)
def pairL (L : List D4) (a b : Nat) : Bool := decide (a ≠ b) && decide (whenN L a 5 < L.length) && decide (whenN L b 5 < L.length)
def moreIf (c : Bool) (l : List Nat) (a b : Nat) : List Nat := if c = true then more l a b else l
/-- what one item adds -/
def istepL (L : List D4) (a b i : Nat) (s : List Nat × List Nat) : List Nat × List Nat :=
  (moreIf (t3L L a b i) (moreIf (t2L L a b i) (moreIf (t1L L a b i) s.1 a b) a b) a b, moreIf (t4L L a b i) s.2 a b)
def iToL (L : List D4) (a b : Nat) (s : List Nat × List Nat) : Nat → List Nat × List Nat
  | 0 => s
  | n + 1 => istepL L a b n (iToL L a b s n)
def bstepL (L : List D4) (a b : Nat) (s : List Nat × List Nat) : List Nat × List Nat := if pairL L a b = true then iToL L a b s 4 else s
def bToL (L : List D4) (a : Nat) (s : List Nat × List Nat) : Nat → List Nat × List Nat
  | 0 => s
  | n + 1 => bstepL L a n (bToL L a s n)
def aToL (L : List D4) : Nat → List Nat × List Nat
  | 0 => ([0, 0, 0, 0, 0], [0, 0, 0, 0, 0])
  | n + 1 => bToL L n (aToL L n) 5
def edL (L : List D4) : List Nat × List Nat := aToL L 5

theorem moreIf_five {c : Bool} {l : List Nat} {a b : Nat} (h : Five l) (hb : b < 5) : Five (moreIf c l a b) := by
  unfold moreIf
  split
  · exact h.more hb
  · exact h
theorem rel_moreIf {c : Bool} {l : List Nat} {a b : Nat} (h : Five l) (ha : a < 5) (x y : Nat) : rel (moreIf c l a b) x y = true ↔ rel l x y = true ∨ (c = true ∧ x = a ∧ y = b) := by
  unfold moreIf
  split
  · rename_i hc
    rw [rel_more (by rw [h.1]; exact ha)]
    simp [hc]
  · rename_i hc
    simp [hc]
theorem five_istepL {L : List D4} {a b i : Nat} {s : List Nat × List Nat} (h : Five s.1 ∧ Five s.2) (hb : b < 5) : Five (istepL L a b i s).1 ∧ Five (istepL L a b i s).2 :=
  ⟨moreIf_five (moreIf_five (moreIf_five h.1 hb) hb) hb, moreIf_five h.2 hb⟩
theorem five_iToL {L : List D4} {a b : Nat} {s : List Nat × List Nat} (h : Five s.1 ∧ Five s.2) (hb : b < 5) (n : Nat) : Five (iToL L a b s n).1 ∧ Five (iToL L a b s n).2 := by
  induction n with
  | zero => exact h
  | succ n ih => exact five_istepL ih hb
theorem five_bToL {L : List D4} {a : Nat} {s : List Nat × List Nat} (h : Five s.1 ∧ Five s.2) (n : Nat) (hn : n ≤ 5) : Five (bToL L a s n).1 ∧ Five (bToL L a s n).2 := by
  induction n with
  | zero => exact h
  | succ n ih =>
    have := ih (by omega)
    rw [bToL, bstepL]
    split
    · exact five_iToL this (by omega) 4
    · exact this
theorem five_aToL (L : List D4) (n : Nat) : Five (aToL L n).1 ∧ Five (aToL L n).2 := by
  induction n with
  | zero => exact ⟨five0, five0⟩
  | succ n ih => exact five_bToL ih 5 (Nat.le_refl _)
def t123 (L : List D4) (a b i : Nat) : Prop := t1L L a b i = true ∨ t2L L a b i = true ∨ t3L L a b i = true
theorem rel_iToL {L : List D4} {a b : Nat} {s : List Nat × List Nat} (h : Five s.1 ∧ Five s.2) (ha : a < 5) (hb : b < 5) (n x y : Nat) :
    (rel (iToL L a b s n).1 x y = true ↔ rel s.1 x y = true ∨ ((∃ i, i < n ∧ t123 L a b i) ∧ x = a ∧ y = b)) ∧ (rel (iToL L a b s n).2 x y = true ↔ rel s.2 x y = true ∨ ((∃ i, i < n ∧ t4L L a b i = true) ∧ x = a ∧ y = b)) := by
  induction n with
  | zero =>
    constructor
    · constructor
      · exact .inl
      · rintro (g | ⟨⟨i, hi, _⟩, _⟩)
        · exact g
        · omega
    · constructor
      · exact .inl
      · rintro (g | ⟨⟨i, hi, _⟩, _⟩)
        · exact g
        · omega
  | succ n ih =>
    have hf := five_iToL (L := L) (a := a) h hb n
    rw [iToL, istepL]
    simp only
    rw [rel_moreIf (moreIf_five (moreIf_five hf.1 hb) hb) ha, rel_moreIf (moreIf_five hf.1 hb) ha, rel_moreIf hf.1 ha, rel_moreIf hf.2 ha, ih.1, ih.2]
    constructor
    · constructor
      · rintro ((((g | ⟨⟨i, hi, g⟩, q⟩) | ⟨g, q⟩) | ⟨g, q⟩) | ⟨g, q⟩)
        · exact .inl g
        · exact .inr ⟨⟨i, by omega, g⟩, q⟩
        · exact .inr ⟨⟨n, by omega, .inl g⟩, q⟩
        · exact .inr ⟨⟨n, by omega, .inr (.inl g)⟩, q⟩
        · exact .inr ⟨⟨n, by omega, .inr (.inr g)⟩, q⟩
      · rintro (g | ⟨⟨i, hi, g⟩, q⟩)
        · exact .inl (.inl (.inl (.inl g)))
        · by_cases e : i = n
          · subst e
            rcases g with g | g | g
            · exact .inl (.inl (.inr ⟨g, q⟩))
            · exact .inl (.inr ⟨g, q⟩)
            · exact .inr ⟨g, q⟩
          · exact .inl (.inl (.inl (.inr ⟨⟨i, by omega, g⟩, q⟩)))
    · constructor
      · rintro ((g | ⟨⟨i, hi, g⟩, q⟩) | ⟨g, q⟩)
        · exact .inl g
        · exact .inr ⟨⟨i, by omega, g⟩, q⟩
        · exact .inr ⟨⟨n, by omega, g⟩, q⟩
      · rintro (g | ⟨⟨i, hi, g⟩, q⟩)
        · exact .inl (.inl g)
        · by_cases e : i = n
          · subst e; exact .inr ⟨g, q⟩
          · exact .inl (.inr ⟨⟨i, by omega, g⟩, q⟩)
def behP (L : List D4) (a b : Nat) : Prop := pairL L a b = true ∧ ∃ i, i < 4 ∧ t123 L a b i
def ovP (L : List D4) (a b : Nat) : Prop := pairL L a b = true ∧ ∃ i, i < 4 ∧ t4L L a b i = true
theorem rel_bToL {L : List D4} {a : Nat} {s : List Nat × List Nat} (h : Five s.1 ∧ Five s.2) (ha : a < 5) (n : Nat) (hn : n ≤ 5) (x y : Nat) :
    (rel (bToL L a s n).1 x y = true ↔ rel s.1 x y = true ∨ (x = a ∧ y < n ∧ behP L a y)) ∧ (rel (bToL L a s n).2 x y = true ↔ rel s.2 x y = true ∨ (x = a ∧ y < n ∧ ovP L a y)) := by
  induction n with
  | zero =>
    constructor
    · exact ⟨.inl, fun g => g.elim id (fun g => absurd g.2.1 (Nat.not_lt_zero _))⟩
    · exact ⟨.inl, fun g => g.elim id (fun g => absurd g.2.1 (Nat.not_lt_zero _))⟩
  | succ n ih =>
    have ih' := ih (by omega)
    have hf := five_bToL (L := L) (a := a) h n (by omega)
    rw [bToL, bstepL]
    by_cases hp : pairL L a n = true
    · rw [if_pos hp, (rel_iToL hf ha (show n < 5 by omega) 4 x y).1, (rel_iToL hf ha (show n < 5 by omega) 4 x y).2, ih'.1, ih'.2]
      constructor
      · constructor
        · rintro ((g | ⟨g1, g2, g3⟩) | ⟨g, q1, q2⟩)
          · exact .inl g
          · exact .inr ⟨g1, by omega, g3⟩
          · exact .inr ⟨q1, by omega, by rw [q2]; exact ⟨hp, g⟩⟩
        · rintro (g | ⟨g1, g2, g3⟩)
          · exact .inl (.inl g)
          · by_cases e : y = n
            · subst e; exact .inr ⟨g3.2, g1, rfl⟩
            · exact .inl (.inr ⟨g1, by omega, g3⟩)
      · constructor
        · rintro ((g | ⟨g1, g2, g3⟩) | ⟨g, q1, q2⟩)
          · exact .inl g
          · exact .inr ⟨g1, by omega, g3⟩
          · exact .inr ⟨q1, by omega, by rw [q2]; exact ⟨hp, g⟩⟩
        · rintro (g | ⟨g1, g2, g3⟩)
          · exact .inl (.inl g)
          · by_cases e : y = n
            · subst e; exact .inr ⟨g3.2, g1, rfl⟩
            · exact .inl (.inr ⟨g1, by omega, g3⟩)
    · rw [if_neg hp, ih'.1, ih'.2]
      constructor
      · constructor
        · rintro (g | ⟨g1, g2, g3⟩)
          · exact .inl g
          · exact .inr ⟨g1, by omega, g3⟩
        · rintro (g | ⟨g1, g2, g3⟩)
          · exact .inl g
          · refine .inr ⟨g1, ?_, g3⟩
            by_cases e : y = n
            · subst e; exact absurd g3.1 hp
            · omega
      · constructor
        · rintro (g | ⟨g1, g2, g3⟩)
          · exact .inl g
          · exact .inr ⟨g1, by omega, g3⟩
        · rintro (g | ⟨g1, g2, g3⟩)
          · exact .inl g
          · refine .inr ⟨g1, ?_, g3⟩
            by_cases e : y = n
            · subst e; exact absurd g3.1 hp
            · omega
theorem rel_aToL (L : List D4) (n : Nat) (hn : n ≤ 5) (x y : Nat) :
    (rel (aToL L n).1 x y = true ↔ x < n ∧ y < 5 ∧ behP L x y) ∧ (rel (aToL L n).2 x y = true ↔ x < n ∧ y < 5 ∧ ovP L x y) := by
  induction n with
  | zero =>
    constructor
    · constructor
      · intro g
        have g' : rel [0, 0, 0, 0, 0] x y = true := g
        rw [rel0] at g'; cases g'
      · rintro ⟨g, _⟩; omega
    · constructor
      · intro g
        have g' : rel [0, 0, 0, 0, 0] x y = true := g
        rw [rel0] at g'; cases g'
      · rintro ⟨g, _⟩; omega
  | succ n ih =>
    have ih' := ih (by omega)
    have hr := rel_bToL (L := L) (five_aToL L n) (show n < 5 by omega) 5 (Nat.le_refl _) x y
    rw [aToL, hr.1, hr.2, ih'.1, ih'.2]
    constructor
    · constructor
      · rintro (⟨g1, g2, g3⟩ | ⟨g1, g2, g3⟩)
        · exact ⟨by omega, g2, g3⟩
        · exact ⟨by omega, g2, by rw [g1]; exact g3⟩
      · rintro ⟨g1, g2, g3⟩
        by_cases e : x = n
        · exact .inr ⟨e, g2, by rw [← e]; exact g3⟩
        · exact .inl ⟨by omega, g2, g3⟩
    · constructor
      · rintro (⟨g1, g2, g3⟩ | ⟨g1, g2, g3⟩)
        · exact ⟨by omega, g2, g3⟩
        · exact ⟨by omega, g2, by rw [g1]; exact g3⟩
      · rintro ⟨g1, g2, g3⟩
        by_cases e : x = n
        · exact .inr ⟨e, g2, by rw [← e]; exact g3⟩
        · exact .inl ⟨by omega, g2, g3⟩
/-- a commit stands where the reference finds it -/
theorem Hi.com_at {L : List D4} {S : Nat} (h : Hi L S) {n : Nat} (hn : n < L.length) (h5 : (dat L n).1 = 5) : whenN L (dat L n).2.1 5 = n := by
  have h1 := when_le hn rfl h5
  rcases Nat.lt_or_ge (whenN L (dat L n).2.1 5) n with g | g
  · exfalso
    have h2 := when_at (L := L) (x := (dat L n).2.1) (k := 5) (by omega)
    exact h.aft _ n g hn h2.2 h2.1.symm
  · omega
theorem lastOf_some {L : List D4} {i : Nat} {a : Nat} : ∀ n, lastOf L i n = ((a : Nat) : Int) → ∃ m, m < n ∧ comW L i m = true ∧ (dat L m).2.1 = a := by
  intro n
  induction n with
  | zero => intro h; have h' : (-1 : Int) = (a : Int) := h; omega
  | succ n ih =>
    rw [lastOf]
    split
    · rename_i hc
      intro h
      exact ⟨n, by omega, hc, Int.ofNat.inj h⟩
    · intro h
      obtain ⟨m, h1, h2⟩ := ih h
      exact ⟨m, by omega, h2⟩
theorem comW_iff {L : List D4} {i n : Nat} : comW L i n = true ↔ (dat L n).1 = 5 ∧ wroteL L (dat L n).2.1 i = true := by simp [comW]
/-- the reference's edges are the program's -/
theorem Rel.edges {v : V} {L : List D4} {S : Nat} (hI : Inv v) (h : Rel v L S) {a b : Nat} (ha : a < 5) (hb : b < 5) : (Beh v a b ↔ behP L a b) ∧ (Over v a b ↔ ovP L a b) := by
  have c2 : ∀ x, x < 5 → ((tx v x).ph = 2 ↔ whenN L x 5 < L.length) := fun x hx => by rw [h.ph x hx]; exact h.hi.ph2 x
  have b4 : ∀ x, whenN L x 5 < L.length → whenN L x 4 < L.length := fun x hx => Nat.lt_of_le_of_lt (h.hi.begun hx) hx
  have wrI : ∀ x, x < 5 → ∀ i, i < 4 → (Wrote v x i ↔ whenN L x 5 < L.length ∧ wroteL L x i = true) := fun x hx i hi => by
    unfold Wrote; rw [c2 x hx, h.wr x hx i hi]
  have rdI : ∀ x, x < 5 → ∀ i, i < 4 → (Reads v x i ↔ whenN L x 5 < L.length ∧ firstL L x i = true) := fun x hx i hi => by
    unfold Reads; rw [c2 x hx, h.rd x hx i hi]
  have dif : ∀ x y, whenN L x 4 < L.length → whenN L y 5 < L.length → whenN L x 4 ≠ whenN L y 5 := fun x y hx hy e => by
    have h1 := (when_at hx).2
    have h2 := (when_at hy).2
    rw [e, h2] at h1
    cases h1
  -- what stood ahead of what
  have ord1 : ∀ x y, whenN L x 5 < L.length → whenN L y 4 < L.length → (cnt L (whenN L x 5) + 1 ≤ cnt L (whenN L y 4) ↔ whenN L x 5 < whenN L y 4) := fun x y hx hy => by
    constructor
    · intro g
      rcases Nat.lt_or_ge (whenN L x 5) (whenN L y 4) with q | q
      · exact q
      · have := cnt_mono (L := L) q; omega
    · intro g; exact cnt_lt (when_at hx).2 g
  have ord2 : ∀ x y, whenN L x 4 < L.length → whenN L y 5 < L.length → (cnt L (whenN L x 4) < cnt L (whenN L y 5) + 1 ↔ whenN L x 4 < whenN L y 5) := fun x y hx hy => by
    constructor
    · intro g
      rcases Nat.lt_or_ge (whenN L y 5) (whenN L x 4) with q | q
      · have := cnt_lt (when_at hy).2 q; omega
      · have := dif x y hx hy; omega
    · intro g
      have := cnt_mono (L := L) (Nat.le_of_lt g)
      omega
  have past : ∀ i, i < 4 → (Past v i a b ↔ pairL L a b = true ∧ t3L L a b i = true) := fun i hi => by
    unfold Past pairL t3L
    rw [rdI a ha i hi, wrI b hb i hi]
    constructor
    · rintro ⟨g1, ⟨g2, g3⟩, ⟨g4, g5⟩, g6⟩
      rw [h.bg a ha (b4 a g2), h.en b hb g4, ord2 a b (b4 a g2) g4] at g6
      simp [g1, g2, g3, g4, g5, g6]
    · rintro ⟨g1, g2⟩
      simp only [Bool.and_eq_true, decide_eq_true_eq] at g1 g2
      obtain ⟨⟨g1, g3⟩, g4⟩ := g1
      obtain ⟨⟨g5, g6⟩, g7⟩ := g2
      refine ⟨g1, ⟨g3, g5⟩, ⟨g4, g6⟩, ?_⟩
      rw [h.bg a ha (b4 a g3), h.en b hb g4, ord2 a b (b4 a g3) g4]
      exact g7
  have upon : ∀ i, i < 4 → (Upon v i a b ↔ pairL L a b = true ∧ t2L L a b i = true) := fun i hi => by
    unfold Upon pairL t2L
    rw [rdI b hb i hi, wrI a ha i hi]
    constructor
    · rintro ⟨g1, ⟨g2, g3⟩, ⟨g4, g5⟩, g6⟩
      rw [h.bg b hb (b4 b g2), h.en a ha g4, ord1 a b g4 (b4 b g2)] at g6
      simp [g1, g2, g3, g4, g5, g6]
    · rintro ⟨g1, g2⟩
      simp only [Bool.and_eq_true, decide_eq_true_eq] at g1 g2
      obtain ⟨⟨g1, g3⟩, g4⟩ := g1
      obtain ⟨⟨g5, g6⟩, g7⟩ := g2
      refine ⟨g1, ⟨g4, g6⟩, ⟨g3, g5⟩, ?_⟩
      rw [h.bg b hb (b4 b g4), h.en a ha g3, ord1 a b g3 (b4 b g4)]
      exact g7
  have next : ∀ i, i < 4 → (Next v i a b ↔ pairL L a b = true ∧ t1L L a b i = true) := fun i hi => by
    have e : Next v i a b ↔ NextL (vl L i L.length) a b := by
      unfold Next NextL
      rw [h.vs i hi]
    unfold pairL t1L
    constructor
    · intro g
      have hne := (Next.en_lt hI hi g).1
      obtain ⟨n, n1, n2, n3, n4⟩ := (next_vl L i a b L.length).1 (e.1 g)
      obtain ⟨n5, n6⟩ := comW_iff.1 n2
      have hw := h.hi.com_at n1 n5
      rw [n3] at hw n6
      obtain ⟨m, m1, m2, m3⟩ := lastOf_some n n4
      obtain ⟨m5, m6⟩ := comW_iff.1 m2
      have hm := h.hi.com_at (show m < L.length by omega) m5
      rw [m3] at hm m6
      rw [hw, hm]
      simp [hne, n1, n6, m6, m1, n4]
      omega
    · rintro ⟨g1, g2⟩
      simp only [Bool.and_eq_true, decide_eq_true_eq] at g1 g2
      obtain ⟨⟨g1, g3⟩, g4⟩ := g1
      obtain ⟨⟨⟨g5, g6⟩, g7⟩, g8⟩ := g2
      have hat := when_at g4
      exact e.2 ((next_vl L i a b L.length).2 ⟨whenN L b 5, g4, comW_iff.2 ⟨hat.2, by rw [hat.1]; exact g6⟩, hat.1, g8⟩)
  constructor
  · constructor
    · rintro ⟨i, hi, g | g | g⟩
      · have := (next i hi).1 g; exact ⟨this.1, i, hi, .inl this.2⟩
      · have := (upon i hi).1 g; exact ⟨this.1, i, hi, .inr (.inl this.2)⟩
      · have := (past i hi).1 g; exact ⟨this.1, i, hi, .inr (.inr this.2)⟩
    · rintro ⟨hp, i, hi, g | g | g⟩
      · exact ⟨i, hi, .inl ((next i hi).2 ⟨hp, g⟩)⟩
      · exact ⟨i, hi, .inr (.inl ((upon i hi).2 ⟨hp, g⟩))⟩
      · exact ⟨i, hi, .inr (.inr ((past i hi).2 ⟨hp, g⟩))⟩
  · have fin : whenN L a 5 < L.length → whenN L b 5 < L.length → ((tx v b).bg < (tx v a).en ↔ whenN L b 4 < whenN L a 5) := fun ga gb => by
      rw [h.bg b hb (b4 b gb), h.en a ha ga, ord2 b a (b4 b gb) ga]
    have hpair : pairL L a b = true → whenN L a 5 < L.length ∧ whenN L b 5 < L.length := fun g => by
      unfold pairL at g
      simp only [Bool.and_eq_true, decide_eq_true_eq] at g
      exact ⟨g.1.2, g.2⟩
    constructor
    · rintro ⟨i, hi, g, q⟩
      have := (past i hi).1 g
      obtain ⟨p1, p2⟩ := hpair this.1
      refine ⟨this.1, i, hi, ?_⟩
      unfold t4L
      rw [this.2, Bool.true_and, decide_eq_true_eq]
      exact (fin p1 p2).1 q
    · rintro ⟨hp, i, hi, g⟩
      obtain ⟨p1, p2⟩ := hpair hp
      unfold t4L at g
      rw [Bool.and_eq_true, decide_eq_true_eq] at g
      exact ⟨i, hi, (past i hi).2 ⟨hp, g.1⟩, (fin p1 p2).2 g.2⟩
theorem Rel.ed {v : V} {L : List D4} {S : Nat} (hI : Inv v) (h : Rel v L S) : edL L = ed v := by
  obtain ⟨f1, f2⟩ := five_ed hI
  obtain ⟨g1, g2⟩ := five_aToL L 5
  refine Prod.ext ?_ ?_
  · refine ext_rel g1.2 f1.2 (g1.1.trans f1.1.symm) fun i j hi hj => ?_
    have hi5 : i < 5 := by have := g1.1; unfold edL at hi; omega
    have hj5 : j < 5 := by have := g1.1; unfold edL at hj; omega
    rw [Bool.eq_iff_iff, (rel_ed hI i j).1, (h.edges hI hi5 hj5).1]
    exact (rel_aToL L 5 (Nat.le_refl _) i j).1.trans ⟨fun q => q.2.2, fun q => ⟨hi5, hj5, q⟩⟩
  · refine ext_rel g2.2 f2.2 (g2.1.trans f2.1.symm) fun i j hi hj => ?_
    have hi5 : i < 5 := by have := g2.1; unfold edL at hi; omega
    have hj5 : j < 5 := by have := g2.1; unfold edL at hj; omega
    rw [Bool.eq_iff_iff, (rel_ed hI i j).2, (h.edges hI hi5 hj5).2]
    exact (rel_aToL L 5 (Nat.le_refl _) i j).2.trans ⟨fun q => q.2.2, fun q => ⟨hi5, hj5, q⟩⟩
end Vw
end Go.Proofs.YtkindaadadggoaaDoor
