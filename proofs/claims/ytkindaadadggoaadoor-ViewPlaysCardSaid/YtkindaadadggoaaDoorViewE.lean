/- Plain words on a store's edges, as they are computed, and what they mean. No program is in sight. Conditions: none. -/
import Derived.Test.YtkindaadadggoaaDoorViewR
namespace Go.Proofs.YtkindaadadggoaaDoor
namespace Vw
open Odr Sch

/-- of two versions of an item, one behind the other -/
def kstep (l : List Ver) (k : Nat) (B : List Nat) : List Nat := if 0 ≤ (l.getD k dv).1 then more B (l.getD k dv).1.toNat (l.getD (k + 1) dv).1.toNat else B
def kTo (l : List Ver) (B : List Nat) : Nat → List Nat
  | 0 => B
  | k + 1 => kstep l k (kTo l B k)
/-- what one read, and one version of it -/
def vstepE (v : V) (i : Nat) (p : Ver) (b : List Nat × List Nat) : List Nat × List Nat :=
  if p.1 = (i : Int) ∨ p.1 < 0 then b
  else if p.2 ≤ (tx v i).bg then (more b.1 p.1.toNat i, b.2)
  else (more b.1 i p.1.toNat, if (tx v p.1.toNat).bg < (tx v i).en then more b.2 i p.1.toNat else b.2)
def vTo (v : V) (i : Nat) (l : List Ver) (b : List Nat × List Nat) : Nat → List Nat × List Nat
  | 0 => b
  | n + 1 => vstepE v i (l.getD n dv) (vTo v i l b n)
def istep (v : V) (item i : Nat) (b : List Nat × List Nat) : List Nat × List Nat := if (tx v i).rds.testBit item = true then vTo v i (verl v item) b (verl v item).length else b
def bTo (v : V) (item : Nat) (b : List Nat × List Nat) (s : List Nat) : List Nat × List Nat := s.foldl (fun b i => istep v item i b) b
theorem bTo_snoc (v : V) (item : Nat) (b : List Nat × List Nat) (s : List Nat) (i : Nat) : bTo v item b (s ++ [i]) = istep v item i (bTo v item b s) := by
  unfold bTo
  rw [List.foldl_append]
  rfl
def committed (v : V) : List Nat := (List.range 5).filter fun x => decide ((tx v x).ph = 2)
def edTo (v : V) : Nat → List Nat × List Nat
  | 0 => ([0, 0, 0, 0, 0], [0, 0, 0, 0, 0])
  | m + 1 => bTo v m (kTo (verl v m) (edTo v m).1 ((verl v m).length - 1), (edTo v m).2) (committed v)
def ed (v : V) : List Nat × List Nat := edTo v 4

/-- five sets of five -/
def Five (l : List Nat) : Prop := l.length = 5 ∧ Fits l
theorem Five.more {l : List Nat} (h : Five l) {a b : Nat} (hb : b < 5) : Five (more l a b) := ⟨by rw [length_more]; exact h.1, h.2.more (by rw [h.1]; exact hb)⟩
theorem Five.lt {l : List Nat} (h : Five l) (k : Nat) : l.getD k 0 < 32 := by
  have := h.2.getD k
  rw [h.1] at this
  exact this
theorem five0 : Five [0, 0, 0, 0, 0] := ⟨rfl, by unfold Fits; decide⟩
theorem rel0 (a b : Nat) : rel [0, 0, 0, 0, 0] a b = false := by
  unfold rel
  match a with
  | 0 => simp
  | 1 => simp
  | 2 => simp
  | 3 => simp
  | 4 => simp
  | a + 5 => simp [List.getD_eq_getElem?_getD]

theorem Inv.ver {v : V} (h : Inv v) {i : Nat} (hi : i < 4) {p : Ver} (hp : p ∈ verl v i) : p.1 < 5 ∧ -1 ≤ p.1 := by
  rcases h.mem i hi p hp with rfl | ⟨x, h1, rfl, _⟩
  · decide
  · show (x : Int) < 5 ∧ -1 ≤ (x : Int); omega
theorem Inv.ver_at {v : V} (h : Inv v) {i : Nat} (hi : i < 4) (k : Nat) : ((verl v i).getD k dv).1 < 5 ∧ -1 ≤ ((verl v i).getD k dv).1 := by
  by_cases hk : k < (verl v i).length
  · rw [getD_at hk]; exact h.ver hi (List.getElem_mem hk)
  · rw [List.getD_eq_getElem?_getD, List.getElem?_eq_none (by omega)]; decide
/-- but for the first one each version is somebody's -/
theorem Inv.ver_pos {v : V} (h : Inv v) {i : Nat} (hi : i < 4) {k : Nat} (hk : k + 1 < (verl v i).length) : ∃ c : Nat, c < 5 ∧ ((verl v i).getD (k + 1) dv).1 = (c : Int) := by
  rw [getD_at hk]
  rcases h.mem i hi _ (List.getElem_mem hk) with g | ⟨x, h1, g2, _, _⟩
  · exfalso
    have h0 := h.hed i hi
    have hl0 : 0 < (verl v i).length := by omega
    rw [List.getElem?_eq_getElem hl0] at h0
    have hs := List.pairwise_iff_getElem.1 (h.srt i hi) 0 (k + 1) hl0 hk (by omega)
    rw [g] at hs
    exact absurd hs (Nat.not_lt_zero _)
  · exact ⟨x, h1, by rw [g2]⟩

theorem five_kTo {v : V} (h : Inv v) {i : Nat} (hi : i < 4) {B : List Nat} (hB : Five B) (n : Nat) (hn : n + 1 ≤ (verl v i).length) : Five (kTo (verl v i) B n) := by
  induction n with
  | zero => exact hB
  | succ n ih =>
    rw [kTo, kstep]
    split
    · obtain ⟨c, c1, c2⟩ := h.ver_pos hi (k := n) (by omega)
      exact (ih (by omega)).more (by rw [c2]; omega)
    · exact ih (by omega)
theorem rel_kTo {v : V} (h : Inv v) {i : Nat} (hi : i < 4) {B : List Nat} (hB : Five B) (n : Nat) (hn : n + 1 ≤ (verl v i).length) (a b : Nat) :
    rel (kTo (verl v i) B n) a b = true ↔ rel B a b = true ∨ ∃ k, k < n ∧ ((verl v i).getD k dv).1 = (a : Int) ∧ ((verl v i).getD (k + 1) dv).1 = (b : Int) := by
  induction n with
  | zero => simp [kTo]
  | succ n ih =>
    have ih := ih (by omega)
    have h5 := five_kTo h hi hB n (by omega)
    obtain ⟨c, c1, c2⟩ := h.ver_pos hi (k := n) (by omega)
    have hv := h.ver_at hi n
    rw [kTo, kstep]
    split
    · rename_i h0
      rw [rel_more (by rw [h5.1]; omega), Bool.or_eq_true, ih, c2]
      simp only [Bool.and_eq_true, decide_eq_true_eq]
      constructor
      · rintro ((g | ⟨k, hk, g⟩) | ⟨g1, g2⟩)
        · exact .inl g
        · exact .inr ⟨k, by omega, g⟩
        · exact .inr ⟨n, by omega, by omega, by rw [c2]; omega⟩
      · rintro (g | ⟨k, hk, g1, g2⟩)
        · exact .inl (.inl g)
        · by_cases e : k < n
          · exact .inl (.inr ⟨k, e, g1, g2⟩)
          · obtain rfl : k = n := by omega
            rw [c2] at g2
            exact .inr ⟨by omega, by omega⟩
    · rename_i h0
      rw [ih]
      constructor
      · rintro (g | ⟨k, hk, g⟩)
        · exact .inl g
        · exact .inr ⟨k, by omega, g⟩
      · rintro (g | ⟨k, hk, g1, g2⟩)
        · exact .inl g
        · by_cases e : k < n
          · exact .inr ⟨k, e, g1, g2⟩
          · obtain rfl : k = n := by omega
            omega
theorem five_vstep {v : V} {i : Nat} (hi : i < 5) {p : Ver} (hp : p.1 < 5) {b : List Nat × List Nat} (hb : Five b.1 ∧ Five b.2) : Five (vstepE v i p b).1 ∧ Five (vstepE v i p b).2 := by
  unfold vstepE
  split
  · exact hb
  split
  · exact ⟨hb.1.more hi, hb.2⟩
  · refine ⟨hb.1.more (by omega), ?_⟩
    show Five (if (tx v p.1.toNat).bg < (tx v i).en then more b.2 i p.1.toNat else b.2)
    split
    · exact hb.2.more (by omega)
    · exact hb.2
theorem five_vTo {v : V} (h : Inv v) {i m : Nat} (hi : i < 5) (hm : m < 4) {b : List Nat × List Nat} (hb : Five b.1 ∧ Five b.2) (n : Nat) : Five (vTo v i (verl v m) b n).1 ∧ Five (vTo v i (verl v m) b n).2 := by
  induction n with
  | zero => exact hb
  | succ n ih => exact five_vstep hi (h.ver_at hm n).1 ih
/-- what one version adds -/
def addB (v : V) (i : Nat) (p : Ver) (a b : Nat) : Prop := p.1 ≠ (i : Int) ∧ ((p.1 = (a : Int) ∧ b = i ∧ p.2 ≤ (tx v i).bg) ∨ (p.1 = (b : Int) ∧ a = i ∧ (tx v i).bg < p.2))
def addO (v : V) (i : Nat) (p : Ver) (a b : Nat) : Prop := p.1 ≠ (i : Int) ∧ p.1 = (b : Int) ∧ a = i ∧ (tx v i).bg < p.2 ∧ (tx v b).bg < (tx v i).en
theorem rel_vstep {v : V} {i : Nat} (hi : i < 5) {p : Ver} (hp : p.1 < 5 ∧ -1 ≤ p.1) {s : List Nat × List Nat} (hs : Five s.1 ∧ Five s.2) (a b : Nat) :
    (rel (vstepE v i p s).1 a b = true ↔ rel s.1 a b = true ∨ addB v i p a b) ∧ (rel (vstepE v i p s).2 a b = true ↔ rel s.2 a b = true ∨ addO v i p a b) := by
  unfold vstepE addB addO
  split
  · rename_i h0
    refine ⟨⟨fun h => .inl h, ?_⟩, ⟨fun h => .inl h, ?_⟩⟩
    · rintro (h | ⟨h1, ⟨h2, _⟩ | ⟨h2, _⟩⟩)
      · exact h
      · omega
      · omega
    · rintro (h | ⟨h1, h2, _⟩)
      · exact h
      · omega
  rename_i h0
  split
  · rename_i h1
    refine ⟨?_, ⟨fun h => .inl h, ?_⟩⟩
    · show rel (more s.1 p.1.toNat i) a b = true ↔ _
      rw [rel_more (by rw [hs.1.1]; omega), Bool.or_eq_true]
      simp only [Bool.and_eq_true, decide_eq_true_eq]
      constructor
      · rintro (h | ⟨h2, h3⟩)
        · exact .inl h
        · exact .inr ⟨by omega, .inl ⟨by omega, h3, h1⟩⟩
      · rintro (h | ⟨_, ⟨h2, h3, _⟩ | ⟨_, _, h3⟩⟩)
        · exact .inl h
        · exact .inr ⟨by omega, h3⟩
        · omega
    · rintro (h | ⟨_, _, _, h2, _⟩)
      · exact h
      · omega
  · rename_i h1
    refine ⟨?_, ?_⟩
    · show rel (more s.1 i p.1.toNat) a b = true ↔ _
      rw [rel_more (by rw [hs.1.1]; omega), Bool.or_eq_true]
      simp only [Bool.and_eq_true, decide_eq_true_eq]
      constructor
      · rintro (h | ⟨h2, h3⟩)
        · exact .inl h
        · exact .inr ⟨by omega, .inr ⟨by omega, h2, by omega⟩⟩
      · rintro (h | ⟨_, ⟨_, _, h2⟩ | ⟨h2, h3, _⟩⟩)
        · exact .inl h
        · omega
        · exact .inr ⟨h3, by omega⟩
    · show rel (if (tx v p.1.toNat).bg < (tx v i).en then more s.2 i p.1.toNat else s.2) a b = true ↔ _
      have hc : ∀ x : Nat, p.1 = (x : Int) → p.1.toNat = x := fun x e => by omega
      split
      · rename_i h2
        rw [rel_more (by rw [hs.2.1]; omega), Bool.or_eq_true]
        simp only [Bool.and_eq_true, decide_eq_true_eq]
        constructor
        · rintro (h | ⟨h3, h4⟩)
          · exact .inl h
          · exact .inr ⟨by omega, by omega, h3, by omega, by rw [h4]; exact h2⟩
        · rintro (h | ⟨_, h3, h4, _⟩)
          · exact .inl h
          · exact .inr ⟨h4, by omega⟩
      · rename_i h2
        refine ⟨fun h => .inl h, ?_⟩
        rintro (h | ⟨_, h3, _, _, h5⟩)
        · exact h
        · rw [hc b h3] at h2
          exact absurd h5 h2
theorem rel_vTo {v : V} (h : Inv v) {i m : Nat} (hi : i < 5) (hm : m < 4) {s : List Nat × List Nat} (hs : Five s.1 ∧ Five s.2) (n : Nat) (a b : Nat) :
    (rel (vTo v i (verl v m) s n).1 a b = true ↔ rel s.1 a b = true ∨ ∃ k, k < n ∧ addB v i ((verl v m).getD k dv) a b) ∧ (rel (vTo v i (verl v m) s n).2 a b = true ↔ rel s.2 a b = true ∨ ∃ k, k < n ∧ addO v i ((verl v m).getD k dv) a b) := by
  induction n with
  | zero => simp [vTo]
  | succ n ih =>
    obtain ⟨e1, e2⟩ := rel_vstep (v := v) hi (h.ver_at hm n) (five_vTo h hi hm hs n) a b
    have key : ∀ {A R : Prop} {P : Nat → Prop}, (A ↔ R ∨ ∃ k, k < n ∧ P k) → (A ∨ P n ↔ R ∨ ∃ k, k < n + 1 ∧ P k) := by
      intro A R P hA
      rw [hA]
      constructor
      · rintro ((g | ⟨k, hk, g⟩) | g)
        · exact .inl g
        · exact .inr ⟨k, by omega, g⟩
        · exact .inr ⟨n, by omega, g⟩
      · rintro (g | ⟨k, hk, g⟩)
        · exact .inl (.inl g)
        · by_cases e : k < n
          · exact .inl (.inr ⟨k, e, g⟩)
          · obtain rfl : k = n := by omega
            exact .inr g
    exact ⟨e1.trans (key ih.1), e2.trans (key ih.2)⟩
theorem five_istep {v : V} (h : Inv v) {i m : Nat} (hi : i < 5) (hm : m < 4) {s : List Nat × List Nat} (hs : Five s.1 ∧ Five s.2) : Five (istep v m i s).1 ∧ Five (istep v m i s).2 := by
  unfold istep
  split
  · exact five_vTo h hi hm hs _
  · exact hs
theorem five_bTo {v : V} (h : Inv v) {m : Nat} (hm : m < 4) (l : List Nat) (hl : ∀ x ∈ l, x < 5) : ∀ {s : List Nat × List Nat}, Five s.1 ∧ Five s.2 → Five (bTo v m s l).1 ∧ Five (bTo v m s l).2 := by
  induction l with
  | nil => intro s hs; exact hs
  | cons i l ih => intro s hs; exact ih (fun x hx => hl x (List.mem_cons_of_mem _ hx)) (five_istep h (hl i (List.mem_cons_self ..)) hm hs)
def inB (v : V) (m i a b : Nat) : Prop := (tx v i).rds.testBit m = true ∧ ∃ k, k < (verl v m).length ∧ addB v i ((verl v m).getD k dv) a b
def inO (v : V) (m i a b : Nat) : Prop := (tx v i).rds.testBit m = true ∧ ∃ k, k < (verl v m).length ∧ addO v i ((verl v m).getD k dv) a b
theorem rel_istep {v : V} (h : Inv v) {i m : Nat} (hi : i < 5) (hm : m < 4) {s : List Nat × List Nat} (hs : Five s.1 ∧ Five s.2) (a b : Nat) :
    (rel (istep v m i s).1 a b = true ↔ rel s.1 a b = true ∨ inB v m i a b) ∧ (rel (istep v m i s).2 a b = true ↔ rel s.2 a b = true ∨ inO v m i a b) := by
  unfold istep inB inO
  split
  · rename_i h0
    obtain ⟨e1, e2⟩ := rel_vTo h hi hm hs (verl v m).length a b
    simp only [h0, true_and]
    exact ⟨e1, e2⟩
  · rename_i h0
    exact ⟨⟨fun h => .inl h, fun h => h.elim id fun g => absurd g.1 h0⟩, ⟨fun h => .inl h, fun h => h.elim id fun g => absurd g.1 h0⟩⟩
theorem rel_bTo {v : V} (h : Inv v) {m : Nat} (hm : m < 4) (a b : Nat) (l : List Nat) (hl : ∀ x ∈ l, x < 5) : ∀ {s : List Nat × List Nat}, Five s.1 ∧ Five s.2 →
    (rel (bTo v m s l).1 a b = true ↔ rel s.1 a b = true ∨ ∃ i, i ∈ l ∧ inB v m i a b) ∧ (rel (bTo v m s l).2 a b = true ↔ rel s.2 a b = true ∨ ∃ i, i ∈ l ∧ inO v m i a b) := by
  induction l with
  | nil => intro s _; simp [bTo]
  | cons i l ih =>
    intro s hs
    have hi := hl i (List.mem_cons_self ..)
    obtain ⟨e1, e2⟩ := ih (fun x hx => hl x (List.mem_cons_of_mem _ hx)) (five_istep h hi hm hs)
    obtain ⟨f1, f2⟩ := rel_istep h hi hm hs a b
    have key : ∀ {A R P : Prop} {Q : Nat → Prop}, (A ↔ R ∨ Q i) → ((A ∨ ∃ x, x ∈ l ∧ Q x) ↔ R ∨ ∃ x, x ∈ i :: l ∧ Q x) := by
      intro A R _ Q hA
      rw [hA]
      simp only [List.mem_cons]
      constructor
      · rintro ((g | g) | ⟨x, hx, g⟩)
        · exact .inl g
        · exact .inr ⟨i, .inl rfl, g⟩
        · exact .inr ⟨x, .inr hx, g⟩
      · rintro (g | ⟨x, rfl | hx, g⟩)
        · exact .inl (.inl g)
        · exact .inl (.inr g)
        · exact .inr ⟨x, hx, g⟩
    exact ⟨e1.trans (key (P := True) f1), e2.trans (key (P := True) f2)⟩
theorem mem_committed {v : V} {x : Nat} : x ∈ committed v ↔ x < 5 ∧ (tx v x).ph = 2 := by
  unfold committed
  rw [List.mem_filter, List.mem_range]
  simp
theorem Inv.ver_len {v : V} (h : Inv v) {m : Nat} (hm : m < 4) : 1 ≤ (verl v m).length := (List.getElem?_eq_some_iff.1 (h.hed m hm)).1
theorem five_edTo {v : V} (h : Inv v) (m : Nat) (hm : m ≤ 4) : Five (edTo v m).1 ∧ Five (edTo v m).2 := by
  induction m with
  | zero => exact ⟨five0, five0⟩
  | succ m ih =>
    have ih := ih (by omega)
    have hl := h.ver_len (m := m) (by omega)
    exact five_bTo h (by omega) _ (fun x hx => (mem_committed.1 hx).1) ⟨five_kTo h (by omega) ih.1 _ (by omega), ih.2⟩
theorem rel_edTo {v : V} (h : Inv v) (m : Nat) (hm : m ≤ 4) (a b : Nat) :
    (rel (edTo v m).1 a b = true ↔ ∃ i, i < m ∧ (Next v i a b ∨ ∃ x, x ∈ committed v ∧ inB v i x a b)) ∧ (rel (edTo v m).2 a b = true ↔ ∃ i, i < m ∧ ∃ x, x ∈ committed v ∧ inO v i x a b) := by
  induction m with
  | zero => simp [edTo, rel0]
  | succ m ih =>
    obtain ⟨i1, i2⟩ := ih (by omega)
    obtain ⟨f1, f2⟩ := five_edTo h m (by omega)
    have hl := h.ver_len (m := m) (by omega)
    have fk := five_kTo h (i := m) (by omega) f1 ((verl v m).length - 1) (by omega)
    obtain ⟨e1, e2⟩ := rel_bTo h (m := m) (by omega) a b (committed v) (fun x hx => (mem_committed.1 hx).1) (s := (kTo (verl v m) (edTo v m).1 ((verl v m).length - 1), (edTo v m).2)) ⟨fk, f2⟩
    have ek := rel_kTo h (i := m) (by omega) f1 ((verl v m).length - 1) (by omega) a b
    have hn : (∃ k, k < (verl v m).length - 1 ∧ ((verl v m).getD k dv).1 = (a : Int) ∧ ((verl v m).getD (k + 1) dv).1 = (b : Int)) ↔ Next v m a b :=
      ⟨fun ⟨k, hk, g⟩ => ⟨k, by omega, g⟩, fun ⟨k, hk, g⟩ => ⟨k, by omega, g⟩⟩
    rw [hn] at ek
    refine ⟨e1.trans ?_, e2.trans ?_⟩
    · show rel (kTo (verl v m) (edTo v m).1 ((verl v m).length - 1)) a b = true ∨ _ ↔ _
      rw [ek, i1]
      constructor
      · rintro ((⟨i, hi, g⟩ | g) | g)
        · exact ⟨i, by omega, g⟩
        · exact ⟨m, by omega, .inl g⟩
        · exact ⟨m, by omega, .inr g⟩
      · rintro ⟨i, hi, g⟩
        by_cases e : i < m
        · exact .inl (.inl ⟨i, e, g⟩)
        · obtain rfl : i = m := by omega
          rcases g with g | g
          · exact .inl (.inr g)
          · exact .inr g
    · show rel (edTo v m).2 a b = true ∨ _ ↔ _
      rw [i2]
      constructor
      · rintro (⟨i, hi, g⟩ | g)
        · exact ⟨i, by omega, g⟩
        · exact ⟨m, by omega, g⟩
      · rintro ⟨i, hi, g⟩
        by_cases e : i < m
        · exact .inl ⟨i, e, g⟩
        · obtain rfl : i = m := by omega
          exact .inr g
theorem inB_iff {v : V} (h : Inv v) {m : Nat} (hm : m < 4) (a b : Nat) : (∃ x, x ∈ committed v ∧ inB v m x a b) ↔ Upon v m a b ∨ Past v m a b := by
  constructor
  · rintro ⟨x, hx, hr, k, hk, hne, ⟨h1, rfl, h3⟩ | ⟨h1, rfl, h3⟩⟩
    · obtain ⟨a1, a2, a3⟩ := h.at_ hm hk h1
      rw [h1] at hne
      rw [a3] at h3
      exact .inl ⟨fun e => hne (by rw [e]), ⟨(mem_committed.1 hx).2, hr⟩, a2, h3⟩
    · obtain ⟨a1, a2, a3⟩ := h.at_ hm hk h1
      rw [h1] at hne
      rw [a3] at h3
      exact .inr ⟨fun e => hne (by rw [e]), ⟨(mem_committed.1 hx).2, hr⟩, a2, h3⟩
  · rintro (⟨hne, hr, hw, he⟩ | ⟨hne, hr, hw, he⟩)
    · have ha5 := h.lt5 (x := a) (by rw [hw.1]; decide)
      obtain ⟨k, hk, ek⟩ := List.mem_iff_getElem.1 (h.all m hm a ha5 hw.1 hw.2)
      refine ⟨b, mem_committed.2 ⟨h.lt5 (by rw [hr.1]; decide), hr.1⟩, hr.2, k, hk, ?_⟩
      rw [getD_at hk, ek]
      exact ⟨fun e => hne (by have : (a : Int) = (b : Int) := e; omega), .inl ⟨rfl, rfl, he⟩⟩
    · have hb5 := h.lt5 (x := b) (by rw [hw.1]; decide)
      obtain ⟨k, hk, ek⟩ := List.mem_iff_getElem.1 (h.all m hm b hb5 hw.1 hw.2)
      refine ⟨a, mem_committed.2 ⟨h.lt5 (by rw [hr.1]; decide), hr.1⟩, hr.2, k, hk, ?_⟩
      rw [getD_at hk, ek]
      exact ⟨fun e => hne (by have : (b : Int) = (a : Int) := e; omega), .inr ⟨rfl, rfl, he⟩⟩
theorem inO_iff {v : V} (h : Inv v) {m : Nat} (hm : m < 4) (a b : Nat) : (∃ x, x ∈ committed v ∧ inO v m x a b) ↔ Past v m a b ∧ (tx v b).bg < (tx v a).en := by
  constructor
  · rintro ⟨x, hx, hr, k, hk, hne, h1, rfl, h3, h4⟩
    obtain ⟨a1, a2, a3⟩ := h.at_ hm hk h1
    rw [h1] at hne
    rw [a3] at h3
    exact ⟨⟨fun e => hne (by rw [e]), ⟨(mem_committed.1 hx).2, hr⟩, a2, h3⟩, h4⟩
  · rintro ⟨⟨hne, hr, hw, he⟩, h4⟩
    have hb5 := h.lt5 (x := b) (by rw [hw.1]; decide)
    obtain ⟨k, hk, ek⟩ := List.mem_iff_getElem.1 (h.all m hm b hb5 hw.1 hw.2)
    refine ⟨a, mem_committed.2 ⟨h.lt5 (by rw [hr.1]; decide), hr.1⟩, hr.2, k, hk, ?_⟩
    rw [getD_at hk, ek]
    exact ⟨fun e => hne (by have : (b : Int) = (a : Int) := e; omega), rfl, rfl, he, h4⟩
/-- the edges are what they mean -/
theorem rel_ed {v : V} (h : Inv v) (a b : Nat) : (rel (ed v).1 a b = true ↔ Beh v a b) ∧ (rel (ed v).2 a b = true ↔ Over v a b) := by
  obtain ⟨e1, e2⟩ := rel_edTo h 4 (Nat.le_refl _) a b
  refine ⟨e1.trans ⟨fun ⟨i, hi, g⟩ => ⟨i, hi, ?_⟩, fun ⟨i, hi, g⟩ => ⟨i, hi, ?_⟩⟩, e2.trans ⟨fun ⟨i, hi, g⟩ => ⟨i, hi, (inO_iff h hi a b).1 g⟩, fun ⟨i, hi, g⟩ => ⟨i, hi, (inO_iff h hi a b).2 g⟩⟩⟩
  · rcases g with g | g
    · exact .inl g
    · exact .inr ((inB_iff h hi a b).1 g)
  · rcases g with g | g
    · exact .inl g
    · exact .inr ((inB_iff h hi a b).2 g)
theorem five_ed {v : V} (h : Inv v) : Five (ed v).1 ∧ Five (ed v).2 := five_edTo h 4 (Nat.le_refl _)
/-- is somebody's reading written over by one whose own is? -/
def danger (v : V) : Bool := (List.range 5).any fun i => (List.range 5).any fun j => rel (ed v).2 i j && decide ((ed v).2.getD j 0 ≠ 0) && decide (i ≠ j)
theorem danger_iff {v : V} (h : Inv v) : danger v = true ↔ ∃ a b c, Over v a b ∧ Over v b c := by
  unfold danger
  simp only [List.any_eq_true, List.mem_range, Bool.and_eq_true, decide_eq_true_eq]
  constructor
  · rintro ⟨i, _, j, _, ⟨h1, h2⟩, _⟩
    obtain ⟨c, hc⟩ := Nat.exists_testBit_of_ne_zero h2
    exact ⟨i, j, c, (rel_ed h i j).2.1 h1, (rel_ed h j c).2.1 hc⟩
  · rintro ⟨a, b, c, ⟨i, hi, ⟨h1, h2, h3, h4⟩, h5⟩, h6⟩
    have ho : Over v a b := ⟨i, hi, ⟨h1, h2, h3, h4⟩, h5⟩
    have hr := (rel_ed h b c).2.2 h6
    refine ⟨a, h.lt5 (by rw [h2.1]; decide), b, h.lt5 (by rw [h3.1]; decide), ⟨(rel_ed h a b).2.2 ho, fun e => ?_⟩, h1⟩
    unfold rel at hr
    rw [e, Nat.zero_testBit] at hr; cases hr
/-- where there is no danger there is a row -/
theorem row_safe {v : V} (h : Inv v) (hd : danger v = false) : (Rw.row (ed v).1).isSome = true := by
  have hn : ∀ a b c, Over v a b → ¬ Over v b c := fun a b c h1 h2 => by
    rw [(danger_iff h).2 ⟨a, b, c, h1, h2⟩] at hd; cases hd
  rw [Rw.row_isSome_iff (five_ed h).1.2]
  intro i
  have hK : ∃ K : Nat → Nat, (∀ x, (∃ y, Over v x y) → K x = 2 * (tx v x).bg + 1) ∧ ∀ x, (¬ ∃ y, Over v x y) → K x = 2 * (tx v x).en := by
    refine ⟨fun x => @ite _ (∃ y, Over v x y) (Classical.propDecidable _) (2 * (tx v x).bg + 1) (2 * (tx v x).en), fun x hx => if_pos hx, fun x hx => if_neg hx⟩
  obtain ⟨K, k1, k2⟩ := hK
  cases hc : rel (closed (ed v).1) i i
  · rfl
  · exfalso
    rw [closed_iff] at hc
    have := hc (fun a b => K a < K b) (fun a b hab => key_up h hn K k1 k2 ((rel_ed h a b).1.1 hab)) (fun a b c h1 h2 => Nat.lt_trans h1 h2)
    omega
end Vw
end Go.Proofs.YtkindaadadggoaaDoor
