/- Plain words on the reference's store of views: the deeds that were done, in their order, and what the program's store tells of them. No program is in sight. Conditions: none. -/
import Derived.Test.YtkindaadadggoaaDoorViewE
import Derived.Test.YtkindaadadggoaaDoorViewR
namespace Go.Proofs.YtkindaadadggoaaDoor
namespace Vw
open Odr Sch

def d0 : D4 := (0, 0, 0, 0)
def dat (L : List D4) (n : Nat) : D4 := L.getD n d0
def isAt (x k : Nat) (d : D4) : Bool := decide (d.2.1 = x) && decide (d.1 = k)
def isDo (x i : Nat) (d : D4) : Bool := decide (d.2.1 = x) && decide (d.1 = 3) && decide (d.2.2.1 = i)
def isWr (x i : Nat) (d : D4) : Bool := isDo x i d && decide (d.2.2.2 = 1)
def whenN (L : List D4) (x k : Nat) : Nat := L.findIdx (isAt x k)
def wroteL (L : List D4) (x i : Nat) : Bool := L.any (isWr x i)
def firstL (L : List D4) (x i : Nat) : Bool := match L.find? (isDo x i) with
  | some d => decide (d.2.2.2 = 0)
  | none => false
def comW (L : List D4) (i n : Nat) : Bool := decide ((dat L n).1 = 5) && wroteL L (dat L n).2.1 i
def lastOf (L : List D4) (i : Nat) : Nat → Int
  | 0 => -1
  | n + 1 => if comW L i n = true then (((dat L n).2.1 : Nat) : Int) else lastOf L i n
def cnt (L : List D4) : Nat → Nat
  | 0 => 0
  | n + 1 => if (dat L n).1 = 5 then cnt L n + 1 else cnt L n
def vl (L : List D4) (i : Nat) : Nat → List Ver
  | 0 => [dv]
  | n + 1 => if comW L i n = true then vl L i n ++ [((((dat L n).2.1 : Nat) : Int), cnt L n + 1)] else vl L i n

section
variable {L : List D4} {d : D4}
theorem dat_lt {n : Nat} (h : n < L.length) : dat (L ++ [d]) n = dat L n := by
  unfold dat
  rw [List.getD_eq_getElem?_getD, List.getD_eq_getElem?_getD, List.getElem?_append_left h]
theorem dat_len : dat (L ++ [d]) L.length = d := by simp [dat, List.getD_eq_getElem?_getD]
theorem dat_at {n : Nat} (h : n < L.length) : dat L n = L[n] := by
  unfold dat
  rw [List.getD_eq_getElem?_getD, List.getElem?_eq_getElem h]; rfl
theorem cnt_snoc {n : Nat} (h : n ≤ L.length) : cnt (L ++ [d]) n = cnt L n := by
  induction n with
  | zero => rfl
  | succ n ih => rw [cnt, cnt, dat_lt (by omega), ih (by omega)]
theorem cnt_mono {n m : Nat} (h : n ≤ m) : cnt L n ≤ cnt L m := by
  induction m with
  | zero => obtain rfl : n = 0 := by omega
            exact Nat.le_refl _
  | succ m ih =>
    by_cases e : n = m + 1
    · subst e; exact Nat.le_refl _
    · have := ih (by omega)
      rw [cnt]
      split <;> omega
theorem cnt_lt {n m : Nat} (h5 : (dat L n).1 = 5) (h : n < m) : cnt L n + 1 ≤ cnt L m := by
  have := cnt_mono (L := L) (show n + 1 ≤ m from h)
  rw [cnt, if_pos h5] at this
  exact this
theorem when_snoc (x k : Nat) : whenN (L ++ [d]) x k = if whenN L x k < L.length then whenN L x k else if isAt x k d = true then L.length else L.length + 1 := by
  unfold whenN
  rw [List.findIdx_append]
  split
  · rfl
  · rw [List.findIdx_singleton]
    split
    · omega
    · omega
theorem when_at {x k : Nat} (h : whenN L x k < L.length) : (dat L (whenN L x k)).2.1 = x ∧ (dat L (whenN L x k)).1 = k := by
  have := List.findIdx_getElem (p := isAt x k) (w := h)
  rw [dat_at h]
  unfold isAt at this
  rw [Bool.and_eq_true, decide_eq_true_eq, decide_eq_true_eq] at this
  exact this
theorem when_le {x k n : Nat} (hn : n < L.length) (h1 : (dat L n).2.1 = x) (h2 : (dat L n).1 = k) : whenN L x k ≤ n := by
  rcases Nat.lt_or_ge n (whenN L x k) with g | g
  · exfalso
    have := List.not_of_lt_findIdx g
    rw [dat_at hn] at h1 h2
    unfold isAt at this
    rw [h1, h2] at this
    simp at this
  · exact g
theorem when_le_len (x k : Nat) : whenN L x k ≤ L.length := List.findIdx_le_length
theorem wrote_snoc (x i : Nat) : wroteL (L ++ [d]) x i = (wroteL L x i || isWr x i d) := by
  unfold wroteL
  rw [List.any_append]; simp
theorem isWr_far {x i : Nat} (h : d.2.1 ≠ x) : isWr x i d = false := by simp [isWr, isDo, h]
theorem first_snoc (hL : ∀ n, n < L.length → OkD (dat L n)) (x i : Nat) : firstL (L ++ [d]) x i = (firstL L x i || (isDo x i d && decide (d.2.2.2 = 0) && !(wroteL L x i))) := by
  unfold firstL
  rw [List.find?_append]
  cases h : L.find? (isDo x i) with
  | some e =>
    simp only [Option.some_or]
    by_cases e0 : e.2.2.2 = 0
    · simp [e0]
    · have hm := List.mem_of_find?_eq_some h
      have hp := List.find?_some h
      have hw : wroteL L x i = true := by
        unfold wroteL
        rw [List.any_eq_true]
        refine ⟨e, hm, ?_⟩
        obtain ⟨n, hn, en⟩ := List.mem_iff_getElem.1 hm
        have ho := hL n hn
        rw [dat_at hn, en] at ho
        have hd : isDo x i e = true := hp
        have h3 : e.1 = 3 := by
          unfold isDo at hd
          simp at hd
          exact hd.1.2
        have := (ho.2.2.2 h3).2
        unfold isWr
        rw [hd]
        have : e.2.2.2 = 1 := by omega
        simp [this]
      rw [hw]; simp
  | none =>
    have hw : wroteL L x i = false := by
      unfold wroteL
      rw [List.any_eq_false]
      intro e he
      have := List.find?_eq_none.1 h e he
      unfold isWr
      simp at this
      simp [this]
    rw [hw]
    simp only [Option.none_or, Bool.false_or, Bool.not_false, Bool.and_true]
    rw [List.find?_singleton]
    by_cases g : isDo x i d = true
    · rw [if_pos g, g]; rfl
    · rw [if_neg g]
      have : isDo x i d = false := by simpa using g
      rw [this]; rfl
/-- none that is committed does a thing more -/
def Free (L : List D4) (x : Nat) : Prop := ∀ n, n < L.length → (dat L n).1 = 5 → (dat L n).2.1 ≠ x
theorem comW_snoc (hf : Free L d.2.1) (i : Nat) {n : Nat} (h : n < L.length) : comW (L ++ [d]) i n = comW L i n := by
  unfold comW
  rw [dat_lt h]
  by_cases h5 : (dat L n).1 = 5
  · rw [wrote_snoc, isWr_far (fun e => hf n h h5 e.symm), Bool.or_false]
  · simp [h5]
theorem comW_len (i : Nat) : comW (L ++ [d]) i L.length = (decide (d.1 = 5) && wroteL L d.2.1 i) := by
  unfold comW
  rw [dat_len, wrote_snoc]
  by_cases h5 : d.1 = 5
  · have : isWr d.2.1 i d = false := by simp [isWr, isDo, h5]
    rw [this, Bool.or_false]
  · simp [h5]
theorem lastOf_snoc (hf : Free L d.2.1) (i : Nat) {n : Nat} (h : n ≤ L.length) : lastOf (L ++ [d]) i n = lastOf L i n := by
  induction n with
  | zero => rfl
  | succ n ih => rw [lastOf, lastOf, comW_snoc hf i (by omega), dat_lt (by omega), ih (by omega)]
theorem vl_snoc (hf : Free L d.2.1) (i : Nat) {n : Nat} (h : n ≤ L.length) : vl (L ++ [d]) i n = vl L i n := by
  induction n with
  | zero => rfl
  | succ n ih => rw [vl, vl, comW_snoc hf i (by omega), dat_lt (by omega), ih (by omega), cnt_snoc (by omega)]
theorem vl_len (hf : Free L d.2.1) (i : Nat) : vl (L ++ [d]) i (L.length + 1) = if (decide (d.1 = 5) && wroteL L d.2.1 i) = true then vl L i L.length ++ [(((d.2.1 : Nat) : Int), cnt L L.length + 1)] else vl L i L.length := by
  rw [vl, comW_len, dat_len, vl_snoc hf i (Nat.le_refl _), cnt_snoc (Nat.le_refl _)]
end

/-- what the store's methods read of the versions -/
theorem seen_snoc_le {l : List Ver} {p : Ver} {b : Nat} (h : p.2 ≤ b) : seen (l ++ [p]) b = p := by
  have e : (l ++ [p]).getD l.length dv = p := by simp [List.getD_eq_getElem?_getD]
  unfold seen
  rw [List.length_append, show l.length + [p].length = l.length + 1 from rfl, seenTo, e, if_pos h]
theorem seen_vl (L : List D4) (i b : Nat) : ∀ m, (seen (vl L i m) (cnt L b)).1 = lastOf L i (min m b) := by
  intro m
  induction m with
  | zero => rw [Nat.zero_min]; rfl
  | succ m ih =>
    by_cases hc : comW L i m = true
    · have h5 : (dat L m).1 = 5 := by
        unfold comW at hc
        simp at hc
        exact hc.1
      rw [vl, if_pos hc]
      by_cases hb : b ≤ m
      · rw [seen_snoc (by show cnt L b < cnt L m + 1; have := cnt_mono (L := L) hb; omega), ih, Nat.min_eq_right hb, Nat.min_eq_right (by omega)]
      · rw [seen_snoc_le (by show cnt L m + 1 ≤ cnt L b; exact cnt_lt h5 (by omega)), Nat.min_eq_left (by omega), lastOf, if_pos hc]
    · rw [vl, if_neg hc, ih]
      by_cases hb : b ≤ m
      · rw [Nat.min_eq_right hb, Nat.min_eq_right (by omega)]
      · rw [Nat.min_eq_left (by omega), Nat.min_eq_left (by omega), lastOf, if_neg hc]
theorem lastAt_vl (L : List D4) (i b : Nat) : ∀ m, cnt L b < lastAt (vl L i m) ↔ ∃ n, b ≤ n ∧ n < m ∧ comW L i n = true := by
  intro m
  induction m with
  | zero =>
    constructor
    · intro h
      have h' : cnt L b < 0 := h
      omega
    · rintro ⟨n, _, h, _⟩; omega
  | succ m ih =>
    by_cases hc : comW L i m = true
    · have h5 : (dat L m).1 = 5 := by
        unfold comW at hc
        simp at hc
        exact hc.1
      have e : lastAt (vl L i (m + 1)) = cnt L m + 1 := by
        rw [vl, if_pos hc]
        unfold lastAt
        rw [List.length_append]
        simp [List.getD_eq_getElem?_getD]
      rw [e]
      constructor
      · intro h
        refine ⟨m, ?_, by omega, hc⟩
        rcases Nat.lt_or_ge m b with g | g
        · have := cnt_lt h5 g; omega
        · exact g
      · rintro ⟨n, h1, h2, _⟩
        have := cnt_mono (L := L) (show b ≤ m by omega)
        omega
    · rw [vl, if_neg hc, ih]
      constructor
      · rintro ⟨n, h1, h2, h3⟩; exact ⟨n, h1, by omega, h3⟩
      · rintro ⟨n, h1, h2, h3⟩
        refine ⟨n, h1, ?_, h3⟩
        by_cases e : n = m
        · subst e; exact absurd h3 hc
        · omega
theorem vl_ne (L : List D4) (i m : Nat) : 1 ≤ (vl L i m).length := by
  induction m with
  | zero => exact Nat.le_refl _
  | succ m ih =>
    rw [vl]
    split
    · rw [List.length_append]; omega
    · exact ih
theorem lastEl (L : List D4) (i m : Nat) : ((vl L i m).getD ((vl L i m).length - 1) dv).1 = lastOf L i m := by
  induction m with
  | zero => rfl
  | succ m ih =>
    rw [vl, lastOf]
    split
    · rw [List.length_append]
      simp [List.getD_eq_getElem?_getD]
    · exact ih
def NextL (l : List Ver) (a b : Nat) : Prop := ∃ k, k + 1 < l.length ∧ (l.getD k dv).1 = (a : Int) ∧ (l.getD (k + 1) dv).1 = (b : Int)
theorem nextL_snoc {l : List Ver} {p : Ver} (hl : 1 ≤ l.length) (a b : Nat) : NextL (l ++ [p]) a b ↔ NextL l a b ∨ ((l.getD (l.length - 1) dv).1 = (a : Int) ∧ p.1 = (b : Int)) := by
  have e1 : ∀ k, k < l.length → (l ++ [p]).getD k dv = l.getD k dv := fun k hk => by
    rw [List.getD_eq_getElem?_getD, List.getD_eq_getElem?_getD, List.getElem?_append_left hk]
  have e2 : (l ++ [p]).getD l.length dv = p := by simp [List.getD_eq_getElem?_getD]
  constructor
  · rintro ⟨k, hk, h1, h2⟩
    rw [List.length_append, List.length_singleton] at hk
    by_cases e : k + 1 = l.length
    · right
      rw [e, e2] at h2
      rw [e1 k (by omega)] at h1
      rw [show l.length - 1 = k by omega]
      exact ⟨h1, h2⟩
    · left
      rw [e1 k (by omega)] at h1
      rw [e1 (k + 1) (by omega)] at h2
      exact ⟨k, by omega, h1, h2⟩
  · rintro (⟨k, hk, h1, h2⟩ | ⟨h1, h2⟩)
    · exact ⟨k, by simp; omega, by rw [e1 k (by omega)]; exact h1, by rw [e1 (k + 1) hk]; exact h2⟩
    · refine ⟨l.length - 1, by simp; omega, by rw [e1 _ (by omega)]; exact h1, ?_⟩
      rw [show l.length - 1 + 1 = l.length by omega, e2]; exact h2
theorem next_vl (L : List D4) (i a b : Nat) : ∀ m, NextL (vl L i m) a b ↔ ∃ n, n < m ∧ comW L i n = true ∧ (dat L n).2.1 = b ∧ lastOf L i n = (a : Int) := by
  intro m
  induction m with
  | zero =>
    constructor
    · rintro ⟨k, hk, _⟩
      have hk' : k + 1 < 1 := hk
      omega
    · rintro ⟨n, h, _⟩; omega
  | succ m ih =>
    by_cases hc : comW L i m = true
    · rw [vl, if_pos hc, nextL_snoc (vl_ne L i m), lastEl, ih]
      constructor
      · rintro (⟨n, h1, h2⟩ | ⟨h1, h2⟩)
        · exact ⟨n, by omega, h2⟩
        · exact ⟨m, by omega, hc, Int.ofNat.inj h2, h1⟩
      · rintro ⟨n, h1, h2, h3, h4⟩
        by_cases e : n = m
        · subst e; exact .inr ⟨h4, congrArg Int.ofNat h3⟩
        · exact .inl ⟨n, by omega, h2, h3, h4⟩
    · rw [vl, if_neg hc, ih]
      constructor
      · rintro ⟨n, h1, h2⟩; exact ⟨n, by omega, h2⟩
      · rintro ⟨n, h1, h2, h3⟩
        by_cases e : n = m
        · subst e; exact absurd h2 hc
        · exact ⟨n, by omega, h2, h3⟩

/-- what holds of the deeds that were done -/
structure Hi (L : List D4) (S : Nat) : Prop where
  ok : ∀ n, n < L.length → OkD (dat L n)
  aft : ∀ n m, n < m → m < L.length → (dat L n).1 = 5 → (dat L m).2.1 ≠ (dat L n).2.1
  beg : ∀ n, n < L.length → whenN L (dat L n).2.1 4 ≤ n
  stp : ∀ x, S.testBit x = true → whenN L x 5 = L.length ∧ whenN L x 4 < L.length
def phL (L : List D4) (S x : Nat) : Nat := if S.testBit x = true then 3 else if whenN L x 5 < L.length then 2 else if whenN L x 4 < L.length then 1 else 0
structure Rel (v : V) (L : List D4) (S : Nat) : Prop where
  hi : Hi L S
  ph : ∀ x, x < 5 → (tx v x).ph = phL L S x
  now : v.now = cnt L L.length
  bg : ∀ x, x < 5 → whenN L x 4 < L.length → (tx v x).bg = cnt L (whenN L x 4)
  en : ∀ x, x < 5 → whenN L x 5 < L.length → (tx v x).en = cnt L (whenN L x 5) + 1
  wr : ∀ x, x < 5 → ∀ i, i < 4 → (tx v x).wrt.testBit i = wroteL L x i
  rd : ∀ x, x < 5 → ∀ i, i < 4 → (tx v x).rds.testBit i = firstL L x i
  vs : ∀ i, i < 4 → verl v i = vl L i L.length
theorem free_of {L : List D4} {x : Nat} (hx : whenN L x 5 = L.length) : Free L x := by
  intro n hn h5 e
  have := when_le hn e h5
  omega
/-- a deed more is done -/
theorem Hi.snoc {L : List D4} {S : Nat} (h : Hi L S) {d : D4} (hd : OkD d) (hc : whenN L d.2.1 5 = L.length) (hb : d.1 ≠ 4 → whenN L d.2.1 4 < L.length) (hs : S.testBit d.2.1 = true → d.1 = 3) : Hi (L ++ [d]) S := by
  have hf := free_of hc
  refine ⟨fun n hn => ?_, fun n m hnm hm h5 => ?_, fun n hn => ?_, fun x hx => ?_⟩
  · rw [List.length_append, List.length_singleton] at hn
    by_cases e : n = L.length
    · rw [e, dat_len]; exact hd
    · rw [dat_lt (by omega)]; exact h.ok n (by omega)
  · rw [List.length_append, List.length_singleton] at hm
    rw [dat_lt (n := n) (by omega)] at h5 ⊢
    by_cases e : m = L.length
    · rw [e, dat_len]
      exact fun g => hf n (by omega) h5 g.symm
    · rw [dat_lt (by omega)]
      exact h.aft n m hnm (by omega) h5
  · rw [List.length_append, List.length_singleton] at hn
    by_cases e : n = L.length
    · rw [e, dat_len, when_snoc]
      split
      · omega
      · rename_i g
        have h4 : d.1 = 4 := by
          rcases Nat.lt_or_ge (whenN L d.2.1 4) L.length with q | q
          · omega
          · by_cases h4 : d.1 = 4
            · exact h4
            · have := hb h4; omega
        rw [if_pos (by simp [isAt, h4])]
        exact Nat.le_refl _
    · rw [dat_lt (by omega), when_snoc]
      have := h.beg n (by omega)
      rw [if_pos (by omega)]
      exact this
  · obtain ⟨s1, s2⟩ := h.stp x hx
    rw [List.length_append, List.length_singleton, when_snoc, when_snoc, if_neg (by omega), if_pos s2, if_neg]
    · exact ⟨rfl, by omega⟩
    · intro g
      simp [isAt] at g
      have := hs (by rw [g.1]; exact hx)
      omega
theorem when_lt_snoc {L : List D4} {d : D4} (x k : Nat) : whenN (L ++ [d]) x k < (L ++ [d]).length ↔ whenN L x k < L.length ∨ isAt x k d = true := by
  rw [when_snoc, List.length_append, List.length_singleton]
  split
  · rename_i h; exact ⟨fun _ => .inl h, fun _ => by omega⟩
  · rename_i h
    split
    · rename_i g; exact ⟨fun _ => .inr g, fun _ => by omega⟩
    · rename_i g
      constructor
      · intro q; omega
      · rintro (q | q)
        · exact absurd q h
        · exact absurd q g
theorem isAt_iff {x k : Nat} {d : D4} : isAt x k d = true ↔ d.2.1 = x ∧ d.1 = k := by simp [isAt]
theorem Hi.begun {L : List D4} {S : Nat} (h : Hi L S) {x : Nat} (hx : whenN L x 5 < L.length) : whenN L x 4 ≤ whenN L x 5 := by
  have h1 := when_at hx
  have := h.beg _ hx
  rw [h1.1] at this
  exact this
theorem Hi.ph0 {L : List D4} {S : Nat} (h : Hi L S) (x : Nat) : phL L S x = 0 ↔ whenN L x 4 = L.length := by
  have h4 := when_le_len (L := L) x 4
  have h5 := when_le_len (L := L) x 5
  unfold phL
  by_cases hs : S.testBit x = true
  · have := h.stp x hs
    rw [if_pos hs]
    omega
  · rw [if_neg hs]
    by_cases hc : whenN L x 5 < L.length
    · have := h.begun hc
      rw [if_pos hc]; omega
    · rw [if_neg hc]
      split <;> omega
theorem ph1 (L : List D4) (S : Nat) (x : Nat) : phL L S x = 1 ↔ whenN L x 4 < L.length ∧ whenN L x 5 = L.length ∧ S.testBit x = false := by
  have h4 := when_le_len (L := L) x 4
  have h5 := when_le_len (L := L) x 5
  unfold phL
  by_cases hs : S.testBit x = true
  · rw [if_pos hs, hs]; simp
  · have hs' : S.testBit x = false := by simpa using hs
    rw [if_neg hs, hs']
    by_cases hc : whenN L x 5 < L.length
    · rw [if_pos hc]
      constructor
      · intro q; cases q
      · rintro ⟨_, q, _⟩; omega
    · rw [if_neg hc]
      split
      · rename_i g; exact ⟨fun _ => ⟨g, by omega, rfl⟩, fun _ => rfl⟩
      · rename_i g
        constructor
        · intro q; cases q
        · rintro ⟨q, _⟩; exact absurd q g
theorem Hi.ph2 {L : List D4} {S : Nat} (h : Hi L S) (x : Nat) : phL L S x = 2 ↔ whenN L x 5 < L.length := by
  unfold phL
  by_cases hs : S.testBit x = true
  · have := h.stp x hs
    rw [if_pos hs]
    constructor
    · intro q; cases q
    · intro q; omega
  · rw [if_neg hs]
    split
    · rename_i g; exact ⟨fun _ => g, fun _ => rfl⟩
    · rename_i g
      split
      · constructor
        · intro q; cases q
        · intro q; exact absurd q g
      · constructor
        · intro q; cases q
        · intro q; exact absurd q g
/-- a deed more is done, and the program's store tells it -/
theorem Rel.snoc {v v' : V} {L : List D4} {S : Nat} {d : D4} (h : Rel v L S) (hd : OkD d) (hc : whenN L d.2.1 5 = L.length) (hs : S.testBit d.2.1 = false) (hb : d.1 = 4 ↔ whenN L d.2.1 4 = L.length)
    (tph : ∀ y, y < 5 → (tx v' y).ph = if y = d.2.1 then (if d.1 = 4 then 1 else if d.1 = 5 then 2 else (tx v y).ph) else (tx v y).ph)
    (tbg : ∀ y, y < 5 → (tx v' y).bg = if y = d.2.1 ∧ d.1 = 4 then v.now else (tx v y).bg)
    (ten : ∀ y, y < 5 → (tx v' y).en = if y = d.2.1 ∧ d.1 = 5 then v.now + 1 else (tx v y).en)
    (tnow : v'.now = if d.1 = 5 then v.now + 1 else v.now)
    (twr : ∀ y, y < 5 → ∀ i, i < 4 → (tx v' y).wrt.testBit i = ((tx v y).wrt.testBit i || isWr y i d))
    (trd : ∀ y, y < 5 → ∀ i, i < 4 → (tx v' y).rds.testBit i = ((tx v y).rds.testBit i || (isDo y i d && decide (d.2.2.2 = 0) && !((tx v y).wrt.testBit i))))
    (tvs : ∀ i, i < 4 → verl v' i = if d.1 = 5 ∧ (tx v d.2.1).wrt.testBit i = true then verl v i ++ [(((d.2.1 : Nat) : Int), v.now + 1)] else verl v i) : Rel v' (L ++ [d]) S := by
  have hf := free_of hc
  have hle4 := when_le_len (L := L) d.2.1 4
  have hx5 := hd.2.2.1
  have hlen : (L ++ [d]).length = L.length + 1 := by simp
  refine ⟨h.hi.snoc hd hc (fun g => ?_) (fun g => by rw [hs] at g; cases g), fun y hy => ?_, ?_, fun y hy hw => ?_, fun y hy hw => ?_, fun y hy i hi => ?_, fun y hy i hi => ?_, fun i hi => ?_⟩
  · rcases Nat.lt_or_ge (whenN L d.2.1 4) L.length with q | q
    · exact q
    · exact absurd (hb.2 (by omega)) g
  · rw [tph y hy]
    by_cases e : y = d.2.1
    · rw [if_pos e, e]
      unfold phL
      rw [hs, if_neg (show ¬ (false = true) from Bool.false_ne_true)]
      by_cases h4 : d.1 = 4
      · rw [if_pos h4, if_neg (fun q => ?_), if_pos ((when_lt_snoc _ _).2 (.inr (isAt_iff.2 ⟨rfl, h4⟩)))]
        rcases (when_lt_snoc _ _).1 q with q | q
        · omega
        · have := (isAt_iff.1 q).2; omega
      · rw [if_neg h4]
        by_cases h5 : d.1 = 5
        · rw [if_pos h5, if_pos ((when_lt_snoc _ _).2 (.inr (isAt_iff.2 ⟨rfl, h5⟩)))]
        · have hl4 : whenN L d.2.1 4 < L.length := by
            have := mt hb.2 h4
            omega
          rw [if_neg h5, if_neg (fun q => ?_), if_pos ((when_lt_snoc _ _).2 (.inl hl4)), h.ph _ hx5, (ph1 L S _).2 ⟨hl4, hc, hs⟩]
          rcases (when_lt_snoc _ _).1 q with q | q
          · omega
          · exact h5 (isAt_iff.1 q).2
    · rw [if_neg e, h.ph y hy]
      have hno : ∀ k, isAt y k d = true ↔ False := fun k => ⟨fun q => e (isAt_iff.1 q).1.symm, fun q => q.elim⟩
      unfold phL
      simp only [when_lt_snoc, hno, or_false]
  · rw [tnow, hlen, cnt, dat_len, cnt_snoc (Nat.le_refl _), h.now]
  · rw [tbg y hy]
    rw [when_lt_snoc] at hw
    rw [when_snoc]
    by_cases g : whenN L y 4 < L.length
    · rw [if_neg (fun q => by have := hb.1 q.2; rw [← q.1] at this; omega), if_pos g, cnt_snoc (by omega), h.bg y hy g]
    · have q := isAt_iff.1 (hw.resolve_left g)
      rw [if_pos ⟨q.1.symm, q.2⟩, if_neg g, if_pos (isAt_iff.2 q), cnt_snoc (Nat.le_refl _), h.now]
  · rw [ten y hy]
    rw [when_lt_snoc] at hw
    rw [when_snoc]
    by_cases g : whenN L y 5 < L.length
    · rw [if_neg (fun q => by rw [q.1, hc] at g; omega), if_pos g, cnt_snoc (by omega), h.en y hy g]
    · have q := isAt_iff.1 (hw.resolve_left g)
      rw [if_pos ⟨q.1.symm, q.2⟩, if_neg g, if_pos (isAt_iff.2 q), cnt_snoc (Nat.le_refl _), h.now]
  · rw [twr y hy i hi, wrote_snoc, h.wr y hy i hi]
  · rw [trd y hy i hi, first_snoc h.hi.ok, h.rd y hy i hi, h.wr y hy i hi]
  · rw [tvs i hi, hlen, vl_len hf, h.vs i hi, h.wr _ hx5 i hi, h.now]
    by_cases g : d.1 = 5 ∧ wroteL L d.2.1 i = true
    · rw [if_pos g, if_pos (by simp [g.1, g.2])]
    · rw [if_neg g, if_neg (by simpa using g)]
def staleL (L : List D4) (x : Nat) : Bool := (List.range 4).any fun i => wroteL L x i && (List.range L.length).any fun n => decide (whenN L x 4 ≤ n) && comW L i n
def toldL (L : List D4) (d : D4) : Int := if d.1 = 3 ∧ d.2.2.2 = 0 then (if wroteL L d.2.1 d.2.2.1 = true then ((d.2.1 : Nat) : Int) else lastOf L d.2.2.1 (whenN L d.2.1 4)) else -1
def vref (L : List D4) (S : Nat) (d : D4) : (List D4 × Nat) × Int × Nat :=
  if (d.1 = 4 ∧ whenN L d.2.1 4 < L.length) ∨ (d.1 ≠ 4 ∧ ¬ (whenN L d.2.1 4 < L.length ∧ whenN L d.2.1 5 = L.length ∧ S.testBit d.2.1 = false)) then ((L, S), 0, 7)
  else if d.1 = 5 ∧ staleL L d.2.1 = true then ((L, S ||| 2 ^ d.2.1), 0, 6)
  else ((L ++ [d], S), toldL L d, 0)
theorem Rel.stale {v : V} {L : List D4} {S : Nat} (h : Rel v L S) {x : Nat} (hx : x < 5) (hb : whenN L x 4 < L.length) : stale v x = staleL L x := by
  unfold Vw.stale staleTo staleL
  rw [Bool.eq_iff_iff, List.any_eq_true, List.any_eq_true]
  refine exists_congr fun i => ?_
  rw [List.mem_range]
  refine and_congr_right fun hi => ?_
  rw [h.wr x hx i hi, h.bg x hx hb, h.vs i hi, Bool.and_eq_true, Bool.and_eq_true]
  refine and_congr_right fun _ => ?_
  rw [decide_eq_true_eq, lastAt_vl, List.any_eq_true]
  refine exists_congr fun n => ?_
  rw [List.mem_range, Bool.and_eq_true, decide_eq_true_eq]
  exact ⟨fun ⟨a, b, c⟩ => ⟨b, a, c⟩, fun ⟨b, a, c⟩ => ⟨a, b, c⟩⟩
theorem Rel.told {v : V} {L : List D4} {S : Nat} (h : Rel v L S) {x i : Nat} (hx : x < 5) (hi : i < 4) (hb : whenN L x 4 < L.length) : (seen (verl v i) (tx v x).bg).1 = lastOf L i (whenN L x 4) := by
  rw [h.vs i hi, h.bg x hx hb, seen_vl, Nat.min_eq_right (by omega)]
theorem isWr_no {d : D4} (h : ¬ (d.1 = 3 ∧ d.2.2.2 = 1)) (y i : Nat) : isWr y i d = false := by
  cases g : isWr y i d
  · rfl
  · exfalso
    unfold isWr isDo at g
    simp at g
    exact h ⟨g.1.1.2, g.2⟩
theorem isDo_no {d : D4} (h : d.1 ≠ 3) (y i : Nat) : isDo y i d = false := by
  simp [isDo, h]
/-- what the two do at a deed is the same -/
theorem Rel.step {v : V} {L : List D4} {S : Nat} (hI : Inv v) (h : Rel v L S) {d : D4} (hd : OkD d) : (vstep v d).2 = (vref L S d).2 ∧ Rel (vstep v d).1 (vref L S d).1.1 (vref L S d).1.2 := by
  obtain ⟨k, x, i, u⟩ := d
  have hd' := hd
  obtain ⟨d1, d2, d3, d4⟩ := hd
  simp only at d1 d2 d3 d4
  have hp := h.ph x d3
  have p0 := h.hi.ph0 x
  have p1 := ph1 L S x
  rw [← hp] at p0 p1
  have hle4 := when_le_len (L := L) x 4
  have hle5 := when_le_len (L := L) x 5
  have tp := fun (t : T) (y : Nat) => tx_put hI.ltx d3 t y
  unfold vstep vref
  simp only
  by_cases hk4 : k = 4
  · rw [if_pos hk4]
    by_cases hb : whenN L x 4 < L.length
    · rw [if_pos (fun q => by have := p0.1 q; omega), if_pos (Or.inl ⟨hk4, hb⟩)]
      exact ⟨rfl, h⟩
    · have e4 : whenN L x 4 = L.length := by omega
      have q0 := p0.2 e4
      have e5 : whenN L x 5 = L.length := by
        rcases Nat.lt_or_ge (whenN L x 5) L.length with g | g
        · have := h.hi.begun g; omega
        · omega
      have hs : S.testBit x = false := by
        cases g : S.testBit x
        · rfl
        · have := (h.hi.stp x g).2; omega
      rw [if_neg (fun q => q q0), if_neg (by rintro (⟨_, q⟩ | ⟨q, _⟩) <;> omega), if_neg (fun q => by omega)]
      refine ⟨?_, ?_⟩
      · unfold toldL
        simp only
        rw [if_neg (by omega)]
      · have hfre := hI.fre x q0
        refine h.snoc hd' e5 hs ⟨fun _ => e4, fun _ => hk4⟩ (fun y hy => ?_) (fun y hy => ?_) (fun y hy => ?_) ?_ (fun y hy j hj => ?_) (fun y hy j hj => ?_) (fun j hj => ?_)
        · rw [tp]
          simp only
          by_cases e : y = x
          · rw [if_pos e, if_pos e, if_pos hk4]
          · rw [if_neg e, if_neg e]
        · rw [tp]
          simp only
          by_cases e : y = x
          · rw [if_pos e, if_pos ⟨e, hk4⟩]
          · rw [if_neg e, if_neg (fun q => e q.1)]
        · rw [tp]
          simp only
          rw [if_neg (show ¬ (y = x ∧ k = 5) from fun q => by omega)]
          by_cases e : y = x
          · rw [if_pos e, e]
          · rw [if_neg e]
        · simp only
          rw [if_neg (show ¬ k = 5 by omega)]; rfl
        · rw [tp, isWr_no (by simp only; omega), Bool.or_false]
          by_cases e : y = x
          · rw [if_pos e, e]
          · rw [if_neg e]
        · rw [tp, isDo_no (by simp only; omega), Bool.false_and, Bool.false_and, Bool.or_false]
          by_cases e : y = x
          · rw [if_pos e, e]
          · rw [if_neg e]
        · simp only
          rw [if_neg (show ¬ (k = 5 ∧ (tx v x).wrt.testBit j = true) from fun q => by omega)]; rfl
  · rw [if_neg hk4]
    by_cases hopn : whenN L x 4 < L.length ∧ whenN L x 5 = L.length ∧ S.testBit x = false
    · have q1 := p1.2 hopn
      obtain ⟨e4, e5, hs⟩ := hopn
      have hb4 : k = 4 ↔ whenN L x 4 = L.length := ⟨fun q => absurd q hk4, fun q => by omega⟩
      have hcond : ¬ ((k = 4 ∧ whenN L x 4 < L.length) ∨ (k ≠ 4 ∧ ¬ (whenN L x 4 < L.length ∧ whenN L x 5 = L.length ∧ S.testBit x = false))) := fun q => q.elim (fun q => hk4 q.1) (fun q => q.2 ⟨e4, e5, hs⟩)
      rw [if_neg (show ¬ ((tx v x).ph ≠ 1) from fun q => q q1), if_neg hcond]
      by_cases hk5 : k = 5
      · rw [if_pos hk5, h.stale d3 e4]
        by_cases hst : staleL L x = true
        · rw [if_pos hst, if_pos ⟨hk5, hst⟩]
          refine ⟨rfl, ?_⟩
          have hhi : Hi L (S ||| 2 ^ x) := ⟨h.hi.ok, h.hi.aft, h.hi.beg, fun y hy => by
            rw [Nat.testBit_or, Nat.testBit_two_pow, Bool.or_eq_true, decide_eq_true_eq] at hy
            rcases hy with hy | hy
            · exact h.hi.stp y hy
            · rw [← hy]; exact ⟨e5, e4⟩⟩
          have same : ∀ (f : T → Nat), (f { tx v x with ph := 3 } = f (tx v x)) → ∀ y, f (tx (put v x { tx v x with ph := 3 }) y) = f (tx v y) := by
            intro f hf y
            rw [tp]
            by_cases e : y = x
            · rw [if_pos e, hf, e]
            · rw [if_neg e]
          refine ⟨hhi, fun y hy => ?_, h.now, fun y hy hw => ?_, fun y hy hw => ?_, fun y hy j hj => ?_, fun y hy j hj => ?_, fun j hj => h.vs j hj⟩
          · rw [tp]
            unfold phL
            rw [Nat.testBit_or, Nat.testBit_two_pow]
            by_cases e : y = x
            · rw [if_pos e, if_pos (by simp [e])]
            · rw [if_neg e, h.ph y hy]
              unfold phL
              have : decide (x = y) = false := by simp; exact fun q => e q.symm
              rw [this, Bool.or_false]
          · rw [same T.bg rfl]; exact h.bg y hy hw
          · rw [same T.en rfl]; exact h.en y hy hw
          · rw [same T.wrt rfl]; exact h.wr y hy j hj
          · rw [same T.rds rfl]; exact h.rd y hy j hj
        · rw [if_neg hst, if_neg (fun q => hst q.2)]
          have tc := fun (y : Nat) => tx_commit hI.ltx d3 y
          refine ⟨?_, ?_⟩
          · unfold toldL
            simp only
            rw [if_neg (by omega)]
          · refine h.snoc hd' e5 hs hb4 (fun y hy => ?_) (fun y hy => ?_) (fun y hy => ?_) ?_ (fun y hy j hj => ?_) (fun y hy j hj => ?_) (fun j hj => ?_)
            · rw [tc]
              simp only
              by_cases e : y = x
              · rw [if_pos e, if_pos e, if_neg hk4, if_pos hk5]
              · rw [if_neg e, if_neg e]
            · rw [tc]
              simp only
              rw [if_neg (show ¬ (y = x ∧ k = 4) from fun q => hk4 q.2)]
              by_cases e : y = x
              · rw [if_pos e, e]
              · rw [if_neg e]
            · rw [tc]
              simp only
              by_cases e : y = x
              · rw [if_pos e, if_pos ⟨e, hk5⟩]
              · rw [if_neg e, if_neg (fun q => e q.1)]
            · simp only
              rw [if_pos hk5]; rfl
            · rw [tc, isWr_no (by simp only; omega), Bool.or_false]
              by_cases e : y = x
              · rw [if_pos e, e]
              · rw [if_neg e]
            · rw [tc, isDo_no (by simp only; omega), Bool.false_and, Bool.false_and, Bool.or_false]
              by_cases e : y = x
              · rw [if_pos e, e]
              · rw [if_neg e]
            · rw [verl_commit v x hj]
              unfold verNew
              simp only
              by_cases g : (tx v x).wrt.testBit j = true
              · rw [if_pos g, if_pos ⟨hk5, g⟩]
              · rw [if_neg g, if_neg (fun q => g q.2)]
      · have hk3 : k = 3 := by omega
        obtain ⟨hi4, hu2⟩ := d4 hk3
        rw [if_neg hk5, if_neg (show ¬ (k = 5 ∧ staleL L x = true) from fun q => hk5 q.1)]
        -- one that stays open
        have hsn : ∀ (t : T), t.ph = 1 → t.bg = (tx v x).bg → t.en = (tx v x).en → (∀ j, j < 4 → t.wrt.testBit j = ((tx v x).wrt.testBit j || isWr x j (k, x, i, u))) →
            (∀ j, j < 4 → t.rds.testBit j = ((tx v x).rds.testBit j || (isDo x j (k, x, i, u) && decide (u = 0) && !((tx v x).wrt.testBit j)))) → Rel (put v x t) (L ++ [(k, x, i, u)]) S := by
          intro t t1 t2 t3 t4 t5
          have hno : ∀ y j, y ≠ x → isDo y j (k, x, i, u) = false := fun y j e => by
            simp only [isDo]
            rw [decide_eq_false (fun q : x = y => e q.symm)]; rfl
          refine h.snoc hd' e5 hs hb4 (fun y hy => ?_) (fun y hy => ?_) (fun y hy => ?_) ?_ (fun y hy j hj => ?_) (fun y hy j hj => ?_) (fun j hj => ?_)
          · rw [tp]
            simp only
            by_cases e : y = x
            · rw [if_pos e, if_pos e, if_neg hk4, if_neg hk5, e, t1, q1]
            · rw [if_neg e, if_neg e]
          · rw [tp]
            simp only
            rw [if_neg (show ¬ (y = x ∧ k = 4) from fun q => hk4 q.2)]
            by_cases e : y = x
            · rw [if_pos e, e, t2]
            · rw [if_neg e]
          · rw [tp]
            simp only
            rw [if_neg (show ¬ (y = x ∧ k = 5) from fun q => hk5 q.2)]
            by_cases e : y = x
            · rw [if_pos e, e, t3]
            · rw [if_neg e]
          · simp only
            rw [if_neg hk5]; rfl
          · rw [tp]
            by_cases e : y = x
            · rw [if_pos e, e, t4 j hj]
            · rw [if_neg e, isWr, hno y j e]; simp
          · rw [tp]
            by_cases e : y = x
            · rw [if_pos e, e, t5 j hj]
            · rw [if_neg e, hno y j e]; simp
          · simp only
            rw [if_neg (fun q => hk5 q.1)]; rfl
        have hdo : ∀ j, isDo x j (k, x, i, u) = decide (i = j) := fun j => by simp [isDo, hk3]
        by_cases hu : u = 1
        · rw [if_pos hu]
          refine ⟨?_, hsn _ q1 rfl rfl (fun j hj => ?_) (fun j hj => ?_)⟩
          · unfold toldL
            simp only
            rw [if_neg (by omega)]
          · show ((tx v x).wrt ||| 2 ^ i).testBit j = _
            rw [Nat.testBit_or, Nat.testBit_two_pow, isWr, hdo]
            simp [hu]
          · rw [hu]; simp
        · have hu0 : u = 0 := by omega
          rw [if_neg hu]
          have htold : toldL L (k, x, i, u) = if wroteL L x i = true then (x : Int) else lastOf L i (whenN L x 4) := by
            unfold toldL
            simp only
            rw [if_pos ⟨hk3, hu0⟩]
          have hw := h.wr x d3 i hi4
          have hwn : ∀ j, isWr x j (k, x, i, u) = false := fun j => isWr_no (by simp only; omega) _ _
          rw [htold]
          by_cases ht : (tx v x).wrt.testBit i = true
          · rw [if_pos ht, if_pos (by rw [← hw]; exact ht)]
            refine ⟨rfl, ?_⟩
            have hv : put v x (tx v x) = v := by
              have hxl : x < v.txs.length := by rw [hI.ltx]; exact d3
              have : v.txs.set x (tx v x) = v.txs := by
                unfold tx
                rw [List.getD_eq_getElem?_getD, List.getElem?_eq_getElem hxl]
                exact List.set_getElem_self hxl
              unfold put
              rw [this]
            have := hsn (tx v x) q1 rfl rfl (fun j hj => by rw [hwn, Bool.or_false]) (fun j hj => by
              rw [hdo]
              by_cases e : i = j
              · subst e; rw [ht]; simp
              · simp [e])
            rw [hv] at this
            exact this
          · rw [if_neg ht, if_neg (by rw [← hw]; exact ht), ← h.told d3 hi4 e4]
            refine ⟨rfl, hsn _ q1 rfl rfl (fun j hj => by rw [hwn, Bool.or_false]) (fun j hj => ?_)⟩
            show ((tx v x).rds ||| 2 ^ i).testBit j = _
            rw [Nat.testBit_or, Nat.testBit_two_pow, hdo]
            by_cases e : i = j
            · subst e
              have : (tx v x).wrt.testBit i = false := by simpa using ht
              rw [this]; simp [hu0]
            · simp [e]
    · rw [if_pos (fun q => hopn (p1.1 q)), if_pos (.inr ⟨hk4, hopn⟩)]
      exact ⟨rfl, h⟩
theorem relInit : Rel v0 [] 0 := by
  have hz : ∀ x, tx v0 x = t0 := tx_v0
  refine ⟨⟨fun n hn => absurd hn (Nat.not_lt_zero _), fun n m _ hm => absurd hm (Nat.not_lt_zero _), fun n hn => absurd hn (Nat.not_lt_zero _), fun x hx => by rw [Nat.zero_testBit] at hx; cases hx⟩, fun x _ => ?_, rfl, fun x _ h => absurd h (Nat.not_lt_zero _), fun x _ h => absurd h (Nat.not_lt_zero _), fun x _ i _ => ?_, fun x _ i _ => ?_, fun i hi => ?_⟩
  · rw [hz]
    unfold phL
    rw [Nat.zero_testBit, if_neg (by decide)]; rfl
  · rw [hz]
    show (0 : Nat).testBit i = false
    exact Nat.zero_testBit i
  · rw [hz]
    show (0 : Nat).testBit i = false
    exact Nat.zero_testBit i
  · have : i = 0 ∨ i = 1 ∨ i = 2 ∨ i = 3 := by omega
    rcases this with rfl | rfl | rfl | rfl <;> rfl
end Vw
end Go.Proofs.YtkindaadadggoaaDoor
