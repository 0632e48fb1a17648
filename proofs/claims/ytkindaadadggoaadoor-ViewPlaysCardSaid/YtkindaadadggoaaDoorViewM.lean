/- Plain words on transactions each of which sees things as they were when it began. No program is in sight. Conditions: none. -/
import Derived.Test.YtkindaadadggoaaDoorSchedM
import Derived.Test.YtkindaadadggoaaDoorRowM
namespace Go.Proofs.YtkindaadadggoaaDoor
namespace Vw
open Odr Sch

/-- a version of an item: who wrote it (-1: nobody), and when that was committed -/
abbrev Ver := Int × Nat
/-- a transaction: 0 fresh, 1 open, 2 committed, 3 stopped; when it began and ended; what it read and wrote; of whom -/
structure T where
  ph : Nat
  bg : Nat
  en : Nat
  rds : Nat
  wrt : Nat
  frm : List Int
structure V where
  now : Nat
  txs : List T
  vers : List (List Ver)
def t0 : T := ⟨0, 0, 0, 0, 0, [0, 0, 0, 0]⟩
def v0 : V := ⟨0, [t0, t0, t0, t0, t0], [[(-1, 0)], [(-1, 0)], [(-1, 0)], [(-1, 0)]]⟩
def tx (v : V) (x : Nat) : T := v.txs.getD x t0
def verl (v : V) (i : Nat) : List Ver := v.vers.getD i []
def dv : Ver := (-1, 0)
/-- the last of the first n versions that is not younger -/
def seenTo (l : List Ver) (m : Nat) : Nat → Ver
  | 0 => dv
  | n + 1 => if (l.getD n dv).2 ≤ m then l.getD n dv else seenTo l m n
def seen (l : List Ver) (m : Nat) : Ver := seenTo l m l.length
def lastAt (l : List Ver) : Nat := (l.getD (l.length - 1) dv).2
/-- did another one commit what it wrote? -/
def staleTo (v : V) (x : Nat) (n : Nat) : Bool := (List.range n).any fun i => (tx v x).wrt.testBit i && decide ((tx v x).bg < lastAt (verl v i))
def stale (v : V) (x : Nat) : Bool := staleTo v x 4
def put (v : V) (x : Nat) (t : T) : V := { v with txs := v.txs.set x t }
def verNew (v : V) (x i : Nat) : List Ver := if (tx v x).wrt.testBit i = true then verl v i ++ [((x : Int), v.now + 1)] else verl v i
def commit (v : V) (x : Nat) : V := { now := v.now + 1, txs := v.txs.set x { tx v x with ph := 2, en := v.now + 1 }, vers := (List.range 4).map (verNew v x) }
/-- a deed of small numbers: its kind (3: do, 4: begin, 5: commit), its transaction, its item, whether it writes -/
abbrev D4 := Nat × Nat × Nat × Nat
def vstep (v : V) (d : D4) : V × Int × Nat :=
  if d.1 = 4 then (if (tx v d.2.1).ph ≠ 0 then (v, 0, 7) else (put v d.2.1 { tx v d.2.1 with ph := 1, bg := v.now }, -1, 0))
  else if (tx v d.2.1).ph ≠ 1 then (v, 0, 7)
  else if d.1 = 5 then (if stale v d.2.1 = true then (put v d.2.1 { tx v d.2.1 with ph := 3 }, 0, 6) else (commit v d.2.1, -1, 0))
  else if d.2.2.2 = 1 then (put v d.2.1 { tx v d.2.1 with wrt := (tx v d.2.1).wrt ||| 2 ^ d.2.2.1 }, -1, 0)
  else if (tx v d.2.1).wrt.testBit d.2.2.1 = true then (v, (d.2.1 : Int), 0)
  else (put v d.2.1 { tx v d.2.1 with rds := (tx v d.2.1).rds ||| 2 ^ d.2.2.1, frm := (tx v d.2.1).frm.set d.2.2.1 (seen (verl v d.2.2.1) (tx v d.2.1).bg).1 }, (seen (verl v d.2.2.1) (tx v d.2.1).bg).1, 0)
def OkD (d : D4) : Prop := 3 ≤ d.1 ∧ d.1 ≤ 5 ∧ d.2.1 < 5 ∧ (d.1 = 3 → d.2.2.1 < 4 ∧ d.2.2.2 < 2)

theorem getD_tx_set {l : List T} {x : Nat} (t : T) (h : x < l.length) (y : Nat) : (l.set x t).getD y t0 = if y = x then t else l.getD y t0 := by
  rw [getD_set]
  by_cases e : x = y
  · rw [if_pos ⟨e, h⟩, if_pos e.symm]
  · rw [if_neg (fun g => e g.1), if_neg (fun g => e g.symm)]
theorem tx_put {v : V} (h : v.txs.length = 5) {x : Nat} (hx : x < 5) (t : T) (y : Nat) : tx (put v x t) y = if y = x then t else tx v y := getD_tx_set t (by omega) y
theorem tx_commit {v : V} (h : v.txs.length = 5) {x : Nat} (hx : x < 5) (y : Nat) : tx (commit v x) y = if y = x then { tx v x with ph := 2, en := v.now + 1 } else tx v y := getD_tx_set _ (by omega) y
theorem verl_commit (v : V) (x : Nat) {i : Nat} (hi : i < 4) : verl (commit v x) i = verNew v x i := by
  have : i = 0 ∨ i = 1 ∨ i = 2 ∨ i = 3 := by omega
  rcases this with rfl | rfl | rfl | rfl <;> rfl

/-- what always holds of a store -/
structure Inv (v : V) : Prop where
  ltx : v.txs.length = 5
  lvs : v.vers.length = 4
  frl : ∀ x, (tx v x).frm.length = 4
  rlt : ∀ x, (tx v x).rds < 16
  wlt : ∀ x, (tx v x).wrt < 16
  bgn : ∀ x, (tx v x).bg ≤ v.now
  com : ∀ x, (tx v x).ph = 2 → (tx v x).bg < (tx v x).en ∧ (tx v x).en ≤ v.now
  fre : ∀ x, (tx v x).ph = 0 → (tx v x).rds = 0 ∧ (tx v x).wrt = 0
  hed : ∀ i, i < 4 → (verl v i)[0]? = some dv
  srt : ∀ i, i < 4 → (verl v i).Pairwise (fun a b => a.2 < b.2)
  mem : ∀ i, i < 4 → ∀ p ∈ verl v i, p = dv ∨ ∃ x : Nat, x < 5 ∧ p = ((x : Int), (tx v x).en) ∧ (tx v x).ph = 2 ∧ (tx v x).wrt.testBit i = true
  all : ∀ i, i < 4 → ∀ x, x < 5 → (tx v x).ph = 2 → (tx v x).wrt.testBit i = true → ((x : Int), (tx v x).en) ∈ verl v i
  win : ∀ i, i < 4 → ∀ x y, x ≠ y → (tx v x).ph = 2 → (tx v x).wrt.testBit i = true → (tx v y).ph = 2 → (tx v y).wrt.testBit i = true → (tx v x).en ≤ (tx v y).bg ∨ (tx v y).en ≤ (tx v x).bg
  frs : ∀ i, i < 4 → ∀ x, (tx v x).rds.testBit i = true → (tx v x).frm.getD i 0 = (seen (verl v i) (tx v x).bg).1
  pht : ∀ x, (tx v x).ph ≤ 3
  nws : v.now ≤ v.txs.foldr (fun t n => n + if t.ph = 2 then 1 else 0) 0

theorem tx_v0 (x : Nat) : tx v0 x = t0 := by
  match x with
  | 0 => rfl
  | 1 => rfl
  | 2 => rfl
  | 3 => rfl
  | 4 => rfl
  | x + 5 => rfl
theorem inv0 : Inv v0 := by
  have h4 : ∀ i, i < 4 → verl v0 i = [dv] := by
    intro i hi
    have : i = 0 ∨ i = 1 ∨ i = 2 ∨ i = 3 := by omega
    rcases this with rfl | rfl | rfl | rfl <;> rfl
  have hx : ∀ x, tx v0 x = t0 := tx_v0
  refine ⟨rfl, rfl, fun x => ?_, fun x => ?_, fun x => ?_, fun x => ?_, fun x h => ?_, fun x _ => ?_, fun i hi => ?_, fun i hi => ?_, fun i hi p hp => ?_, fun i _ x _ h => ?_, fun i _ x y _ h => ?_, fun i _ x h => ?_, fun x => ?_, Nat.zero_le _⟩
  · rw [hx]; rfl
  · rw [hx]; decide
  · rw [hx]; decide
  · rw [hx]; exact Nat.le_refl _
  · rw [hx] at h; cases h
  · rw [hx]; exact ⟨rfl, rfl⟩
  · rw [h4 i hi]; rfl
  · rw [h4 i hi]; exact List.pairwise_singleton _ _
  · rw [h4 i hi] at hp; exact .inl (List.mem_singleton.1 hp)
  · rw [hx] at h; cases h
  · rw [hx] at h; cases h
  · rw [hx] at h
    have h' : (0 : Nat).testBit i = true := h
    rw [Nat.zero_testBit] at h'; cases h'
  · rw [hx]; decide

theorem seenTo_append (l m : List Ver) (b n : Nat) (h : n ≤ l.length) : seenTo (l ++ m) b n = seenTo l b n := by
  induction n with
  | zero => rfl
  | succ n ih =>
    have e : (l ++ m).getD n dv = l.getD n dv := by
      rw [List.getD_eq_getElem?_getD, List.getD_eq_getElem?_getD, List.getElem?_append_left (by omega)]
    rw [seenTo, seenTo, e, ih (by omega)]
theorem seen_snoc {l : List Ver} {p : Ver} {b : Nat} (h : b < p.2) : seen (l ++ [p]) b = seen l b := by
  have e : (l ++ [p]).getD l.length dv = p := by simp [List.getD_eq_getElem?_getD]
  unfold seen
  rw [List.length_append, show l.length + [p].length = l.length + 1 from rfl, seenTo, e, if_neg (by omega), seenTo_append _ _ _ _ (Nat.le_refl _)]

theorem Inv.time {v : V} (h : Inv v) {i : Nat} (hi : i < 4) {p : Ver} (hp : p ∈ verl v i) : p.2 ≤ v.now := by
  rcases h.mem i hi p hp with rfl | ⟨x, _, rfl, h2, _⟩
  · exact Nat.zero_le _
  · exact (h.com x h2).2

theorem foldr_ge {l : List T} {x : Nat} {t : T} (h : (l.getD x t0).ph ≠ 2) : l.foldr (fun t n => n + if t.ph = 2 then 1 else 0) 0 ≤ (l.set x t).foldr (fun t n => n + if t.ph = 2 then 1 else 0) 0 := by
  induction l generalizing x with
  | nil => simp
  | cons a l ih =>
    cases x with
    | zero =>
      have h' : a.ph ≠ 2 := h
      simp only [List.set_cons_zero, List.foldr_cons, if_neg h']
      omega
    | succ x =>
      simp only [List.set_cons_succ, List.foldr_cons]
      have := ih (x := x) h
      omega
theorem foldr_more {l : List T} {x : Nat} {t : T} (hx : x < l.length) (h : (l.getD x t0).ph ≠ 2) (ht : t.ph = 2) : l.foldr (fun t n => n + if t.ph = 2 then 1 else 0) 0 + 1 ≤ (l.set x t).foldr (fun t n => n + if t.ph = 2 then 1 else 0) 0 := by
  induction l generalizing x with
  | nil => simp at hx
  | cons a l ih =>
    cases x with
    | zero =>
      have h' : a.ph ≠ 2 := h
      simp only [List.set_cons_zero, List.foldr_cons, if_neg h', if_pos ht]
      omega
    | succ x =>
      simp only [List.set_cons_succ, List.foldr_cons]
      have := ih (x := x) (by simpa using hx) h
      omega
theorem foldr_le (l : List T) : l.foldr (fun t n => n + if t.ph = 2 then 1 else 0) 0 ≤ l.length := by
  induction l with
  | nil => simp
  | cons a l ih =>
    rw [List.foldr_cons, List.length_cons]
    split <;> omega
theorem Inv.now_le {v : V} (h : Inv v) : v.now ≤ 5 := by
  have h1 := h.nws
  have h2 := foldr_le v.txs
  have h3 := h.ltx
  omega
/-- the versions of an item are few -/
theorem Inv.few {v : V} (h : Inv v) {i : Nat} (hi : i < 4) : (verl v i).length ≤ 6 := by
  have hs := h.srt i hi
  have hb : ∀ p ∈ verl v i, p.2 ≤ 5 := fun p hp => Nat.le_trans (h.time hi hp) h.now_le
  generalize verl v i = l at hs hb
  have key : ∀ (l : List Ver), l.Pairwise (fun a b => a.2 < b.2) → ∀ lo, (∀ p ∈ l, lo ≤ p.2 ∧ p.2 ≤ 5) → l.length + lo ≤ 6 ∨ l = [] := by
    intro l
    induction l with
    | nil => intro _ _ _; exact .inr rfl
    | cons p l ih =>
      intro hp lo hlo
      left
      have h1 := hlo p (List.mem_cons_self ..)
      have h2 := List.pairwise_cons.1 hp
      rcases ih h2.2 (p.2 + 1) (fun q hq => ⟨h2.1 q hq, (hlo q (List.mem_cons_of_mem _ hq)).2⟩) with h3 | h3
      · rw [List.length_cons]; omega
      · subst h3; simp; omega
  rcases key l hs 0 (fun p hp => ⟨Nat.zero_le _, hb p hp⟩) with h1 | h1
  · omega
  · subst h1; simp

/-- one that is not committed turns, and is not committed then -/
theorem inv_put {v : V} (h : Inv v) {x : Nat} (hx : x < 5) (hph : (tx v x).ph ≠ 2) {t : T} (h1 : t.frm.length = 4) (h2 : t.rds < 16) (h3 : t.wrt < 16) (h4 : t.bg ≤ v.now) (h5 : t.ph ≠ 2) (h6 : t.ph = 0 → t.rds = 0 ∧ t.wrt = 0)
    (h7 : ∀ i, i < 4 → t.rds.testBit i = true → t.frm.getD i 0 = (seen (verl v i) t.bg).1) (h8 : t.ph ≤ 3) : Inv (put v x t) := by
  have e := tx_put h.ltx hx t
  have ev : ∀ i, verl (put v x t) i = verl v i := fun _ => rfl
  refine ⟨by simpa [put] using h.ltx, h.lvs, fun y => ?_, fun y => ?_, fun y => ?_, fun y => ?_, fun y hy => ?_, fun y hy => ?_, h.hed, h.srt, fun i hi p hp => ?_, fun i hi y hy hc hw => ?_, fun i hi y z hyz c1 w1 c2 w2 => ?_, fun i hi y hr => ?_, fun y => ?_,
    Nat.le_trans h.nws (foldr_ge hph)⟩
  · rw [e]; split
    · exact h1
    · exact h.frl y
  · rw [e]; split
    · exact h2
    · exact h.rlt y
  · rw [e]; split
    · exact h3
    · exact h.wlt y
  · rw [e]; split
    · exact h4
    · exact h.bgn y
  · rw [e] at hy ⊢
    split at hy
    · exact absurd hy h5
    · rename_i hne; rw [if_neg hne]; exact h.com y hy
  · rw [e] at hy ⊢
    split at hy
    · rename_i heq; rw [if_pos heq]; exact h6 hy
    · rename_i hne; rw [if_neg hne]; exact h.fre y hy
  · rcases h.mem i hi p hp with g | ⟨y, g1, g2, g3, g4⟩
    · exact .inl g
    · have hne : y ≠ x := fun e' => hph (e' ▸ g3)
      exact .inr ⟨y, g1, by rw [e, if_neg hne]; exact g2, by rw [e, if_neg hne]; exact g3, by rw [e, if_neg hne]; exact g4⟩
  · rw [e] at hc hw ⊢
    split at hc
    · exact absurd hc h5
    · rename_i hne; rw [if_neg hne] at hw ⊢; exact h.all i hi y hy hc hw
  · rw [e] at c1 w1
    rw [e] at c2 w2
    rw [e, e]
    split at c1
    · exact absurd c1 h5
    split at c2
    · exact absurd c2 h5
    rename_i n1 n2
    rw [if_neg n1] at w1 ⊢
    rw [if_neg n2] at w2 ⊢
    exact h.win i hi y z hyz c1 w1 c2 w2
  · rw [ev]
    rw [e] at hr ⊢
    split at hr
    · rename_i heq; rw [if_pos heq]; exact h7 i hi hr
    · rename_i hne; rw [if_neg hne]; exact h.frs i hi y hr
  · rw [e]; split
    · exact h8
    · exact h.pht y

theorem le_lastAt {l : List Ver} (hs : l.Pairwise (fun a b => a.2 < b.2)) {p : Ver} (hp : p ∈ l) : p.2 ≤ lastAt l := by
  obtain ⟨k, hk, rfl⟩ := List.mem_iff_getElem.1 hp
  have e : l.getD (l.length - 1) dv = l[l.length - 1]'(by omega) := by
    rw [List.getD_eq_getElem?_getD, List.getElem?_eq_getElem (by omega)]; rfl
  unfold lastAt
  rw [e]
  by_cases h : k = l.length - 1
  · subst h; exact Nat.le_refl _
  · exact Nat.le_of_lt (List.pairwise_iff_getElem.1 hs k (l.length - 1) hk (by omega) (by omega))

theorem inv_commit {v : V} (h : Inv v) {x : Nat} (hx : x < 5) (hph : (tx v x).ph = 1) (hst : stale v x = false) : Inv (commit v x) := by
  have e := tx_commit h.ltx hx
  have ev : ∀ i, i < 4 → verl (commit v x) i = verNew v x i := fun i hi => verl_commit v x hi
  have hb := h.bgn x
  have hsub : ∀ i p, p ∈ verl v i → p ∈ verNew v x i := by
    intro i p hp
    unfold verNew
    split
    · exact List.mem_append_left _ hp
    · exact hp
  have hold : ∀ i, i < 4 → (tx v x).wrt.testBit i = true → ∀ y, y ≠ x → (tx v y).ph = 2 → (tx v y).wrt.testBit i = true → (tx v y).en ≤ (tx v x).bg := by
    intro i hi hw y hne hc hwy
    have hy : y < 5 := by
      rcases Nat.lt_or_ge y 5 with g | g
      · exact g
      · exfalso
        have : tx v y = t0 := by
          unfold tx
          rw [List.getD_eq_getElem?_getD, List.getElem?_eq_none (by rw [h.ltx]; exact g)]; rfl
        rw [this] at hc; cases hc
    have hm := le_lastAt (h.srt i hi) (h.all i hi y hy hc hwy)
    have hs : ((tx v x).wrt.testBit i && decide ((tx v x).bg < lastAt (verl v i))) = false := by
      have := List.any_eq_false.1 hst i (List.mem_range.2 hi)
      simpa using this
    rw [hw] at hs
    simp at hs
    have hm' : (tx v y).en ≤ lastAt (verl v i) := hm
    omega
  refine ⟨by simpa [commit] using h.ltx, by simp [commit], fun y => ?_, fun y => ?_, fun y => ?_, fun y => ?_, fun y hy => ?_, fun y hy => ?_, fun i hi => ?_, fun i hi => ?_, fun i hi p hp => ?_, fun i hi y hy hc hw => ?_, fun i hi y z hyz c1 w1 c2 w2 => ?_, fun i hi y hr => ?_, fun y => ?_,
    Nat.le_trans (Nat.succ_le_succ h.nws) (foldr_more (by rw [h.ltx]; exact hx) (by show (tx v x).ph ≠ 2; omega) rfl)⟩
  · rw [e]; split
    · exact h.frl x
    · exact h.frl y
  · rw [e]; split
    · exact h.rlt x
    · exact h.rlt y
  · rw [e]; split
    · exact h.wlt x
    · exact h.wlt y
  · rw [e]
    show _ ≤ v.now + 1
    split
    · exact Nat.le_succ_of_le hb
    · exact Nat.le_succ_of_le (h.bgn y)
  · rw [e] at hy ⊢
    show _ ∧ _ ≤ v.now + 1
    split
    · exact ⟨by show (tx v x).bg < v.now + 1; omega, Nat.le_refl _⟩
    · rename_i hne
      rw [if_neg hne] at hy
      have := h.com y hy
      exact ⟨this.1, by omega⟩
  · rw [e] at hy ⊢
    split at hy
    · cases hy
    · rename_i hne; rw [if_neg hne]; exact h.fre y hy
  · rw [ev i hi]
    unfold verNew
    have := h.hed i hi
    split
    · rw [List.getElem?_append_left]
      · exact this
      · exact (List.getElem?_eq_some_iff.1 this).1
    · exact this
  · rw [ev i hi]
    unfold verNew
    split
    · rw [List.pairwise_append]
      refine ⟨h.srt i hi, by simp, fun a ha b hb' => ?_⟩
      rw [List.mem_singleton.1 hb']
      exact Nat.lt_succ_of_le (h.time hi ha)
    · exact h.srt i hi
  · rw [ev i hi] at hp
    have hcase : p ∈ verl v i ∨ ((tx v x).wrt.testBit i = true ∧ p = ((x : Int), v.now + 1)) := by
      unfold verNew at hp
      split at hp
      · rename_i hw
        rcases List.mem_append.1 hp with hp | hp
        · exact .inl hp
        · exact .inr ⟨hw, List.mem_singleton.1 hp⟩
      · exact .inl hp
    rcases hcase with hp | ⟨hw, rfl⟩
    · rcases h.mem i hi p hp with g | ⟨y, g1, g2, g3, g4⟩
      · exact .inl g
      · have hne : y ≠ x := fun e' => by rw [e', hph] at g3; cases g3
        exact .inr ⟨y, g1, by rw [e, if_neg hne]; exact g2, by rw [e, if_neg hne]; exact g3, by rw [e, if_neg hne]; exact g4⟩
    · exact .inr ⟨x, hx, by rw [e, if_pos rfl], by rw [e, if_pos rfl], by rw [e, if_pos rfl]; exact hw⟩
  · rw [ev i hi]
    rw [e] at hc hw ⊢
    by_cases he : y = x
    · subst he
      rw [if_pos rfl] at hw ⊢
      unfold verNew
      rw [if_pos hw]
      exact List.mem_append_right _ (List.mem_singleton.2 rfl)
    · rw [if_neg he] at hc hw ⊢
      exact hsub i _ (h.all i hi y hy hc hw)
  · rw [e] at c1 w1
    rw [e] at c2 w2
    rw [e, e]
    by_cases n1 : y = x
    · have n2 : z ≠ x := fun e' => hyz (n1.trans e'.symm)
      subst n1
      rw [if_pos rfl] at w1 ⊢
      rw [if_neg n2] at c2 w2 ⊢
      exact .inr (hold i hi w1 z n2 c2 w2)
    · rw [if_neg n1] at c1 w1 ⊢
      by_cases n2 : z = x
      · subst n2
        rw [if_pos rfl] at w2 ⊢
        exact .inl (hold i hi w2 y n1 c1 w1)
      · rw [if_neg n2] at c2 w2 ⊢
        exact h.win i hi y z hyz c1 w1 c2 w2
  · rw [ev i hi]
    have hse : ∀ b, b ≤ v.now → seen (verNew v x i) b = seen (verl v i) b := by
      intro b hb'
      unfold verNew
      split
      · exact seen_snoc (Nat.lt_succ_of_le hb')
      · rfl
    rw [e] at hr ⊢
    by_cases he : y = x
    · subst he
      rw [if_pos rfl] at hr ⊢
      show _ = (seen _ (tx v y).bg).1
      rw [hse _ hb]
      exact h.frs i hi y hr
    · rw [if_neg he] at hr ⊢
      rw [hse _ (h.bgn y)]
      exact h.frs i hi y hr
  · rw [e]; split
    · show 2 ≤ 3; decide
    · exact h.pht y

theorem inv_step {v : V} (h : Inv v) {d : D4} (hd : OkD d) : Inv (vstep v d).1 := by
  obtain ⟨d1, d2, d3, d4⟩ := hd
  unfold vstep
  split
  · split
    · exact h
    · rename_i h0
      have h0 : (tx v d.2.1).ph = 0 := by omega
      obtain ⟨r0, w0⟩ := h.fre _ h0
      exact inv_put h d3 (by omega) (h.frl _) (h.rlt _) (h.wlt _) (Nat.le_refl _) (by show (1 : Nat) ≠ 2; decide) (fun hh => by cases hh) (fun i hi hr => by
        have hr' : (tx v d.2.1).rds.testBit i = true := hr
        rw [r0, Nat.zero_testBit] at hr'; cases hr') (by show (1 : Nat) ≤ 3; decide)
  split
  · exact h
  rename_i h1
  have h1 : (tx v d.2.1).ph = 1 := by omega
  split
  · split
    · exact inv_put h d3 (by omega) (h.frl _) (h.rlt _) (h.wlt _) (h.bgn _) (by show (3 : Nat) ≠ 2; decide) (fun hh => by cases hh) (fun i hi hr => h.frs i hi _ hr) (by show (3 : Nat) ≤ 3; decide)
    · rename_i hs
      exact inv_commit h d3 h1 (by simpa using hs)
  have hk : d.1 = 3 := by omega
  obtain ⟨d5, d6⟩ := d4 hk
  have hp : 2 ^ d.2.2.1 < 2 ^ 4 := Nat.pow_lt_pow_right (by omega) d5
  split
  · exact inv_put h d3 (by omega) (h.frl _) (h.rlt _) (Nat.or_lt_two_pow (n := 4) (h.wlt _) hp) (h.bgn _) (by show (tx v d.2.1).ph ≠ 2; omega) (fun hh => by
      have hh' : (tx v d.2.1).ph = 0 := hh
      omega) (fun i hi hr => h.frs i hi _ hr) (by show (tx v d.2.1).ph ≤ 3; omega)
  split
  · exact h
  · refine inv_put h d3 (by omega) (by simpa using h.frl _) (Nat.or_lt_two_pow (n := 4) (h.rlt _) hp) (h.wlt _) (h.bgn _) (by show (tx v d.2.1).ph ≠ 2; omega) (fun hh => by
      have hh' : (tx v d.2.1).ph = 0 := hh
      omega) (fun i hi hr => ?_) (by show (tx v d.2.1).ph ≤ 3; omega)
    show ((tx v d.2.1).frm.set d.2.2.1 _).getD i 0 = (seen (verl v i) (tx v d.2.1).bg).1
    rw [getD_set]
    by_cases e : d.2.2.1 = i
    · subst e
      rw [if_pos ⟨rfl, by rw [h.frl]; exact d5⟩]
    · rw [if_neg (fun g => e g.1)]
      refine h.frs i hi _ ?_
      have hr' : ((tx v d.2.1).rds ||| 2 ^ d.2.2.1).testBit i = true := hr
      rw [Nat.testBit_or, Nat.testBit_two_pow] at hr'
      simpa [e] using hr'

/-- who must come behind whom -/
def Wrote (v : V) (x i : Nat) : Prop := (tx v x).ph = 2 ∧ (tx v x).wrt.testBit i = true
def Reads (v : V) (x i : Nat) : Prop := (tx v x).ph = 2 ∧ (tx v x).rds.testBit i = true
def Next (v : V) (i a b : Nat) : Prop := ∃ k, k + 1 < (verl v i).length ∧ ((verl v i).getD k dv).1 = (a : Int) ∧ ((verl v i).getD (k + 1) dv).1 = (b : Int)
def Upon (v : V) (i a b : Nat) : Prop := a ≠ b ∧ Reads v b i ∧ Wrote v a i ∧ (tx v a).en ≤ (tx v b).bg
def Past (v : V) (i a b : Nat) : Prop := a ≠ b ∧ Reads v a i ∧ Wrote v b i ∧ (tx v a).bg < (tx v b).en
def Beh (v : V) (a b : Nat) : Prop := ∃ i, i < 4 ∧ (Next v i a b ∨ Upon v i a b ∨ Past v i a b)
def Over (v : V) (a b : Nat) : Prop := ∃ i, i < 4 ∧ Past v i a b ∧ (tx v b).bg < (tx v a).en

theorem getD_at {l : List Ver} {k : Nat} (h : k < l.length) : l.getD k dv = l[k] := by
  rw [List.getD_eq_getElem?_getD, List.getElem?_eq_getElem h]; rfl
theorem Inv.at_ {v : V} (h : Inv v) {i : Nat} (hi : i < 4) {k a : Nat} (hk : k < (verl v i).length) (ha : ((verl v i).getD k dv).1 = (a : Int)) : a < 5 ∧ Wrote v a i ∧ ((verl v i).getD k dv).2 = (tx v a).en := by
  rw [getD_at hk] at ha ⊢
  rcases h.mem i hi _ (List.getElem_mem hk) with g | ⟨x, g1, g2, g3, g4⟩
  · rw [g] at ha
    have : (-1 : Int) = (a : Int) := ha
    omega
  · rw [g2] at ha ⊢
    have : (x : Int) = (a : Int) := ha
    obtain rfl : x = a := by omega
    exact ⟨g1, ⟨g3, g4⟩, rfl⟩
theorem Next.en_lt {v : V} (h : Inv v) {i : Nat} (hi : i < 4) {a b : Nat} (hn : Next v i a b) : a ≠ b ∧ Wrote v a i ∧ Wrote v b i ∧ (tx v a).en ≤ (tx v b).bg := by
  obtain ⟨k, hk, h1, h2⟩ := hn
  obtain ⟨a1, a2, a3⟩ := h.at_ hi (by omega) h1
  obtain ⟨b1, b2, b3⟩ := h.at_ hi hk h2
  have hs := List.pairwise_iff_getElem.1 (h.srt i hi) k (k + 1) (by omega) hk (by omega)
  rw [← getD_at, ← getD_at, a3, b3] at hs
  have hne : a ≠ b := by rintro rfl; omega
  refine ⟨hne, a2, b2, ?_⟩
  rcases h.win i hi a b hne a2.1 a2.2 b2.1 b2.2 with g | g
  · exact g
  · have := (h.com a a2.1).1; omega

/-- FEKETE AND OTHERS: where none that reads past another one is read past, what must come behind goes up -/
theorem key_up {v : V} (h : Inv v) (hd : ∀ a b c, Over v a b → ¬ Over v b c) (K : Nat → Nat) (hK1 : ∀ x, (∃ y, Over v x y) → K x = 2 * (tx v x).bg + 1) (hK2 : ∀ x, (¬ ∃ y, Over v x y) → K x = 2 * (tx v x).en) {a b : Nat} (hab : Beh v a b) : K a < K b := by
  obtain ⟨i, hi, hab⟩ := hab
  have hcom : ∀ x, (tx v x).ph = 2 → (tx v x).bg < (tx v x).en := fun x hx => (h.com x hx).1
  have hle : ∀ x, (tx v x).ph = 2 → 2 * (tx v x).bg + 1 ≤ K x ∧ K x ≤ 2 * (tx v x).en := by
    intro x hx
    have := hcom x hx
    by_cases g : ∃ y, Over v x y
    · rw [hK1 x g]; omega
    · rw [hK2 x g]; omega
  have hplain : (tx v a).ph = 2 → (tx v b).ph = 2 → (tx v a).en ≤ (tx v b).bg → K a < K b := by
    intro ha hb he
    have h1 := hle a ha
    have h2 := hle b hb
    omega
  rcases hab with hn | ⟨hne, hr, hw, he⟩ | ⟨hne, hr, hw, he⟩
  · obtain ⟨_, g1, g2, g3⟩ := hn.en_lt h hi
    exact hplain g1.1 g2.1 g3
  · exact hplain hw.1 hr.1 he
  · by_cases g : (tx v b).bg < (tx v a).en
    · have ho : Over v a b := ⟨i, hi, ⟨hne, hr, hw, he⟩, g⟩
      rw [hK1 a ⟨b, ho⟩, hK2 b (fun ⟨c, hc⟩ => hd a b c ho hc)]
      omega
    · exact hplain hr.1 hw.1 (by omega)
/-- so there is a row -/
theorem row_of_safe {v : V} (h : Inv v) (hd : ∀ a b c, Over v a b → ¬ Over v b c) {e : List Nat} (he : ∀ a b, rel e a b = true → Beh v a b) : ∃ r, Rw.row e = some r := by
  classical
  refine Rw.row_of_irr fun i => ?_
  let K : Nat → Nat := fun x => if (∃ y, Over v x y) then 2 * (tx v x).bg + 1 else 2 * (tx v x).en
  have hup : ∀ a b, rel e a b = true → K a < K b := fun a b hab => key_up h hd K (fun x hx => if_pos hx) (fun x hx => if_neg hx) (he a b hab)
  by_cases g : rel (closed e) i i = true
  · rw [closed_iff] at g
    have := g (fun x y => K x < K y) (fun a b h => hup a b h) (fun a b c h1 h2 => Nat.lt_trans h1 h2)
    exact absurd this (Nat.lt_irrefl _)
  · simpa using g

end Vw
end Go.Proofs.YtkindaadadggoaaDoor
