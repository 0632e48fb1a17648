/- Plain words on histories: the search for a row, what a row is, and that all is well just if each object is. No program is in sight. Conditions: none. -/
import Derived.Test.YtjmjifcaobkobaaDoorBits
import Derived.Test.YtjmjifcaobkobaaDoorCnt
namespace Go.Proofs.YtjmjifcaobkobaaDoor
namespace His
open Odr

/-- an op: its process, its object, whether it writes, its value, from when, to when -/
abbrev N6 := Nat × Nat × Nat × Nat × Nat × Nat
abbrev pr (o : N6) : Nat := o.1
abbrev ob (o : N6) : Nat := o.2.1
abbrev wr (o : N6) : Nat := o.2.2.1
abbrev vl (o : N6) : Nat := o.2.2.2.1
abbrev fr (o : N6) : Nat := o.2.2.2.2.1
abbrev tt (o : N6) : Nat := o.2.2.2.2.2
def d6 : N6 := (0, 0, 0, 0, 0, 0)
def opAt (h : List N6) (i : Nat) : N6 := h.getD i d6
def okStep (h : List N6) (pre : List Nat) (done : Nat) (v : List Nat) (i : Nat) : Bool :=
  !done.testBit i && (decide (diff (pre.getD i 0) done = 0) && (decide (wr (opAt h i) = 1) || decide (v.getD (ob (opAt h i)) 0 = vl (opAt h i))))
def after (h : List N6) (v : List Nat) (i : Nat) : List Nat := v.set (ob (opAt h i)) (vl (opAt h i))
def trial (h : List N6) (pre : List Nat) (F : Nat → List Nat → Option (List Nat)) (done : Nat) (v : List Nat) (i : Nat) : Option (List Nat) :=
  if okStep h pre done v i = true then (F (done ||| 2 ^ i) (after h v i)).map (i :: ·) else none
/-- the least way on, of so many ops -/
def from_ (h : List N6) (pre : List Nat) : Nat → Nat → List Nat → Option (List Nat)
  | 0, _, _ => some []
  | d + 1, done, v => (List.range h.length).findSome? (trial h pre (from_ h pre d) done v)
def aheadB (all : Bool) (a b : N6) : Bool := decide (tt a ≤ fr b) && (all || decide (pr a = pr b))
def pres (all : Bool) (h : List N6) : List Nat := (List.range h.length).map fun j => mk h.length fun i => aheadB all (opAt h i) (opAt h j)
def rowOf (all : Bool) (h : List N6) : Option (List Nat) := from_ h (pres all h) h.length 0 [0, 0, 0]

theorem first_of {α : Type} {g : Nat → Option α} {n : Nat} {r : α} (h : (List.range n).findSome? g = some r) : ∃ k, k < n ∧ g k = some r ∧ ∀ j, j < k → g j = none := by
  induction n with
  | zero => simp at h
  | succ n ih =>
    rw [List.range_succ, List.findSome?_append] at h
    cases h1 : (List.range n).findSome? g with
    | some x =>
      rw [h1] at h
      obtain ⟨k, a, b, c⟩ := ih (by rw [h1]; exact h)
      exact ⟨k, by omega, b, c⟩
    | none =>
      rw [h1] at h
      have h2 : g n = some r := by simpa using h
      exact ⟨n, by omega, h2, fun j hj => List.findSome?_eq_none_iff.1 h1 j (List.mem_range.2 hj)⟩
theorem first_some {α : Type} {g : Nat → Option α} {n k : Nat} {r : α} (hk : k < n) (hg : g k = some r) (hb : ∀ j, j < k → g j = none) : (List.range n).findSome? g = some r := by
  induction n with
  | zero => omega
  | succ n ih =>
    rw [List.range_succ, List.findSome?_append]
    by_cases h : k < n
    · rw [ih h]; rfl
    · obtain rfl : k = n := by omega
      rw [List.findSome?_eq_none_iff.2 (fun x hx => hb x (List.mem_range.1 hx))]
      simp [hg]

/-- may these ops be done, in this row? -/
def GoodFrom (h : List N6) (pre : List Nat) : List Nat → Nat → List Nat → Prop
  | [], _, _ => True
  | i :: l, done, v => i < h.length ∧ okStep h pre done v i = true ∧ GoodFrom h pre l (done ||| 2 ^ i) (after h v i)
def LexLe : List Nat → List Nat → Prop
  | [], _ => True
  | _ :: _, [] => False
  | a :: l, b :: m => a < b ∨ (a = b ∧ LexLe l m)

theorem from_complete {h : List N6} {pre : List Nat} : ∀ (d done : Nat) (v r : List Nat), r.length = d → GoodFrom h pre r done v → ∃ r', from_ h pre d done v = some r' := by
  intro d
  induction d with
  | zero => intro done v r _ _; exact ⟨[], rfl⟩
  | succ d ih =>
    intro done v r hl hg
    match r, hl with
    | i :: l, hl =>
      obtain ⟨h1, h2, h3⟩ := hg
      obtain ⟨r', hr'⟩ := ih _ _ l (by simpa using hl) h3
      cases hs : (List.range h.length).findSome? (trial h pre (from_ h pre d) done v) with
      | some x => exact ⟨x, by rw [from_, hs]⟩
      | none =>
        have := List.findSome?_eq_none_iff.1 hs i (List.mem_range.2 h1)
        unfold trial at this
        rw [if_pos h2, hr'] at this
        cases this
theorem from_some {h : List N6} {pre : List Nat} : ∀ (d done : Nat) (v r : List Nat), from_ h pre d done v = some r → r.length = d ∧ GoodFrom h pre r done v ∧ ∀ r', r'.length = d → GoodFrom h pre r' done v → LexLe r r' := by
  intro d
  induction d with
  | zero =>
    intro done v r hr
    rw [from_] at hr
    obtain rfl := Option.some.inj hr
    exact ⟨rfl, trivial, fun _ _ _ => trivial⟩
  | succ d ih =>
    intro done v r hr
    rw [from_] at hr
    obtain ⟨k, hk, hk2, hk3⟩ := first_of hr
    unfold trial at hk2
    split at hk2
    · rename_i hok
      obtain ⟨r1, hr1, rfl⟩ := Option.map_eq_some_iff.1 hk2
      obtain ⟨a, b, c⟩ := ih _ _ _ hr1
      refine ⟨by simp [a], ⟨hk, hok, b⟩, fun r' hl hg => ?_⟩
      match r', hl with
      | i :: l, hl =>
        obtain ⟨g1, g2, g3⟩ := hg
        show k < i ∨ (k = i ∧ LexLe r1 l)
        rcases Nat.lt_trichotomy k i with e | e | e
        · exact .inl e
        · subst e; exact .inr ⟨rfl, c l (by simpa using hl) g3⟩
        · exfalso
          obtain ⟨r2, hr2⟩ := from_complete d _ _ l (by simpa using hl) g3
          have := hk3 i e
          unfold trial at this
          rw [if_pos g2, hr2] at this
          cases this
    · cases hk2

/-- each reads what was written last -/
def Legal : Nat → List N6 → Prop
  | _, [] => True
  | c, a :: s => (wr a = 1 ∨ c = vl a) ∧ Legal (vl a) s
def onObj (o : Nat) (s : List N6) : List N6 := s.filter fun a => decide (ob a = o)

theorem after_getD {h : List N6} {v : List Nat} (hv : v.length = 3) {i : Nat} (hb : ob (opAt h i) < 3) (o : Nat) : (after h v i).getD o 0 = if ob (opAt h i) = o then vl (opAt h i) else v.getD o 0 := by
  unfold after
  rw [List.getD_eq_getElem?_getD, List.getD_eq_getElem?_getD, List.getElem?_set]
  by_cases e : ob (opAt h i) = o
  · rw [if_pos e, if_pos e, if_pos (by omega)]; rfl
  · rw [if_neg e, if_neg e]
theorem length_after (h : List N6) (v : List Nat) (i : Nat) : (after h v i).length = v.length := by simp [after]
theorem diff_zero_iff (x y : Nat) : diff x y = 0 ↔ ∀ i, x.testBit i = true → y.testBit i = true := by
  constructor
  · intro h i hi
    have := testBit_diff x y i
    rw [h, Nat.zero_testBit, hi] at this
    simpa using this.symm
  · intro h
    apply Nat.eq_of_testBit_eq
    intro i
    rw [testBit_diff, Nat.zero_testBit]
    by_cases g : x.testBit i = true
    · rw [h i g]; simp
    · have : x.testBit i = false := by simpa using g
      rw [this]; rfl
theorem okStep_iff {h : List N6} {pre : List Nat} {done : Nat} {v : List Nat} {i : Nat} : okStep h pre done v i = true ↔ done.testBit i = false ∧ (∀ j, (pre.getD i 0).testBit j = true → done.testBit j = true) ∧ (wr (opAt h i) = 1 ∨ v.getD (ob (opAt h i)) 0 = vl (opAt h i)) := by
  unfold okStep
  simp only [Bool.and_eq_true, Bool.or_eq_true, decide_eq_true_eq, Bool.not_eq_true', diff_zero_iff]

theorem good_spec {h : List N6} {pre : List Nat} (hb : ∀ i, ob (opAt h i) < 3) : ∀ (l : List Nat) (done : Nat) (v : List Nat), v.length = 3 → GoodFrom h pre l done v →
    l.Nodup ∧ (∀ x ∈ l, x < h.length ∧ done.testBit x = false) ∧ l.Pairwise (fun a b => (pre.getD a 0).testBit b = false) ∧ ∀ o, Legal (v.getD o 0) (onObj o (l.map (opAt h))) := by
  intro l
  induction l with
  | nil => intro done v _ _; exact ⟨List.nodup_nil, fun x hx => by simp at hx, List.Pairwise.nil, fun o => trivial⟩
  | cons i l ih =>
    intro done v hv ⟨h1, h2, h3⟩
    obtain ⟨a, b, c, d⟩ := ih _ _ (by rw [length_after, hv]) h3
    obtain ⟨k1, k2, k3⟩ := okStep_iff.1 h2
    have hbit : ∀ x ∈ l, x ≠ i ∧ done.testBit x = false := by
      intro x hx
      have := (b x hx).2
      rw [Nat.testBit_or, Nat.testBit_two_pow] at this
      simp only [Bool.or_eq_false_iff, decide_eq_false_iff_not] at this
      exact ⟨fun e => this.2 e.symm, this.1⟩
    refine ⟨List.nodup_cons.2 ⟨fun hi => (hbit i hi).1 rfl, a⟩, fun x hx => ?_, List.pairwise_cons.2 ⟨fun x hx => ?_, c⟩, fun o => ?_⟩
    · rcases List.mem_cons.1 hx with rfl | hx
      · exact ⟨h1, k1⟩
      · exact ⟨(b x hx).1, (hbit x hx).2⟩
    · cases e : (pre.getD i 0).testBit x with
      | false => rfl
      | true =>
        have := k2 x e
        rw [(hbit x hx).2] at this
        cases this
    · have := d o
      rw [after_getD hv (hb i)] at this
      unfold onObj at this ⊢
      rw [List.map_cons, List.filter_cons]
      by_cases e : ob (opAt h i) = o
      · rw [if_pos e] at this
        rw [if_pos (decide_eq_true e)]
        refine ⟨?_, this⟩
        rcases k3 with k3 | k3
        · exact .inl k3
        · right; rw [← e]; exact k3
      · rw [if_neg e] at this
        rw [if_neg (by simpa using e)]
        exact this
theorem good_of {h : List N6} {pre : List Nat} (hb : ∀ i, ob (opAt h i) < 3) (hirr : ∀ i, (pre.getD i 0).testBit i = false) : ∀ (l : List Nat) (done : Nat) (v : List Nat), v.length = 3 → l.Nodup → (∀ x ∈ l, x < h.length ∧ done.testBit x = false) →
    l.Pairwise (fun a b => (pre.getD a 0).testBit b = false) → (∀ x ∈ l, ∀ j, (pre.getD x 0).testBit j = true → done.testBit j = true ∨ j ∈ l) → (∀ o, Legal (v.getD o 0) (onObj o (l.map (opAt h)))) → GoodFrom h pre l done v := by
  intro l
  induction l with
  | nil => intros; trivial
  | cons i l ih =>
    intro done v hv hn hx hp hc hL
    obtain ⟨n1, n2⟩ := List.nodup_cons.1 hn
    obtain ⟨p1, p2⟩ := List.pairwise_cons.1 hp
    have hi := hx i (List.mem_cons_self ..)
    have hor : ∀ j, (done ||| 2 ^ i).testBit j = (done.testBit j || decide (i = j)) := fun j => by rw [Nat.testBit_or, Nat.testBit_two_pow]
    refine ⟨hi.1, okStep_iff.2 ⟨hi.2, fun j hj => ?_, ?_⟩, ih _ _ (by rw [length_after, hv]) n2 (fun x hm => ⟨(hx x (List.mem_cons_of_mem _ hm)).1, ?_⟩) p2 (fun x hm j hj => ?_) (fun o => ?_)⟩
    · rcases hc i (List.mem_cons_self ..) j hj with g | g
      · exact g
      · rcases List.mem_cons.1 g with rfl | g
        · rw [hirr j] at hj; cases hj
        · rw [p1 j g] at hj; cases hj
    · have := hL (ob (opAt h i))
      unfold onObj at this
      rw [List.map_cons, List.filter_cons, if_pos (decide_eq_true rfl)] at this
      exact this.1
    · rw [hor, (hx x (List.mem_cons_of_mem _ hm)).2]
      simp only [Bool.false_or, decide_eq_false_iff_not]
      rintro rfl
      exact n1 hm
    · rw [hor]
      rcases hc x (List.mem_cons_of_mem _ hm) j hj with g | g
      · left; rw [g]; rfl
      · rcases List.mem_cons.1 g with rfl | g
        · left; simp
        · exact .inr g
    · have := hL o
      unfold onObj at this ⊢
      rw [List.map_cons, List.filter_cons] at this
      rw [after_getD hv (hb i)]
      by_cases e : ob (opAt h i) = o
      · rw [if_pos (decide_eq_true e)] at this
        rw [if_pos e]
        exact this.2
      · rw [if_neg (by simpa using e)] at this
        rw [if_neg e]
        exact this

/-- what Check lets by -/
structure Hok (h : List N6) : Prop where
  len : h.length ≤ 10
  rng : ∀ a ∈ h, pr a < 5 ∧ ob a < 3 ∧ wr a < 2 ∧ vl a ≤ 1000000 ∧ fr a ≤ 1000000 ∧ tt a ≤ 1000000 ∧ fr a < tt a
  nov : h.Pairwise (fun a b => ¬ (pr a = pr b ∧ fr a < tt b ∧ fr b < tt a))
theorem Hok.sub {h s : List N6} (hh : Hok h) (hs : s.Sublist h) : Hok s :=
  ⟨Nat.le_trans hs.length_le hh.len, fun a ha => hh.rng a (hs.subset ha), hh.nov.sublist hs⟩
theorem Hok.nodup {h : List N6} (hh : Hok h) : h.Nodup :=
  hh.nov.imp_of_mem fun {a b} ha _ hab e => hab (by subst e; have := (hh.rng a ha).2.2.2.2.2.2; exact ⟨rfl, this, this⟩)
theorem opAt_mem {h : List N6} {i : Nat} (hi : i < h.length) : opAt h i ∈ h := by
  unfold opAt
  rw [List.getD_eq_getElem?_getD, List.getElem?_eq_getElem hi]
  exact List.getElem_mem hi
theorem opAt_eq {h : List N6} {i : Nat} (hi : i < h.length) : opAt h i = h[i] := by
  unfold opAt
  rw [List.getD_eq_getElem?_getD, List.getElem?_eq_getElem hi]; rfl
theorem Hok.obj {h : List N6} (hh : Hok h) (i : Nat) : ob (opAt h i) < 3 := by
  by_cases hi : i < h.length
  · exact (hh.rng _ (opAt_mem hi)).2.1
  · unfold opAt
    rw [List.getD_eq_getElem?_getD, List.getElem?_eq_none (by omega)]
    decide

theorem pres_bit (all : Bool) (h : List N6) (j i : Nat) : ((pres all h).getD j 0).testBit i = (decide (j < h.length) && (decide (i < h.length) && aheadB all (opAt h i) (opAt h j))) := by
  unfold pres
  rw [List.getD_eq_getElem?_getD, List.getElem?_map]
  by_cases hj : j < h.length
  · rw [List.getElem?_range hj]
    simp [testBit_mk, hj]
  · rw [List.getElem?_eq_none (by simp; omega)]
    simp [hj]
theorem Hok.irr {h : List N6} (hh : Hok h) (all : Bool) (i : Nat) : ((pres all h).getD i 0).testBit i = false := by
  rw [pres_bit]
  by_cases hi : i < h.length
  · have := (hh.rng _ (opAt_mem hi)).2.2.2.2.2.2
    have e : decide (tt (opAt h i) ≤ fr (opAt h i)) = false := by simp; omega
    simp [aheadB, e]
  · simp [hi]

/-- a row of all ops: each reads what was written last, and what must stand ahead does -/
def Lin (all : Bool) (h L : List N6) : Prop := L.Perm h ∧ L.Pairwise (fun a b => aheadB all b a = false) ∧ ∀ o, Legal 0 (onObj o L)

theorem init_getD (o : Nat) : ([0, 0, 0] : List Nat).getD o 0 = 0 := by
  match o with
  | 0 => rfl
  | 1 => rfl
  | 2 => rfl
  | o + 3 => rfl
theorem perm_range {l : List Nat} {n : Nat} (hn : l.Nodup) (hl : ∀ x ∈ l, x < n) (hlen : l.length = n) : l.Perm (List.range n) := by
  refine (List.perm_ext_iff_of_nodup hn List.nodup_range).2 fun x => ?_
  rw [List.mem_range]
  exact ⟨hl x, nodup_all hn hl hlen x⟩
theorem map_range_opAt (h : List N6) : (List.range h.length).map (opAt h) = h := by
  apply List.ext_getElem (by simp)
  intro i h1 h2
  simp [opAt, List.getD_eq_getElem?_getD, List.getElem?_eq_getElem h2]
theorem lin_of_good {all : Bool} {h : List N6} (hh : Hok h) {l : List Nat} (hl : l.length = h.length) (hg : GoodFrom h (pres all h) l 0 [0, 0, 0]) : Lin all h (l.map (opAt h)) := by
  obtain ⟨a, b, c, d⟩ := good_spec hh.obj l 0 [0, 0, 0] rfl hg
  refine ⟨?_, ?_, fun o => ?_⟩
  · have := (perm_range a (fun x hx => (b x hx).1) hl).map (opAt h)
    rwa [map_range_opAt] at this
  · rw [List.pairwise_map]
    refine c.imp_of_mem fun {x y} hx hy hxy => ?_
    rw [pres_bit] at hxy
    simpa [(b x hx).1, (b y hy).1] using hxy
  · have := d o
    rwa [init_getD] at this
theorem good_of_lin {all : Bool} {h L : List N6} (hh : Hok h) (hL : Lin all h L) : ∃ l : List Nat, l.length = h.length ∧ GoodFrom h (pres all h) l 0 [0, 0, 0] ∧ l.map (opAt h) = L := by
  obtain ⟨p1, p2, p3⟩ := hL
  have hmem : ∀ a ∈ L, a ∈ h := fun a ha => p1.mem_iff.1 ha
  have hback : ∀ a ∈ L, opAt h (h.idxOf a) = a := fun a ha => by
    have hlt := List.idxOf_lt_length_of_mem (hmem a ha)
    rw [opAt_eq hlt]
    exact List.getElem_idxOf hlt
  have hmap : (L.map fun a => h.idxOf a).map (opAt h) = L := by
    rw [List.map_map]
    conv => rhs; rw [← List.map_id L]
    exact List.map_congr_left fun a ha => hback a ha
  have hLn : L.Nodup := hh.nodup.perm p1.symm
  refine ⟨L.map fun a => h.idxOf a, by rw [List.length_map]; exact p1.length_eq, ?_, hmap⟩
  refine good_of hh.obj (hh.irr all) _ 0 _ rfl ?_ ?_ ?_ ?_ ?_
  · rw [List.Nodup, List.pairwise_map]
    refine hLn.imp_of_mem fun {a b} ha hb hab e => hab ?_
    rw [← hback a ha, ← hback b hb, e]
  · intro x hx
    obtain ⟨a, ha, rfl⟩ := List.mem_map.1 hx
    exact ⟨List.idxOf_lt_length_of_mem (hmem a ha), Nat.zero_testBit _⟩
  · rw [List.pairwise_map]
    refine p2.imp_of_mem fun {a b} ha hb hab => ?_
    rw [pres_bit, hback a ha, hback b hb, hab]
    simp
  · intro x hx j hj
    right
    rw [pres_bit] at hj
    simp only [Bool.and_eq_true, decide_eq_true_eq] at hj
    have hjm : opAt h j ∈ L := p1.mem_iff.2 (opAt_mem hj.2.1)
    refine List.mem_map.2 ⟨opAt h j, hjm, ?_⟩
    have hlt := List.idxOf_lt_length_of_mem (hmem _ hjm)
    have e := hback _ hjm
    generalize h.idxOf (opAt h j) = k at *
    rw [opAt_eq hlt, opAt_eq hj.2.1] at e
    exact (List.getElem_inj hh.nodup).1 e
  · intro o
    rw [hmap, init_getD]
    exact p3 o
theorem rowOf_isSome {all : Bool} {h : List N6} (hh : Hok h) : (rowOf all h).isSome = true ↔ ∃ L, Lin all h L := by
  constructor
  · intro hs
    obtain ⟨r, hr⟩ := Option.isSome_iff_exists.1 hs
    obtain ⟨a, b, _⟩ := from_some _ _ _ _ hr
    exact ⟨_, lin_of_good hh a b⟩
  · rintro ⟨L, hL⟩
    obtain ⟨l, a, b, _⟩ := good_of_lin hh hL
    obtain ⟨r, hr⟩ := from_complete _ _ _ l a b
    exact Option.isSome_iff_exists.2 ⟨r, hr⟩
theorem lin_weaker {h L : List N6} (hL : Lin true h L) : Lin false h L := by
  refine ⟨hL.1, hL.2.1.imp fun {a b} hab => ?_, hL.2.2⟩
  unfold aheadB at hab ⊢
  simp at hab ⊢
  intro h1; omega

theorem sorted_by (p : N6 → Nat) (M : List N6) : ∃ L : List N6, L.Perm M ∧ L.Pairwise (fun a b => p a ≤ p b) ∧ ∀ s : List N6, s.Sublist M → s.Pairwise (fun a b => p a ≤ p b) → s.Sublist L := by
  have htr : ∀ a b c : N6, decide (p a ≤ p b) = true → decide (p b ≤ p c) = true → decide (p a ≤ p c) = true := by
    intro a b c h1 h2
    simp only [decide_eq_true_eq] at *
    omega
  have hto : ∀ a b : N6, (decide (p a ≤ p b) || decide (p b ≤ p a)) = true := by
    intro a b
    simp only [Bool.or_eq_true, decide_eq_true_eq]
    omega
  refine ⟨M.mergeSort (fun a b => decide (p a ≤ p b)), List.mergeSort_perm _ _, ?_, fun s hs hp => ?_⟩
  · exact (List.pairwise_mergeSort htr hto M).imp fun h => of_decide_eq_true h
  · exact List.sublist_mergeSort htr hto (hp.imp fun h => decide_eq_true h) hs
theorem ahead_false_of {all : Bool} {a b : N6} (h : fr a < tt b) : aheadB all b a = false := by
  unfold aheadB
  have : decide (tt b ≤ fr a) = false := by simp; omega
  rw [this]; rfl
theorem legal_writes {s : List N6} (h : ∀ a ∈ s, wr a = 1) : ∀ c, Legal c s := by
  induction s with
  | nil => intro c; trivial
  | cons a s ih => intro c; exact ⟨.inl (h a (List.mem_cons_self ..)), ih (fun b hb => h b (List.mem_cons_of_mem _ hb)) _⟩
/-- what only writes is atomic -/
theorem lin_writes {h : List N6} (hh : Hok h) (hw : ∀ a ∈ h, wr a = 1) : ∃ L, Lin true h L := by
  obtain ⟨L, h1, h2, _⟩ := sorted_by fr h
  refine ⟨L, h1, h2.imp_of_mem fun {a b} ha hb hab => ahead_false_of ?_, fun o => legal_writes (fun a ha => hw a (h1.mem_iff.1 ((List.mem_filter.1 ha).1))) _⟩
  have := (hh.rng b (h1.mem_iff.1 hb)).2.2.2.2.2.2
  omega

theorem onObj_onObj (o o' : Nat) (s : List N6) : onObj o' (onObj o s) = if o = o' then onObj o s else [] := by
  unfold onObj
  rw [List.filter_filter]
  by_cases e : o = o'
  · subst e; rw [if_pos rfl]; simp
  · rw [if_neg e, List.filter_eq_nil_iff]
    intro a _
    simp
    intro h1 h2; exact e (h2.symm.trans h1)
/-- of each op its point: the latest beginning of those up to it -/
def point : Nat → List N6 → N6 → Nat
  | _, [], _ => 0
  | c, x :: s, a => if x = a then max c (fr x) else point (max c (fr x)) s a
theorem point_spec : ∀ (s : List N6) (c : Nat), s.Nodup → s.Pairwise (fun a b => fr a < tt b) → (∀ a ∈ s, c < tt a ∧ fr a < tt a) →
    (∀ a ∈ s, c ≤ point c s a ∧ fr a ≤ point c s a ∧ point c s a < tt a) ∧ s.Pairwise (fun a b => point c s a ≤ point c s b) := by
  intro s
  induction s with
  | nil => intro c _ _ _; exact ⟨fun a ha => by simp at ha, List.Pairwise.nil⟩
  | cons x s ih =>
    intro c hn hp hc
    obtain ⟨n1, n2⟩ := List.nodup_cons.1 hn
    obtain ⟨p1, p2⟩ := List.pairwise_cons.1 hp
    have hx := hc x (List.mem_cons_self ..)
    obtain ⟨a1, a2⟩ := ih (max c (fr x)) n2 p2 (fun a ha => by
      have := hc a (List.mem_cons_of_mem _ ha)
      have := p1 a ha
      omega)
    have hne : ∀ a ∈ s, x ≠ a := fun a ha e => n1 (e ▸ ha)
    have hpt : ∀ a ∈ s, point c (x :: s) a = point (max c (fr x)) s a := fun a ha => by rw [point, if_neg (hne a ha)]
    have hpx : point c (x :: s) x = max c (fr x) := by rw [point, if_pos rfl]
    refine ⟨fun a ha => ?_, List.pairwise_cons.2 ⟨fun a ha => ?_, a2.imp_of_mem fun {a b} ha hb hab => ?_⟩⟩
    · rcases List.mem_cons.1 ha with rfl | ha
      · rw [hpx]; omega
      · rw [hpt a ha]
        have := a1 a ha
        omega
    · rw [hpx, hpt a ha]
      exact (a1 a ha).1
    · rw [hpt a ha, hpt b hb]; exact hab
/-- HERLIHY, WING -/
theorem lin_local {h : List N6} (hh : Hok h) : (∃ L, Lin true h L) ↔ ∀ o, o < 3 → ∃ L, Lin true (onObj o h) L := by
  constructor
  · rintro ⟨L, h1, h2, h3⟩ o _
    refine ⟨onObj o L, h1.filter _, h2.sublist List.filter_sublist, fun o' => ?_⟩
    rw [onObj_onObj]
    split
    · exact h3 o
    · trivial
  · intro hall
    obtain ⟨L0, q0⟩ := hall 0 (by decide)
    obtain ⟨L1, q1⟩ := hall 1 (by decide)
    obtain ⟨L2, q2⟩ := hall 2 (by decide)
    let Ls : Nat → List N6 := fun o => if o = 0 then L0 else if o = 1 then L1 else L2
    have hLs : ∀ o, o < 3 → Lin true (onObj o h) (Ls o) := by
      intro o ho
      have : o = 0 ∨ o = 1 ∨ o = 2 := by omega
      rcases this with rfl | rfl | rfl
      · exact q0
      · exact q1
      · exact q2
    have hmem : ∀ o, o < 3 → ∀ a ∈ Ls o, a ∈ h ∧ ob a = o := by
      intro o ho a ha
      have := (hLs o ho).1.mem_iff.1 ha
      unfold onObj at this
      rw [List.mem_filter] at this
      exact ⟨this.1, of_decide_eq_true this.2⟩
    have hps : ∀ o, o < 3 → (∀ a ∈ Ls o, 0 ≤ point 0 (Ls o) a ∧ fr a ≤ point 0 (Ls o) a ∧ point 0 (Ls o) a < tt a) ∧ (Ls o).Pairwise (fun a b => point 0 (Ls o) a ≤ point 0 (Ls o) b) := fun o ho => point_spec (Ls o) 0 ((hh.nodup.sublist List.filter_sublist).perm (hLs o ho).1.symm) ((hLs o ho).2.1.imp_of_mem fun {a b} ha hb hab => by
      unfold aheadB at hab
      simp at hab
      exact hab) (fun a ha => by
      have := (hh.rng a (hmem o ho a ha).1).2.2.2.2.2.2
      omega)
    let p : N6 → Nat := fun a => point 0 (Ls (ob a)) a
    obtain ⟨L, h1, h2, h3⟩ := sorted_by p (L0 ++ L1 ++ L2)
    have hperm : (L0 ++ L1 ++ L2).Perm h := by
      have e : ∀ s : List N6, (∀ a ∈ s, ob a < 3) → (onObj 0 s ++ onObj 1 s ++ onObj 2 s).Perm s := by
        intro s
        induction s with
        | nil => intro _; exact List.Perm.refl _
        | cons a s ih =>
          intro hs
          have := ih (fun b hb => hs b (List.mem_cons_of_mem _ hb))
          have ha := hs a (List.mem_cons_self ..)
          unfold onObj at this ⊢
          simp only [List.filter_cons]
          have hc : ob a = 0 ∨ ob a = 1 ∨ ob a = 2 := by omega
          have hf : ∀ o o' : Nat, ob a = o' → (if decide (ob a = o) = true then a :: List.filter (fun a => decide (ob a = o)) s else List.filter (fun a => decide (ob a = o)) s) = if o' = o then a :: List.filter (fun a => decide (ob a = o)) s else List.filter (fun a => decide (ob a = o)) s := fun o o' h => by rw [h]; by_cases g : o' = o <;> simp [g]
          rw [hf 0 (ob a) rfl, hf 1 (ob a) rfl, hf 2 (ob a) rfl]
          generalize List.filter (fun a => decide (ob a = 0)) s = s0 at *
          generalize List.filter (fun a => decide (ob a = 1)) s = s1 at *
          generalize List.filter (fun a => decide (ob a = 2)) s = s2 at *
          rcases hc with e | e | e
          · rw [if_pos e, if_neg (by omega), if_neg (by omega)]
            exact this.cons a
          · rw [if_neg (by omega), if_pos e, if_neg (by omega)]
            refine List.Perm.trans ?_ (this.cons a)
            rw [List.append_assoc, List.append_assoc]
            exact List.perm_middle
          · rw [if_neg (by omega), if_neg (by omega), if_pos e]
            exact List.Perm.trans List.perm_middle (this.cons a)
      exact ((q0.1.append q1.1).append q2.1).trans (e h (fun a ha => (hh.rng a ha).2.1))
    have hL : L.Perm h := h1.trans hperm
    have hpa : ∀ a ∈ h, fr a ≤ p a ∧ p a < tt a := by
      intro a ha
      have hb := (hh.rng a ha).2.1
      have hin : a ∈ Ls (ob a) := (hLs (ob a) hb).1.mem_iff.2 (by unfold onObj; rw [List.mem_filter]; exact ⟨ha, decide_eq_true rfl⟩)
      exact ((hps (ob a) hb).1 a hin).2
    refine ⟨L, hL, h2.imp_of_mem fun {a b} ha hb hab => ahead_false_of ?_, fun o => ?_⟩
    · have g1 := hpa a (hL.mem_iff.1 ha)
      have g2 := hpa b (hL.mem_iff.1 hb)
      omega
    · by_cases ho : o < 3
      · have hsub : (Ls o).Sublist L := h3 _ (by
          have : o = 0 ∨ o = 1 ∨ o = 2 := by omega
          rcases this with rfl | rfl | rfl
          · exact (List.sublist_append_left L0 L1).trans (List.sublist_append_left (L0 ++ L1) L2)
          · exact (List.sublist_append_right L0 L1).trans (List.sublist_append_left (L0 ++ L1) L2)
          · exact List.sublist_append_right (L0 ++ L1) L2) ((hps o ho).2.imp_of_mem fun {a b} ha hb hab => by
          show point 0 (Ls (ob a)) a ≤ point 0 (Ls (ob b)) b
          rw [(hmem o ho a ha).2, (hmem o ho b hb).2]
          exact hab)
        have he : onObj o (Ls o) = Ls o := by
          unfold onObj
          rw [List.filter_eq_self]
          intro a ha
          exact decide_eq_true (hmem o ho a ha).2
        have hsub2 : (Ls o).Sublist (onObj o L) := by
          have := hsub.filter (fun a => decide (ob a = o))
          unfold onObj at he ⊢
          rwa [he] at this
        have hlen : (Ls o).length = (onObj o L).length := by
          rw [(hLs o ho).1.length_eq]
          exact (hL.filter _).length_eq.symm
        rw [← hsub2.eq_of_length hlen, ← he]
        exact (hLs o ho).2.2 o
      · have : onObj o L = [] := by
          unfold onObj
          rw [List.filter_eq_nil_iff]
          intro a ha
          have := (hh.rng a (hL.mem_iff.1 ha)).2.1
          simp; omega
        rw [this]; trivial
end His
end Go.Proofs.YtjmjifcaobkobaaDoor
