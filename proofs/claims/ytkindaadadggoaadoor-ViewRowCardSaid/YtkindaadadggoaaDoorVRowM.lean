/- Plain words on what the law ViewRow counts: who wrote what, and who read what of whom. No program is in sight. Conditions: none. -/
import Derived.Test.YtkindaadadggoaaDoorVFirM
import Derived.Test.YtkindaadadggoaaDoorViewR
namespace Go.Proofs.YtkindaadadggoaaDoor
namespace Vw
open Odr Sch

/-- what was read: by whom, which item, of whom -/
abbrev R3 := Nat × Nat × Int
def Had (v : V) (p : R3) : Prop := p.1 < 5 ∧ p.2.1 < 4 ∧ (tx v p.1).rds.testBit p.2.1 = true ∧ p.2.2 = (tx v p.1).frm.getD p.2.1 0
structure VR (v : V) (W : List Nat) (R : List R3) : Prop where
  lw : W.length = 5
  wr : ∀ x, x < 5 → W.getD x 0 = (tx v x).wrt
  rd : ∀ p ∈ R, Had v p
def fR (d : D4) (n : Int) (W : List Nat) (R : List R3) : List R3 := if d.1 = 3 ∧ d.2.2.2 ≠ 1 ∧ (W.getD d.2.1 0).testBit d.2.2.1 = false then R ++ [(d.2.1, d.2.2.1, n)] else R
theorem vr0 : VR v0 [0, 0, 0, 0, 0] [] := by
  refine ⟨rfl, fun x _ => ?_, fun p hp => by cases hp⟩
  rw [tx_v0]
  match x with
  | 0 => rfl
  | 1 => rfl
  | 2 => rfl
  | 3 => rfl
  | 4 => rfl
  | x + 5 => rfl
/-- one turns, and keeps what it read -/
theorem Had.keep {v : V} (hl : v.txs.length = 5) {x : Nat} (hx : x < 5) {t : T} (ht : ∀ i, i < 4 → (tx v x).rds.testBit i = true → t.rds.testBit i = true ∧ t.frm.getD i 0 = (tx v x).frm.getD i 0) {p : R3} (h : Had v p) : Had (put v x t) p := by
  obtain ⟨a, b, c, d⟩ := h
  refine ⟨a, b, ?_, ?_⟩
  · rw [tx_put hl hx]
    by_cases e : p.1 = x
    · rw [if_pos e]; rw [e] at c; exact (ht _ b c).1
    · rw [if_neg e]; exact c
  · rw [tx_put hl hx]
    by_cases e : p.1 = x
    · rw [if_pos e, (ht _ b (by rw [← e]; exact c)).2, ← e]; exact d
    · rw [if_neg e]; exact d
theorem VR.step {v : V} {W : List Nat} {R : List R3} (hI : Inv v) (h : VR v W R) {d : D4} (hd : OkD d) :
    ((vstep v d).2.2 = 0 → VR (vstep v d).1 (fW d W) (fR d (vstep v d).2.1 W R) ∧ (d.1 = 3 → d.2.2.2 ≠ 1 → (W.getD d.2.1 0).testBit d.2.2.1 = true → (vstep v d).2.1 = (d.2.1 : Int))) ∧ ((vstep v d).2.2 ≠ 0 → VR (vstep v d).1 W R) := by
  obtain ⟨k, x, i, u⟩ := d
  obtain ⟨d1, d2, d3, d4⟩ := hd
  simp only at d1 d2 d3 d4
  have hw5 := h.lw
  have tp := fun (t : T) (y : Nat) => tx_put hI.ltx d3 t y
  have hwk : ∀ (t : T), t.wrt = (tx v x).wrt → ∀ y, y < 5 → W.getD y 0 = (tx (put v x t) y).wrt := by
    intro t ht y hy
    rw [tp]
    by_cases e : y = x
    · subst e; rw [if_pos rfl, ht]; exact h.wr _ hy
    · rw [if_neg e]; exact h.wr _ hy
  unfold vstep
  simp only
  by_cases hk4 : k = 4
  · rw [if_pos hk4]
    by_cases hp : (tx v x).ph = 0
    · rw [if_neg (by omega)]
      refine ⟨fun _ => ⟨?_, fun hh => absurd hh (by omega)⟩, fun hh => absurd rfl hh⟩
      unfold fW fR
      simp only
      rw [if_neg (by omega), if_neg (by omega)]
      refine ⟨h.lw, hwk _ rfl, fun p hp' => by refine Had.keep hI.ltx d3 ?_ (h.rd p hp'); intro j _ hb; exact ⟨hb, rfl⟩⟩
    · rw [if_pos hp]
      exact ⟨fun hh => (by cases hh), fun _ => h⟩
  · rw [if_neg hk4]
    by_cases hp : (tx v x).ph = 1
    · rw [if_neg (by omega)]
      by_cases hk5 : k = 5
      · rw [if_pos hk5]
        by_cases hst : stale v x = true
        · rw [if_pos hst]
          exact ⟨fun hh => (by cases hh), fun _ => ⟨h.lw, hwk _ rfl, fun p hp' => by refine Had.keep hI.ltx d3 ?_ (h.rd p hp'); intro j _ hb; exact ⟨hb, rfl⟩⟩⟩
        · rw [if_neg hst]
          refine ⟨fun _ => ⟨?_, fun hh => absurd hh (by omega)⟩, fun hh => absurd rfl hh⟩
          unfold fW fR
          simp only
          rw [if_neg (by omega), if_neg (by omega)]
          have tc := fun (y : Nat) => tx_commit hI.ltx d3 y
          refine ⟨h.lw, fun y hy => ?_, fun p hp' => ?_⟩
          · rw [tc]
            by_cases e : y = x
            · subst e; rw [if_pos rfl]; exact h.wr _ hy
            · rw [if_neg e]; exact h.wr _ hy
          · obtain ⟨a, b, c, d⟩ := h.rd p hp'
            refine ⟨a, b, ?_, ?_⟩
            · rw [tc]
              by_cases e : p.1 = x
              · rw [if_pos e]; rw [e] at c; exact c
              · rw [if_neg e]; exact c
            · rw [tc]
              by_cases e : p.1 = x
              · rw [if_pos e]; rw [e] at d; exact d
              · rw [if_neg e]; exact d
      · rw [if_neg hk5]
        by_cases hu : u = 1
        · rw [if_pos hu]
          refine ⟨fun _ => ⟨?_, fun _ hh => absurd hu hh⟩, fun hh => absurd rfl hh⟩
          unfold fW fR
          simp only
          rw [if_pos ⟨by omega, hu⟩, if_neg (fun hh => hh.2.1 hu)]
          refine ⟨by simpa using h.lw, fun y hy => ?_, fun p hp' => by refine Had.keep hI.ltx d3 ?_ (h.rd p hp'); intro j _ hb; exact ⟨hb, rfl⟩⟩
          rw [getD_set_nat _ _ _ _ (by omega), tp]
          by_cases e : y = x
          · subst e; rw [if_pos rfl, if_pos rfl, h.wr _ hy]
          · rw [if_neg e, if_neg e]; exact h.wr _ hy
        · rw [if_neg hu]
          have hfe : fW (k, x, i, u) W = W := by
            unfold fW
            simp only
            rw [if_neg (by omega)]
          rw [hfe]
          have hwx := h.wr x d3
          by_cases ht : (tx v x).wrt.testBit i = true
          · rw [if_pos ht]
            refine ⟨fun _ => ⟨?_, fun _ _ _ => rfl⟩, fun hh => absurd rfl hh⟩
            unfold fR
            simp only
            rw [if_neg (fun hh => by rw [hwx, ht] at hh; exact absurd hh.2.2 (by decide))]
            exact h
          · rw [if_neg ht]
            refine ⟨fun _ => ⟨?_, fun _ _ hh => absurd (by rw [← hwx]; exact hh) ht⟩, fun hh => absurd rfl hh⟩
            have hi4 := (d4 (by omega)).1
            unfold fR
            simp only
            rw [if_pos ⟨by omega, hu, by rw [hwx]; simpa using ht⟩]
            refine ⟨h.lw, hwk _ rfl, fun p hp' => ?_⟩
            rcases List.mem_append.1 hp' with g | g
            · refine Had.keep hI.ltx d3 (fun j _ hb => ⟨?_, ?_⟩) (h.rd p g)
              · show ((tx v x).rds ||| 2 ^ i).testBit j = true
                rw [Nat.testBit_or, hb]; rfl
              · show ((tx v x).frm.set i _).getD j 0 = _
                rw [getD_set]
                by_cases e : i = j
                · subst e
                  rw [if_pos ⟨rfl, by rw [hI.frl]; exact hi4⟩, hI.frs i hi4 x hb]
                · rw [if_neg (fun g => e g.1)]
            · rw [List.mem_singleton.1 g]
              refine ⟨d3, hi4, ?_, ?_⟩
              · show (tx (put v x _) x).rds.testBit i = true
                rw [tp, if_pos rfl]
                show ((tx v x).rds ||| 2 ^ i).testBit i = true
                rw [Nat.testBit_or, Nat.testBit_two_pow]; simp
              · show _ = (tx (put v x _) x).frm.getD i 0
                rw [tp, if_pos rfl]
                show _ = ((tx v x).frm.set i _).getD i 0
                rw [getD_set, if_pos ⟨rfl, by rw [hI.frl]; exact hi4⟩]
    · rw [if_pos hp]
      exact ⟨fun hh => (by cases hh), fun _ => h⟩
theorem lastTo_congr {W W' : Nat → Bool} {r : List Nat} {n : Nat} (h : ∀ k, k < n → W (r.getD k 0) = W' (r.getD k 0)) : lastTo W r n = lastTo W' r n := by
  induction n with
  | zero => rfl
  | succ n ih => rw [lastTo, lastTo, h n (by omega), ih fun k hk => h k (by omega)]
/-- a row of the five -/
structure Row5 (r : List Nat) : Prop where
  len : r.length = 5
  lt : ∀ k, r.getD k 0 < 5
  at_ : ∀ x, x < 5 → ∃ q, q < 5 ∧ r.getD q 0 = x ∧ ∀ k, k < q → r.getD k 0 ≠ x
theorem row5 {v : V} (hI : Inv v) {r : List Nat} (hr : Rw.row (ed v).1 = some r) : Row5 r := by
  obtain ⟨a, b, c, d⟩ := Rw.row_spec hr
  rw [(five_ed hI).1.1] at a c
  have hg : ∀ q (hq : q < 5), r.getD q 0 = r[q]'(by omega) := by
    intro q hq
    rw [List.getD_eq_getElem?_getD, List.getElem?_eq_getElem (by omega)]; rfl
  refine ⟨a, fun k => ?_, fun x hx => ?_⟩
  · rcases Nat.lt_or_ge k 5 with h | h
    · rw [hg k h]; exact c _ (List.getElem_mem _)
    · rw [List.getD_eq_getElem?_getD, List.getElem?_eq_none (by omega)]; decide
  · obtain ⟨q, hq, e⟩ := List.mem_iff_getElem.1 (nodup_all b c a x hx)
    refine ⟨q, by omega, by rw [hg q (by omega)]; exact e, fun k hk e2 => ?_⟩
    rw [hg k (by omega), ← e] at e2
    have := nodup_inj b e2
    omega
/-- IN A ROW EACH READS THE SAME -/
theorem VR.law {v : V} {W : List Nat} {R : List R3} (hI : Inv v) (h : VR v W R) {r : List Nat} (hr : Rw.row (ed v).1 = some r) {S : Nat} (hS : ∀ x, x < 5 → S.testBit x = decide ((tx v x).ph = 2)) {p : R3} (hp : p ∈ R) (hc : S.testBit p.1 = true) {q : Nat} (hq : q < 5) (hqt : r.getD q 0 = p.1) :
    lastTo (fun x => S.testBit x && (W.getD x 0).testBit p.2.1) r q = p.2.2 := by
  obtain ⟨a, b, c, d⟩ := h.rd p hp
  have h5 := row5 hI hr
  obtain ⟨e1, e2, e3, e4⟩ := Rw.row_spec hr
  rw [(five_ed hI).1.1] at e1 e3
  rw [hS _ a, decide_eq_true_eq] at hc
  have := row_reads hI (e := (ed v).1) e1 e2 e4 (fun x hx => nodup_all e2 e3 e1 x hx) (fun a b hab => (rel_ed hI a b).1.2 hab) b hc c hq hqt
  rw [d, hI.frs _ b _ c, ← this]
  refine lastTo_congr fun k hk => ?_
  show (S.testBit _ && _) = _
  rw [hS _ (h5.lt k), h.wr _ (h5.lt k)]
end Vw
end Go.Proofs.YtkindaadadggoaaDoor
