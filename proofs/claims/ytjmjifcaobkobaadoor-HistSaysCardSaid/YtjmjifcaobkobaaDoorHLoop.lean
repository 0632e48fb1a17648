/- The search's walk: the loop of 'from'. Conditions: the contract's own premises. -/
import Derived.Test.YtjmjifcaobkobaaDoorHFrom
namespace Go.Proofs.YtjmjifcaobkobaaDoor
open Go.RowKit Go.Maps His

theorem Ops.atN {w : World} {B : Nat} {v : Value} {h : List N6} (hr : Ops w B v (zops h)) {k : Nat} (hk : k < h.length) :
    ∃ b off cap, v = .slice (some ⟨b, off, none⟩) h.length cap ∧ b < B ∧ w.cell? ⟨b, off + k * 6, none⟩ = some (nv (pr (opAt h k))) ∧ w.cell? ⟨b, off + k * 6 + 1, none⟩ = some (nv (ob (opAt h k))) ∧
      w.cell? ⟨b, off + k * 6 + 2, none⟩ = some (nv (wr (opAt h k))) ∧ w.cell? ⟨b, off + k * 6 + 3, none⟩ = some (nv (vl (opAt h k))) ∧ w.cell? ⟨b, off + k * 6 + 4, none⟩ = some (nv (fr (opAt h k))) ∧ w.cell? ⟨b, off + k * 6 + 5, none⟩ = some (nv (tt (opAt h k))) := by
  obtain ⟨b, off, cap, e, _, _, hb, c0, c1, c2, c3, c4, c5⟩ := Ops.at_ hr (k := k) (by simpa using hk)
  have e' : (zops h)[k]'(by simpa using hk) = zop (opAt h k) := by
    rw [opAt_eq hk]; simp [zops]
  rw [e'] at c0 c1 c2 c3 c4 c5
  rw [length_zops] at e
  exact ⟨b, off, cap, e, hb, c0, c1, c2, c3, c4, c5⟩

theorem Stand.only {h : List N6} {pre : List Nat} {hv pv : Value} {bd : Nat} {w w' : World} (hs : Stand h pre hv pv bd w) (hb : Below bd w w') : Stand h pre hv pv bd w' :=
  ⟨Rd.below hs.ops hb, Rd.below hs.ahd hb, hs.len, hs.fit⟩
theorem trial_no {h : List N6} {pre : List Nat} {G : Nat → List Nat → Option (List Nat)} {done i : Nat} {v : List Nat} (hi : okStep h pre done v i = false) : trial h pre G done v i = none := by
  unfold trial; rw [hi]; rfl
theorem from_all {h : List N6} {pre : List Nat} {d done : Nat} {v : List Nat} (ha : ∀ j, j < h.length → trial h pre (from_ h pre d) done v j = none) : from_ h pre (d + 1) done v = none := by
  rw [from_, List.findSome?_eq_none_iff]
  intro x hx
  exact ha x (List.mem_range.1 hx)
theorem from_hit {h : List N6} {pre : List Nat} {d done k : Nat} {v : List Nat} (ha : ∀ j, j < k → trial h pre (from_ h pre d) done v j = none) (hk : k < h.length) {r : List Nat} (hr : trial h pre (from_ h pre d) done v k = some r) : from_ h pre (d + 1) done v = some r := by
  rw [from_]; exact first_some hk hr ha
theorem cnt_set {n x i : Nat} (hi : i < n) (hx : x.testBit i = false) : Odr.cnt n (x ||| 2 ^ i).testBit = Odr.cnt n x.testBit + 1 := by
  rw [← Odr.cnt_eq hi, ← Odr.cnt_or (fun j _ ⟨h1, h2⟩ => by
    have h2 : j = i := of_decide_eq_true h2
    subst h2; rw [hx] at h1; cases h1)]
  refine Odr.cnt_congr fun j _ => ?_
  rw [Nat.testBit_or, Nat.testBit_two_pow]
  by_cases e : i = j
  · simp [e]
  · have : ¬ j = i := fun h => e h.symm
    simp [e, this]

section
variable {w w' : World} {bd B n : Nat} {G : Nat → List Nat → Prop} {hv pv ov : Value} {I : Nat → Option Nat} {l : List Nat}
theorem SrchAt.newInner {d : Nat} (h : SrchAt w bd B n G hv pv ov I l) (hI : I d = none) {w1 : World} (hs : SM w1 bd (n + 1) (upd I d w.heap.size)) (hg : (w.alloc (.map #[] 0)).grownBy w1 (some bd)) :
    SrchAt w1 bd B (n + 1) G hv pv ov (upd I d w.heap.size) l := by
  have h1 := h.alloc (.map #[] 0)
  have hk : ∀ k, k < w.heap.size + 1 → k ≠ bd → w1.heap[k]? = (w.alloc (.map #[] 0)).heap[k]? := fun k hk hn => hg.block k (by simp; omega) (fun e => hn (by injection e))
  have hlt := h.lt
  have ho : Only (fun k => k = bd) (w.alloc (.map #[] 0)) w1 := ⟨hg.os, hg.tape, hg.output, hg.size, fun k hk hn => hg.block k hk (fun e => hn (by injection e))⟩
  refine ⟨row_only' h1.row ho (by show ¬ B = bd; omega), row_only h1.out ho (fun k hk => by have := row_lt h1.out k hk; show ¬ k = bd; omega), hs, fun e b hb => ?_, fun e e' b hb hb' => ?_, h.lt⟩
  · unfold upd at hb
    by_cases he : e = d
    · subst he
      rw [if_pos rfl] at hb
      cases hb
      refine ⟨h.row.lt, ((IM.made w (G e)).of_block (hk _ (by omega) (by have := h.row.lt; omega))).mono (by omega), fun e' => ?_⟩
      have := row_lt h.out _ e'
      omega
    · rw [if_neg he] at hb
      obtain ⟨g1, g2, g3⟩ := h1.inn e b hb
      exact ⟨g1, (g2.of_block (hk _ (by have := (h.inn e b hb).2.1.lt; omega) (by omega))).mono (by omega), g3⟩
  · unfold upd at hb hb'
    by_cases he : e = d
    · by_cases he' : e' = d
      · rw [he, he']
      · rw [if_pos he] at hb
        rw [if_neg he'] at hb'
        cases hb
        have := (h.inn e' _ hb').2.1.lt
        omega
    · by_cases he' : e' = d
      · rw [if_neg he] at hb
        rw [if_pos he'] at hb'
        cases hb'
        have := (h.inn e _ hb).2.1.lt
        omega
      · rw [if_neg he] at hb
        rw [if_neg he'] at hb'
        exact h.inj e e' b hb hb'
theorem SrchAt.putInner {d b : Nat} (h : SrchAt w bd B n G hv pv ov I l) (hI : I d = some b) {w1 : World} (h2 : IM w1 b (n + 1) (G d)) (hg : w.grownBy w1 (some b)) : SrchAt w1 bd B (n + 1) G hv pv ov I l := by
  have hlt := h.lt
  have hbB := (h.inn d b hI).1
  have ho : Only (fun k => k = b) w w1 := ⟨hg.os, hg.tape, hg.output, hg.size, fun k hk hn => hg.block k hk (fun e => hn (by injection e))⟩
  refine ⟨row_only' h.row ho (by show ¬ B = b; omega), row_only h.out ho (fun k hk e => (h.inn d b hI).2.2 (e ▸ hk)), (h.map.of_block (ho.block bd h.map.lt (by show ¬ bd = b; omega))).mono (by omega), fun e b' hb' => ?_, h.inj, h.lt⟩
  obtain ⟨g1, g2, g3⟩ := h.inn e b' hb'
  by_cases he : b' = b
  · subst he
    have := h.inj e d b' hb' hI
    subst this
    exact ⟨g1, h2, g3⟩
  · exact ⟨g1, (g2.of_block (ho.block b' g2.lt he)).mono (by omega), g3⟩
end
end Go.Proofs.YtjmjifcaobkobaaDoor
