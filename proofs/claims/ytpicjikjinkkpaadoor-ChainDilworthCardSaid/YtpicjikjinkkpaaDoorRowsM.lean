/- Plain words on chain.Rows: as few rows as the widest has things. No program is in sight. Conditions: none. -/
import Derived.Test.YtpicjikjinkkpaaDoorFillM
import Derived.Test.YtpicjikjinkkpaaDoorWidest
namespace Go.Proofs.YtpicjikjinkkpaaDoor
open Go.RowKit
namespace Odr

/-- of each thing those that are ahead of it, or behind it -/
def nearOf (c : List Nat) : List Nat := (List.range c.length).map fun j => mk c.length fun i => rel c i j || rel c j i
@[simp] theorem length_nearOf (c : List Nat) : (nearOf c).length = c.length := by simp [nearOf]
theorem bit_nearOf {c : List Nat} {i j : Nat} (hi : i < c.length) (hj : j < c.length) : ((nearOf c).getD j 0).testBit i = (rel c i j || rel c j i) := by
  unfold nearOf
  rw [List.getD_eq_getElem?_getD, List.getElem?_map, List.getElem?_range hj]
  show (mk c.length fun i => rel c i j || rel c j i).testBit i = _
  rw [testBit_mk]; simp [hi]
theorem nearOf_lt (c : List Nat) (j : Nat) : (nearOf c).getD j 0 < 2 ^ c.length := by
  unfold nearOf
  rw [List.getD_eq_getElem?_getD, List.getElem?_map]
  cases h : (List.range c.length)[j]? with
  | none => exact Nat.two_pow_pos _
  | some x => exact mk_lt _ _
theorem filter_len (n : Nat) (p : Nat → Bool) : ((List.range n).filter p).length = cnt n p := by
  induction n with
  | zero => rfl
  | succ n ih =>
    rw [List.range_succ, List.filter_append, List.length_append, ih, cnt]
    cases h : p n <;> simp [List.filter, h]
/-- how many rows are needed -/
def mostOf (c : List Nat) : Nat := pop 12 (widest c)
def fillOf (c : List Nat) : Option (List Nat) := Dil.fill (nearOf c) (mostOf c) c.length 0 []
theorem anti_le {m : List Nat} (hv : Valid m) {T : List Nat} (hT : Dil.Anti (fun i j => rel (closed m) i j = true) T) (hs : ∀ x ∈ T, x ∈ List.range (closed m).length) : T.length ≤ mostOf (closed m) := by
  have hlen := length_closed m
  have h12 : (closed m).length ≤ 12 := by rw [hlen]; exact hv.few
  have hlt := mk_lt (closed m).length (fun i => decide (i ∈ T))
  have h4 : mk (closed m).length (fun i => decide (i ∈ T)) < 4096 := Nat.lt_of_lt_of_le hlt (show 2 ^ (closed m).length ≤ 2 ^ 12 from Nat.pow_le_pow_right (by omega) h12)
  have hb : ∀ i, (mk (closed m).length (fun i => decide (i ∈ T))).testBit i = true → i ∈ T := fun i hi => by
    rw [testBit_mk] at hi
    simp at hi
    exact hi.2
  have hside : sideB (closed m) (mk (closed m).length (fun i => decide (i ∈ T))) = true := (sideB_iff h4).2 fun i j hi hj => by
    have := hT.2 i (hb i hi) j (hb j hj)
    simpa using this
  have h1 := widest_most hlt hside
  refine Nat.le_trans ?_ h1
  unfold pop
  rw [← filter_len]
  refine Dil.nodup_le hT.1 fun x hx => ?_
  have hx2 := List.mem_range.1 (hs x hx)
  rw [List.mem_filter, List.mem_range, testBit_mk]
  exact ⟨by omega, by simp [hx, hx2]⟩
theorem rows_some {m : List Nat} (hv : Valid m) : ∃ r, fillOf (closed m) = some r := by
  have hirr : ∀ x, ¬ rel (closed m) x x = true := fun x h => by have := hv.asym h; rw [h] at this; cases this
  obtain ⟨f, hf1, hf2⟩ := Dil.dilworth (R := fun i j => rel (closed m) i j = true) hirr (fun x y z h1 h2 => closed_trans h1 h2) (closed m).length (List.range (closed m).length) (mostOf (closed m)) (by simp) List.nodup_range (fun T hT hs => anti_le hv hT hs)
  refine Dil.fill_some (n := (closed m).length) (f := f) (fun x hx => hf1 x (List.mem_range.2 hx)) (fun x y hx hy hxy e => ?_) (closed m).length 0 [] (by omega) ⟨fun _ => 0, fun k l hk => absurd hk (Nat.not_lt_zero _), fun k hk => absurd hk (Nat.not_lt_zero _), fun j hj => absurd hj (Nat.not_lt_zero _)⟩
  rw [bit_nearOf hx hy]
  rcases hf2 x (List.mem_range.2 hx) y (List.mem_range.2 hy) e hxy with h | h
  · rw [h]; rfl
  · rw [h, Bool.or_true]
/-- what the law Dilworth asks of the rows -/
structure RowsOk (c r : List Nat) : Prop where
  len : r.length = c.length
  low : ∀ j, j < c.length → r.getD j 0 ≤ Dil.cntTo r j
  few : Dil.cntTo r c.length = mostOf c
  row : ∀ j, j < c.length → ∀ i, i < j → r.getD i 0 = r.getD j 0 → (rel c i j || rel c j i) = true
theorem rows_ok {m : List Nat} (hv : Valid m) {r : List Nat} (hr : fillOf (closed m) = some r) : RowsOk (closed m) r := by
  obtain ⟨h1, rows', h2, h3⟩ := Dil.fill_spec (closed m).length 0 [] r [] hr rfl (Dil.laidin_nil _) (Nat.zero_le _)
  rw [List.nil_append] at h1 h3
  have hlen : r.length = (closed m).length := by omega
  obtain ⟨g1, g2, g3, g4, g5⟩ := h3
  have hrow : ∀ j, j < (closed m).length → ∀ i, i < j → r.getD i 0 = r.getD j 0 → (rel (closed m) i j || rel (closed m) j i) = true := fun j hj i hi e => by
    have := g4 j (by omega) i hi e
    rw [bit_nearOf (by omega) hj] at this
    exact this
  refine ⟨hlen, fun j hj => g3 j (by omega), ?_, hrow⟩
  rw [← hlen, g1]
  refine Nat.le_antisymm h2 ?_
  have hl := length_closed m
  have h12 : (closed m).length ≤ 12 := by rw [hl]; exact hv.few
  have hw := widest_lt (closed m)
  have hw4 : widest (closed m) < 4096 := Nat.lt_of_lt_of_le hw (show 2 ^ (closed m).length ≤ 2 ^ 12 from Nat.pow_le_pow_right (by omega) h12)
  have hside := (sideB_iff hw4).1 (widest_side (closed m))
  unfold mostOf pop
  rw [← filter_len]
  have hmem : ∀ x ∈ (List.range 12).filter (widest (closed m)).testBit, x < (closed m).length ∧ (widest (closed m)).testBit x = true := fun x hx => by
    have hx := (List.mem_filter.1 hx).2
    refine ⟨?_, hx⟩
    by_cases h : x < (closed m).length
    · exact h
    · rw [testBit_lt hw (Nat.le_of_not_lt h)] at hx; cases hx
  have hnd : (((List.range 12).filter (widest (closed m)).testBit).map fun x => r.getD x 0).Nodup := by
    rw [List.Nodup, List.pairwise_map]
    refine (List.nodup_range.filter _).imp_of_mem fun {a b} ha hb hab e => ?_
    obtain ⟨a1, a2⟩ := hmem a ha
    obtain ⟨b1, b2⟩ := hmem b hb
    have q1 := hside a b a2 b2
    have q2 := hside b a b2 a2
    rcases Nat.lt_or_ge a b with h | h
    · have := hrow b b1 a h e
      rw [q1, q2] at this; cases this
    · have := hrow a a1 b (by omega) e.symm
      rw [q1, q2] at this; cases this
  have := Dil.nodup_le (S := List.range rows'.length) hnd (fun y hy => by
    obtain ⟨x, hx, rfl⟩ := List.mem_map.1 hy
    exact List.mem_range.2 (g5 x (by have := (hmem x hx).1; omega)))
  rw [List.length_map, List.length_range] at this
  exact this
end Odr
end Go.Proofs.YtpicjikjinkkpaaDoor
