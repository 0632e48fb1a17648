/- Plain mathematics: how many sets are closed: at least one more than things, and just so many where all things stand in a row; a step more makes them no more. No program is in sight. Conditions: none. -/
import Derived.Test.YtpicjikjinkkpaaDoorBoundM
namespace Go.Proofs.YtpicjikjinkkpaaDoor
namespace Odr

theorem filter_cnt (n : Nat) (p : Nat → Bool) : ((List.range n).filter p).length = cnt n p := by
  induction n with
  | zero => rfl
  | succ n ih =>
    rw [List.range_succ, List.filter_append, List.length_append, ih, show cnt (n + 1) p = cnt n p + if p n = true then 1 else 0 from rfl]
    by_cases h : p n = true
    · simp [h]
    · simp [h]
theorem downs_cnt (m : List Nat) : downs m = cnt (2 ^ m.length) fun s => decide (dclose m s = s) := filter_cnt _ _
theorem downs_le (m : List Nat) : downs m ≤ 2 ^ m.length := by rw [downs_cnt]; exact cnt_le _ _
theorem list_downs {m L : List Nat} (hn : L.Nodup) (hL : ∀ s ∈ L, s < 2 ^ m.length ∧ dis m s) : L.length ≤ downs m := by
  rw [nodup_length hn (fun s hs => (hL s hs).1), downs_cnt]
  refine cnt_mono fun s _ h => ?_
  exact decide_eq_true (hL s (of_decide_eq_true h)).2
/-- the sets that a row goes through -/
def heads (l : List Nat) : List Nat := (List.range (l.length + 1)).map fun k => bag (l.take k)
theorem mem_take_idx {l : List Nat} (hn : l.Nodup) {j k : Nat} (hj : j < l.length) : l.getD j 0 ∈ l.take k ↔ j < k := by
  have e : l.getD j 0 = l[j] := by rw [List.getD_eq_getElem?_getD, List.getElem?_eq_getElem hj]; rfl
  constructor
  · intro h
    obtain ⟨i, hi, he⟩ := List.mem_take_iff_getElem.1 h
    have h1 := idxOf_getD hn hj
    have hi2 : i < l.length := by omega
    have h2 := idxOf_getD hn hi2
    have e2 : l.getD i 0 = l[i] := by rw [List.getD_eq_getElem?_getD, List.getElem?_eq_getElem hi2]; rfl
    rw [e2, he, h1] at h2
    omega
  · intro h
    rw [e]
    exact List.mem_take_iff_getElem.2 ⟨j, by omega, rfl⟩
theorem heads_nodup {l : List Nat} (hn : l.Nodup) : (heads l).Nodup := by
  unfold heads List.Nodup
  rw [List.pairwise_map]
  refine (List.pairwise_lt_range (n := l.length + 1)).imp_of_mem fun {a b} _ hb hab e => ?_
  have hb' := List.mem_range.1 hb
  have ha : a < l.length := by omega
  have h1 := testBit_bag (l.take a) (l.getD a 0)
  have h2 := testBit_bag (l.take b) (l.getD a 0)
  rw [e, h2, decide_eq_decide, mem_take_idx hn ha, mem_take_idx hn ha] at h1
  omega
theorem heads_dis {m l : List Nat} (hv : Valid m) (h : isRow (closed m) m.length l) : ∀ s ∈ heads l, s < 2 ^ m.length ∧ dis m s := by
  intro s hs
  obtain ⟨k, hk, rfl⟩ := List.mem_map.1 hs
  have hlt : bag (l.take k) < 2 ^ m.length := bag_lt fun x hx => (h.2.1 x).1 (List.mem_of_mem_take hx)
  refine ⟨hlt, (dis_iff hv hlt).2 fun x i hi hxi => ?_⟩
  rw [testBit_bag, decide_eq_true_eq] at hi ⊢
  have hidx := h.2.2 x i hxi
  have hil := List.mem_of_mem_take hi
  have hi2 := List.idxOf_lt_length_iff.2 hil
  have ei : l.getD (l.idxOf i) 0 = i := by rw [List.getD_eq_getElem?_getD, List.getElem?_eq_getElem hi2]; exact List.getElem_idxOf hi2
  rw [← ei, mem_take_idx h.1 hi2] at hi
  have hx2 : l.idxOf x < l.length := by omega
  have ex : l.getD (l.idxOf x) 0 = x := by rw [List.getD_eq_getElem?_getD, List.getElem?_eq_getElem hx2]; exact List.getElem_idxOf hx2
  rw [← ex, mem_take_idx h.1 hx2]
  omega
theorem downs_ge {m : List Nat} (hv : Valid m) : m.length + 1 ≤ downs m := by
  obtain ⟨l, hl⟩ := List.exists_mem_of_length_pos (rows_pos hv)
  have h := (mem_rows hv l).1 hl
  have := list_downs (heads_nodup h.1) (heads_dis hv h)
  unfold heads at this
  rw [List.length_map, List.length_range, row_length h] at this
  exact this
theorem downs_one {m : List Nat} (hv : Valid m) : downs m = m.length + 1 ↔ pop 12 (widest (closed m)) ≤ 1 := by
  obtain ⟨l, hl⟩ := List.exists_mem_of_length_pos (rows_pos hv)
  have h := (mem_rows hv l).1 hl
  have hlen := row_length h
  have hhl : (heads l).length = m.length + 1 := by unfold heads; rw [List.length_map, List.length_range, hlen]
  constructor
  · intro hd
    refine Nat.le_of_not_lt fun hp => ?_
    have hfew := hv.few
    have hw := widest_lt (closed m)
    have hs := widest_side (closed m)
    have hw2 := hw
    rw [length_closed] at hw
    have h12 : widest (closed m) < 4096 := Nat.lt_of_lt_of_le hw (show 2 ^ m.length ≤ 2 ^ 12 from Nat.pow_le_pow_right (by omega) hfew)
    have hside := (sideB_iff h12).1 hs
    obtain ⟨a, b, ha, hb, hab⟩ : ∃ a b, (widest (closed m)).testBit a = true ∧ (widest (closed m)).testBit b = true ∧ a ≠ b := by
      generalize widest (closed m) = x at *
      have hex : ∀ y, y < 4096 → 0 < pop 12 y → ∃ a, y.testBit a = true := fun y hy hpy => by
        refine Classical.byContradiction fun hn => ?_
        have : y = 0 := by
          apply Nat.eq_of_testBit_eq
          intro i
          rw [Nat.zero_testBit]
          cases hb : y.testBit i with
          | false => rfl
          | true => exact absurd ⟨i, hb⟩ hn
        rw [this, pop_zero] at hpy
        omega
      obtain ⟨a, ha⟩ := hex x h12 (by omega)
      have hps := pop_sub (n := 12) h12 ha
      obtain ⟨b, hb⟩ := hex (x - 2 ^ a) (Nat.lt_of_le_of_lt (Nat.sub_le _ _) h12) (by omega)
      rw [testBit_sub_bit ha, Bool.and_eq_true] at hb
      exact ⟨a, b, ha, hb.1, by simpa using hb.2⟩
    have ham := bit_lt hw ha
    have hbm := bit_lt hw hb
    have hA : ∀ i, i < m.length → 2 ^ i < 2 ^ m.length := fun i hi => Nat.pow_lt_pow_right (by omega) hi
    have hin : ∀ i, i < m.length → dclose m (2 ^ i) ∈ heads l := fun i hi => by
      refine Classical.byContradiction fun hn => ?_
      have := list_downs (m := m) (L := dclose m (2 ^ i) :: heads l) (List.nodup_cons.2 ⟨hn, heads_nodup h.1⟩) (fun s hs => by
        rcases List.mem_cons.1 hs with rfl | hs
        · exact ⟨dclose_lt m (hA i hi), dis_dclose hv (hA i hi)⟩
        · exact heads_dis hv h s hs)
      rw [List.length_cons, hhl] at this
      omega
    have hself : ∀ i, i < m.length → (dclose m (2 ^ i)).testBit i = true := fun i hi => (dclose_bit hv (hA i hi) i).2 (.inl (by rw [testBit_two_pow']; simp))
    have hcross : ∀ i j, i < m.length → (dclose m (2 ^ i)).testBit j = true → j = i ∨ rel (closed m) j i = true := fun i j hi hj => by
      rcases (dclose_bit hv (hA i hi) j).1 hj with h1 | ⟨x, h1, h2⟩
      · rw [testBit_two_pow'] at h1; simp at h1; exact .inl h1.symm
      · rw [testBit_two_pow'] at h1; simp at h1; subst h1; exact .inr h2
    obtain ⟨k1, _, e1⟩ := List.mem_map.1 (hin a ham)
    obtain ⟨k2, _, e2⟩ := List.mem_map.1 (hin b hbm)
    have mono : ∀ k k' x, k ≤ k' → (bag (l.take k)).testBit x = true → (bag (l.take k')).testBit x = true := fun k k' x hk hx => by
      rw [testBit_bag, decide_eq_true_eq] at hx ⊢
      obtain ⟨i, hi, he⟩ := List.mem_take_iff_getElem.1 hx
      exact List.mem_take_iff_getElem.2 ⟨i, by omega, he⟩
    rcases Nat.le_total k1 k2 with hk | hk
    · have := mono k1 k2 a hk (by rw [e1]; exact hself a ham)
      rw [e2] at this
      rcases hcross b a hbm this with h1 | h1
      · exact hab h1
      · rw [hside a b ha hb] at h1; cases h1
    · have := mono k2 k1 b hk (by rw [e2]; exact hself b hbm)
      rw [e1] at this
      rcases hcross a b ham this with h1 | h1
      · exact hab h1.symm
      · rw [hside b a hb ha] at h1; cases h1
  · intro hp
    refine Nat.le_antisymm ?_ (downs_ge hv)
    have hall : ∀ s, s < 2 ^ m.length → dis m s → s ∈ heads l := fun s hs hd => by
      obtain ⟨k, ⟨hk1, hk2⟩, hk3⟩ : ∃ k, (k ≤ m.length ∧ (k < m.length → s.testBit (l.getD k 0) = false)) ∧ ∀ j, j < k → s.testBit (l.getD j 0) = true := by
        by_cases hex : ∃ k, k < m.length ∧ (!s.testBit (l.getD k 0)) = true
        · obtain ⟨k, h1, h2, h3⟩ := least_avail hex
          exact ⟨k, ⟨by omega, fun _ => by simpa using h2⟩, fun j hj => by simpa using h3 j hj⟩
        · refine ⟨m.length, ⟨Nat.le_refl _, fun h => absurd h (by omega)⟩, fun j hj => ?_⟩
          cases hb : s.testBit (l.getD j 0) with
          | true => rfl
          | false => exact absurd ⟨j, hj, by rw [hb]; rfl⟩ hex
      refine List.mem_map.2 ⟨k, List.mem_range.2 (by omega), ?_⟩
      apply Nat.eq_of_testBit_eq
      intro x
      rw [testBit_bag, Bool.eq_iff_iff, decide_eq_true_eq]
      constructor
      · intro hx
        obtain ⟨i, hi, he⟩ := List.mem_take_iff_getElem.1 hx
        have hi2 : i < l.length := by omega
        have := hk3 i (by omega)
        rw [List.getD_eq_getElem?_getD, List.getElem?_eq_getElem hi2] at this
        simp only [Option.getD_some] at this
        rwa [he] at this
      · intro hx
        have hxm := bit_lt hs hx
        have hxl := List.idxOf_lt_length_iff.2 ((h.2.1 x).2 hxm)
        have ex : l.getD (l.idxOf x) 0 = x := by rw [List.getD_eq_getElem?_getD, List.getElem?_eq_getElem hxl]; exact List.getElem_idxOf hxl
        rw [← ex, mem_take_idx h.1 hxl]
        refine Nat.lt_of_not_le fun hge => ?_
        have hkl : k < m.length := by omega
        have hk0 := hk2 hkl
        have hb2 := row_lt h (show k < l.length by omega)
        have hne : l.getD k 0 ≠ x := fun e => by rw [e, hx] at hk0; cases hk0
        have hik := idxOf_getD h.1 (show k < l.length by omega)
        rcases narrow_all hv hp hb2 hxm hne with hr | hr
        · have := (dis_iff hv hs).1 hd (l.getD k 0) x hx hr
          rw [hk0] at this; cases this
        · have := h.2.2 _ _ hr
          omega
    have hsub : downs m ≤ (heads l).length := by
      rw [nodup_length (heads_nodup h.1) (fun s hs => (heads_dis hv h s hs).1), downs_cnt]
      exact cnt_mono fun s hs hd => decide_eq_true (hall s hs (show dclose m s = s from of_decide_eq_true hd))
    omega
theorem downs_more {m m' : List Nat} (hv : Valid m) (hv' : Valid m') (hlen : m'.length = m.length) (h : ∀ i j, rel (closed m) i j = true → rel (closed m') i j = true) : downs m' ≤ downs m := by
  rw [downs_cnt, downs_cnt, hlen]
  refine cnt_mono fun s hs hd => decide_eq_true ((dis_iff hv hs).2 fun k i hi hr => ?_)
  exact (dis_iff hv' (by rw [hlen]; exact hs)).1 (show dclose m' s = s from of_decide_eq_true hd) k i hi (h k i hr)
end Odr
end Go.Proofs.YtpicjikjinkkpaaDoor
