/- Contracts of package down: Is, Last. Conditions: each contract's own premises. -/
import Derived.Test.YtpicjikjinkkpaaDoorDown
namespace Go.Proofs.YtpicjikjinkkpaaDoor
open Go.RowKit Go.Shelf
attribute [local go_sem] Oper.semAt_some

theorem is_err (l : List Int) (v : Value) (s : Int) (w : World) (hr : Ints w w.heap.size v l) (hne : orderCode l ≠ 0) :
    Calls Tryd.prog 26 #[v, .int .i64 s] w fun e w' => e = .returned (.tuple #[.bool false, .iface 56 (nv (orderCode l))]) ∧ Below w.heap.size w w' := by
  have hchk := Lib.hid (close_err l v s w hr hne)
  go_enter Tryd.func26, Tryd.ntmps26
  go_wp2_with fail
  refine hchk.out.mono ?_
  rintro e w1 ⟨rfl, hb1⟩
  clear hchk hr
  go_wp2_with fail
  go_ret2
  exact ⟨rfl, hb1⟩
theorem is_mask (m : List Nat) (v : Value) (s : Int) (w : World) (hr : Ints w w.heap.size v (zs m)) (hv : Odr.Valid m) (hT : Tab w) (hs : ¬ (0 ≤ s ∧ s < 2 ^ m.length)) :
    Calls Tryd.prog 26 #[v, .int .i64 s] w fun e w' => e = .returned (.tuple #[.bool false, .iface 56 (.int .i64 1)]) ∧ Below w.heap.size w w' := by
  have hchk := Lib.hid (close_mask m v s w hr hv hT hs)
  clear hs
  go_enter Tryd.func26, Tryd.ntmps26
  go_wp2_with fail
  refine hchk.out.mono ?_
  rintro e w1 ⟨rfl, hb1⟩
  clear hchk hr
  go_wp2_with fail
  go_ret2
  exact ⟨rfl, hb1⟩
theorem is_ok (m : List Nat) (v : Value) (s : Nat) (w : World) (hr : Ints w w.heap.size v (zs m)) (hv : Odr.Valid m) (hT : Tab w) (hs : s < 2 ^ m.length) :
    Calls Tryd.prog 26 #[v, nv s] w fun e w' => e = .returned (.tuple #[.bool (decide (Odr.dclose m s = s)), .nilIface]) ∧ Below w.heap.size w w' := by
  have hchk := Lib.hid (close_ok m v s w hr hv hT hs)
  clear hs hv
  generalize Odr.dclose m s = x at hchk ⊢
  go_enter Tryd.func26, Tryd.ntmps26
  go_wp2_with fail
  refine hchk.out.mono ?_
  rintro e w1 ⟨rfl, hb1⟩
  clear hchk hr
  go_wp2_with fail
  go_ret2
  have he : (((x : Nat) : Int) == (s : Int)) = decide (x = s) := by
    by_cases h : x = s
    · simp [h]
    · have h2 : (x : Int) ≠ (s : Int) := by omega
      simp [h, h2]
  refine ⟨?_, hb1⟩
  show Ending.returned (.tuple #[.bool ((x : Int) == (s : Int)), .nilIface]) = _
  rw [he]
theorem last_err (l : List Int) (v : Value) (s : Int) (w : World) (hr : Ints w w.heap.size v l) (hne : orderCode l ≠ 0) :
    Calls Tryd.prog 33 #[v, .int .i64 s] w fun e w' => e = .returned (.tuple #[.int .i64 0, .iface 56 (nv (orderCode l))]) ∧ Below w.heap.size w w' := by
  have hchk := Lib.hid (set_err l v s w hr hne)
  refine (callsIn_wide (n := 9)).1 ?_
  refine callsIn_of_wp_marks Tryd.func33 rfl trivial ?_ rfl
  simp only [Tryd.ntmps33, List.size_toArray, List.length_cons, List.length_nil, Nat.reduceAdd, Nat.reduceSub, Array.replicate_succ, Array.replicate_zero, List.push_toArray, List.append_toArray, List.nil_append, List.cons_append]
  gi_wp2_with fail
  refine ⟨trivial, ?_⟩
  refine (callsIn_wide.2 hchk.out).mono ?_
  rintro e w1 ⟨rfl, hb1⟩
  clear hchk hr
  gi_wp2_with fail
  exact ⟨_, results_tmp2 rfl _ _ _, rfl, hb1.trans (((Below.refl w1.heap.size w1).alloc (Nat.le_refl _) _).mono hb1.size)⟩
theorem last_mask (m : List Nat) (v : Value) (s : Int) (w : World) (hr : Ints w w.heap.size v (zs m)) (hv : Odr.Valid m) (hT : Tab w) (hs : ¬ (0 ≤ s ∧ s < 2 ^ m.length)) :
    Calls Tryd.prog 33 #[v, .int .i64 s] w fun e w' => e = .returned (.tuple #[.int .i64 0, .iface 56 (.int .i64 1)]) ∧ Below w.heap.size w w' := by
  have hchk := Lib.hid (set_mask m v s w hr hv hT hs)
  refine (callsIn_wide (n := 9)).1 ?_
  refine callsIn_of_wp_marks Tryd.func33 rfl trivial ?_ rfl
  simp only [Tryd.ntmps33, List.size_toArray, List.length_cons, List.length_nil, Nat.reduceAdd, Nat.reduceSub, Array.replicate_succ, Array.replicate_zero, List.push_toArray, List.append_toArray, List.nil_append, List.cons_append]
  gi_wp2_with fail
  refine ⟨trivial, ?_⟩
  refine (callsIn_wide.2 hchk.out).mono ?_
  rintro e w1 ⟨rfl, hb1⟩
  clear hchk hr
  gi_wp2_with fail
  exact ⟨_, results_tmp2 rfl _ _ _, rfl, hb1.trans (((Below.refl w1.heap.size w1).alloc (Nat.le_refl _) _).mono hb1.size)⟩

set_option maxHeartbeats 1000000 in
theorem last_ok (m : List Nat) (v : Value) (s : Nat) (w : World) (hr : Ints w w.heap.size v (zs m)) (hv : Odr.Valid m) (hT : Tab w) (hs : s < 2 ^ m.length) :
    Calls Tryd.prog 33 #[v, nv s] w fun e w' => e = .returned (.tuple #[nv (Odr.dlast m s), .nilIface]) ∧ Below w.heap.size w w' := by
  have hchk := Lib.hid (set_ok m v s w hr hv hT hs)
  have hfew := hv.few
  have HT := Lib.hid hT
  have h12 : s < 4096 := Nat.lt_of_lt_of_le hs (show 2 ^ m.length ≤ 2 ^ 12 from Nat.pow_le_pow_right (by omega) hv.few)
  clear hr hT hv
  refine (callsIn_wide (n := 9)).1 ?_
  refine callsIn_of_wp_marks Tryd.func33 rfl trivial ?_ rfl
  simp only [Tryd.ntmps33, List.size_toArray, List.length_cons, List.length_nil, Nat.reduceAdd, Nat.reduceSub, Array.replicate_succ, Array.replicate_zero, List.push_toArray, List.append_toArray, List.nil_append, List.cons_append]
  gi_wp2_with fail
  refine ⟨trivial, ?_⟩
  refine (callsIn_wide.2 hchk.out).mono ?_
  rintro e w1 ⟨u, rfl, hown, hb1⟩
  clear hchk
  obtain ⟨A, cap, rfl⟩ := Rd.val hown.ints
  have htl := Odr.length_turned m
  rw [length_zs, htl] at hown ⊢
  gi_wp2_with fail
  refine ⟨trivial, ?_⟩
  refine (callsIn_wide.2 (bits_make s _)).mono ?_
  rintro e w2 ⟨rfl, hw2⟩
  simp only [World.size_alloc] at hw2 ⊢
  obtain ⟨B, hB⟩ : ∃ B, B = w1.heap.size := ⟨_, rfl⟩
  rw [← hB]
  have hs2 : w2.heap.size = B + 3 := by rw [← hw2, hB]; simp [go_sem]
  have hb2 : Below w1.heap.size w1 w2 := by rw [← hw2]; exact (((Below.refl _ w1).alloc (Nat.le_refl _) _).alloc (by simp) _).alloc (by simp; omega) _
  have hc6 : w2.cell? ⟨B, 0, none⟩ = some (.slice A m.length cap) := by rw [← hw2, hB]; simp [go_sem]
  have hc8 : w2.cell? ⟨B + 1, 0, none⟩ = some (nv s) := by rw [← hw2, hB]; simp [go_sem]
  have hf8 : w2.frozen? ⟨B + 1, 0, none⟩ = false := by rw [← hw2, hB]; simp [go_sem]
  have hcb : w2.cell? ⟨B + 2, 0, none⟩ = some (nv s) := by rw [← hw2, hB]; simp [go_sem]
  have hb12 : Below w.heap.size w w2 := hb1.trans (hb2.mono hb1.size)
  have HB := Lib.hid (show w.heap.size ≤ B by rw [hB]; exact hb1.size)
  have HS2 := Lib.hid hs2
  have hlt : ∀ p, Odr.diffAll (Odr.turned m) s p < 2 ^ m.length := fun p => Odr.diffAll_lt p hs
  have HLT := Lib.hid hlt
  have h2n : 2 ^ m.length ≤ 4096 := show 2 ^ m.length ≤ 2 ^ 12 from Nat.pow_le_pow_right (by omega) hfew
  have HTL := Lib.hid htl
  have HBE := Lib.hid hB
  clear hw2 hs2 hB hlt htl
  gi_wp2_with fail
  refine wpIn_rangeFunc_ownF rfl (by omega) (gf := 75) (lb := #[.pointer (some ⟨B + 1 + 1, 0, none⟩)]) rfl trivial (enters_of Tryd.func75 (by kernel_rfl) rfl)
    (bits_stops 8 (by omega) (B + 2) w.heap.size s h12 w2 (HT.out.below hb12) HT.out.lt hcb) belowK_t (belowK_b (by have := HS2.out; have := HB.out; omega)) (Below.refl _ _) (fun _ => rfl)
    (fun pre W => Below w1.heap.size w1 W ∧ W.cell? ⟨B, 0, none⟩ = some (.slice A m.length cap) ∧ (W.cell? ⟨B + 1, 0, none⟩ = some (nv (Odr.diffAll (Odr.turned m) s (pre.map (·.1)))) ∧ W.frozen? ⟨B + 1, 0, none⟩ = false))
    (fun _ _ _ => False)
    (OwnFrom.and (ownFrom_below (Nat.le_refl _) (by have := HS2.out; have := HBE.out; omega)) (OwnFrom.and (ownFrom_cell1 _ _) (ownFrom_cell _ _)))
    (fun _ _ _ _ _ h _ _ => h) ⟨hb2, hc6, hc8, hf8⟩
    (fun x => { tmps := #[v, nv s, undef, undef, .int .i64 0, .nilIface, .pointer (some ⟨B, 0, none⟩), .nilIface, .pointer (some ⟨B + 1, 0, none⟩), nv x.1, .tuple #[.slice A m.length cap, .nilIface], v, nv s, .tuple #[.slice A m.length cap, .nilIface], .slice A m.length cap, .nilIface, .nilIface, .bool false, undef, nv s, nv s, .func (.func 75) #[] #[.pointer (some ⟨B + 1 + 1, 0, none⟩)], nv x.1, undef, undef, undef, undef, undef, undef, undef], defers := [] }) ?assign ?body ?done ?stop
  case assign =>
    intro l x W K hK
    gi_wp2
    exact hK
  case body =>
    rintro l pre ⟨x, hx⟩ W ⟨i1, i2, i3, i4⟩ _
    have hxm : x < m.length := by
      by_cases h : x < m.length
      · exact h
      · rw [Odr.testBit_lt (n := m.length) hs (by omega)] at hx; cases hx
    obtain ⟨g, c2, he, gb, gl, _, gc, gf, -⟩ := Own.shape (hown.kept i1) (by rw [length_zs, HTL.out]; omega)
    rw [length_zs, HTL.out] at he
    injection he with he1 he2 he3
    subst he1
    have gx := gc x (by rw [length_zs, HTL.out]; omega)
    rw [zs_getElem] at gx
    have hs1 := Lib.hid (Odr.diffAll_snoc (Odr.turned m) s (pre.map (·.1)) x)
    have hz1 : Odr.diffAll (Odr.turned m) s (pre.map (·.1)) < 4096 := Nat.lt_of_lt_of_le (HLT.out _) h2n
    have hz2 : (Odr.turned m).getD x 0 < 4096 := Nat.lt_of_lt_of_le (Odr.turned_getD_lt m x) h2n
    obtain ⟨z, hz⟩ : ∃ z, z = Odr.diffAll (Odr.turned m) s (pre.map (·.1)) := ⟨_, rfl⟩
    obtain ⟨y, hy⟩ : ∃ y, y = (Odr.turned m).getD x 0 := ⟨_, rfl⟩
    rw [← hz] at i3 hs1 hz1
    rw [← hy] at gx hs1 hz2
    obtain ⟨W', hW'⟩ : ∃ W', (W.setCell ⟨B + 1, 0, none⟩ (.int .i64 (bits .andNot .i64 (z : Int) (y : Int)))).drew = W' := ⟨_, rfl⟩
    have f1 : KeepsOthers W W' := by rw [← hW']; exact (KeepsOthers.setCell _ _ _).trans (KeepsOthers.drew _)
    have f2 : Below w.heap.size W W' := by rw [← hW']; exact ((Below.refl w.heap.size W).setCell (p := ⟨B + 1, 0, none⟩) (by have := HB.out; simp; omega) _).drew
    have f3 : Below w1.heap.size w1 W' := by rw [← hW']; exact (i1.setCell (p := ⟨B + 1, 0, none⟩) (by have := HBE.out; simp; omega) _).drew
    have f4 : W'.cell? ⟨B, 0, none⟩ = some (.slice (some ⟨g, 0, none⟩) m.length cap) := by rw [← hW']; exact (cell_other _ _ _ (by simp)).trans i2
    have f5 : W'.cell? ⟨B + 1, 0, none⟩ = some (nv (Odr.diffAll (Odr.turned m) s ((pre ++ [(⟨x, hx⟩ : El s)]).map (·.1)))) := by
      rw [← hW', bits_andNot z y (by omega) (by omega)]
      simp only [List.map_append, List.map_cons, List.map_nil, hs1.out]
      exact World.cell?_setCell_same _ _ _ i3
    have f6 : W'.frozen? ⟨B + 1, 0, none⟩ = false := by rw [← hW']; exact (World.frozen?_setCell ..).trans i4
    have FIN := Lib.hid (And.intro f1 (And.intro f2 (And.intro f3 (And.intro f4 (And.intro f5 f6)))))
    rw [← hW'] at FIN
    clear hW' f1 f2 f3 f4 f5 f6 hz hy gc gf i1 hs1 hz1 hz2
    gi_wp2_with fail
    gi_region
    all_goals gi_wp2_with fail
    all_goals exact FIN.out
  case done =>
    rintro D xs W hD hxs ⟨i1, i2, i3, i4⟩ hK
    rw [hxs] at i3
    have hm : MarksOk w.heap.size [D] W := (MarksOk.nil _ _).cons hK (by have := HS2.out; have := HB.out; omega) (by simp)
    have HM := Lib.hid hm
    have I5 := Lib.hid (hb1.trans (i1.mono hb1.size))
    have hr : nv (Odr.diffAll (Odr.turned m) s (bitsOf s)) = nv (Odr.dlast m s) := rfl
    rw [hr] at i3
    clear hm i1 i2 i4 hK hxs hr
    gi_wp2_with fail
    refine leaves_marks [D] _ HM.out fun w' hs => ?_
    exact ⟨_, results_tmp2 rfl _ _ _, rfl, hs.below I5.out⟩
  case stop =>
    rintro D c pre W _ _ h _
    exact h.elim

end Go.Proofs.YtpicjikjinkkpaaDoor
