/- Contracts of down.Count: how many closed sets there are. Conditions: each contract's own premises. -/
import Derived.Test.YtpicjikjinkkpaaDoorDown2
import Derived.Test.YtpicjikjinkkpaaDoorScope
namespace Go.Proofs.YtpicjikjinkkpaaDoor
open Go.RowKit Go.Shelf
attribute [local go_sem] Oper.semAt_some

theorem count_err (l : List Int) (v : Value) (w : World) (hr : Ints w w.heap.size v l) (hne : orderCode l ≠ 0) :
    Calls Tryd.prog 43 #[v] w fun e w' => e = .returned (.tuple #[.int .i64 0, .iface 56 (nv (orderCode l))]) ∧ Below w.heap.size w w' := by
  have hchk := Lib.hid (turned_err l v w hr hne)
  refine (callsIn_wide (n := 9)).1 ?_
  refine callsIn_of_wp_marks Tryd.func43 rfl trivial ?_ rfl
  simp only [Tryd.ntmps43, List.size_toArray, List.length_cons, List.length_nil, Nat.reduceAdd, Nat.reduceSub, Array.replicate_succ, Array.replicate_zero, List.push_toArray, List.append_toArray, List.nil_append, List.cons_append]
  gi_wp2_with fail
  apply wpIn_scope_wide
  gi_wp2_with fail
  refine ⟨trivial, ?_⟩
  refine (callsIn_wide.2 hchk.out).mono ?_
  rintro e w1 ⟨rfl, hb1⟩
  clear hchk hr
  gi_wp2_with fail
  rw [Exit.noGoto_ret]
  exact ⟨_, results_tmp2 rfl _ _ _, rfl, hb1.trans (((Below.refl w1.heap.size w1).alloc (Nat.le_refl _) _).mono hb1.size)⟩

set_option maxHeartbeats 1000000 in
theorem count_ok (m : List Nat) (v : Value) (w : World) (hr : Ints w w.heap.size v (zs m)) (hv : Odr.Valid m) (hT : Tab w) :
    Calls Tryd.prog 43 #[v] w fun e w' => e = .returned (.tuple #[nv (Odr.downs m), .nilIface]) ∧ Below w.heap.size w w' := by
  have hchk := Lib.hid (turned_ok m v w hr hv hT)
  have hfew := hv.few
  have HT := Lib.hid hT
  clear hr hT hv
  refine (callsIn_wide (n := 9)).1 ?_
  refine callsIn_of_wp_marks Tryd.func43 rfl trivial ?_ rfl
  simp only [Tryd.ntmps43, List.size_toArray, List.length_cons, List.length_nil, Nat.reduceAdd, Nat.reduceSub, Array.replicate_succ, Array.replicate_zero, List.push_toArray, List.append_toArray, List.nil_append, List.cons_append]
  gi_wp2_with fail
  apply wpIn_scope_wide
  gi_wp2_with fail
  refine ⟨trivial, ?_⟩
  refine (callsIn_wide.2 hchk.out).mono ?_
  rintro e w1 ⟨u, rfl, hown, hb1⟩
  clear hchk
  obtain ⟨A, cap, rfl⟩ := Rd.val hown.ints
  have htl := Odr.length_turned m
  rw [length_zs, htl] at hown ⊢
  gi_wp2_with fail
  apply wpIn_label
  obtain ⟨w2, hw2⟩ : ∃ w2, w1.alloc (.cells #[.slice A m.length cap] 22) = w2 := ⟨_, rfl⟩
  have hs2 : w2.heap.size = w1.heap.size + 1 := by rw [← hw2]; simp
  have hb2 : Below w1.heap.size w1 w2 := by rw [← hw2]; exact (Below.refl _ w1).alloc (Nat.le_refl _) _
  have hc4 : w2.cell? ⟨w1.heap.size, 0, none⟩ = some (.slice A m.length cap) := by rw [← hw2]; simp
  obtain ⟨B, hB⟩ : ∃ B, B = w1.heap.size := ⟨_, rfl⟩
  rw [hw2]
  rw [← hB] at hc4 hs2 ⊢
  have hown2 := hown.kept hb2
  have HB2 := Lib.hid (hb1.trans (hb2.mono hb1.size))
  have hle2 : w.heap.size ≤ w2.heap.size := HB2.out.size
  have H1 := Lib.hid (show w.heap.size ≤ B by rw [hB]; exact hb1.size)
  have HTL := Lib.hid htl
  obtain ⟨N, hN⟩ : ∃ N, N = 2 ^ m.length := ⟨_, rfl⟩
  have hN12 : N ≤ 4096 := by rw [hN]; exact (show 2 ^ m.length ≤ 2 ^ 12 from Nat.pow_le_pow_right (by omega) hfew)
  have hwk : IntKind.i64.wrap (2 ^ m.length) = (N : Int) := by
    rw [show (2 : Int) ^ m.length = ((2 ^ m.length : Nat) : Int) by rw [Int.natCast_pow]; rfl, ← hN]
    exact IntWalk.i64_in _ (by constructor <;> omega)
  have HN := Lib.hid hN
  clear hw2 hown hb1 hb2 hB htl hN
  gi_wp2_with fail
  clear hwk
  refine wpIn_loop (fun a wr => ∃ (k : Nat) (rs : List Nat) (y7 y21 y22 y23 y24 y33 y34 y35 : Value), a = { tmps := #[v, undef, .int .i64 0, .nilIface, .pointer (some ⟨B, 0, none⟩), .nilIface, nv (Odr.downsTo m k), y7, undef, .tuple #[.slice A m.length cap, .nilIface], v, .tuple #[.slice A m.length cap, .nilIface], .slice A m.length cap, .nilIface, .nilIface, .bool false, undef, .slice A m.length cap, nv m.length, nv N, nv k, y21, y22, y23, y24, undef, undef, undef, undef, undef, undef, undef, undef, y33, y34, y35, undef], defers := marks rs } ∧ k ≤ N ∧ MarksOk w2.heap.size rs wr ∧ Below w2.heap.size w2 wr) (fun a _ => N - (intOf (a.tmps.getD 20 undef)).toNat) ⟨0, [], _, _, _, _, _, _, _, _, rfl, Nat.zero_le _, MarksOk.nil _ _, Below.refl _ _⟩ ?_
  rintro a wr ⟨k, rs, y7, y21, y22, y23, y24, y33, y34, y35, rfl, hk, hmk, hb⟩
  have hq1 := Odr.downsTo_le m k
  have hq2 := Lib.hid (Odr.downsTo_succ m k)
  have hq3 := Lib.hid (show Odr.downs m = Odr.downsTo m N by rw [HN.out]; rfl)
  by_cases hkn : k < N
  · obtain ⟨q, hq⟩ : ∃ q, q = Odr.downsTo m k := ⟨_, rfl⟩
    rw [← hq] at hq1 hq2 ⊢
    clear hq
    gi_wp2_with fail
    refine ⟨trivial, ?_⟩
    refine (callsIn_wide.2 (bits_make k _)).mono ?_
    rintro e wb ⟨rfl, hwb⟩
    simp only [World.size_alloc]
    obtain ⟨B6, hB6⟩ : ∃ B6, B6 = wr.heap.size := ⟨_, rfl⟩
    have hsb : wb.heap.size = B6 + 2 := by rw [← hwb, hB6]; simp
    have hbb : Below wr.heap.size wr wb := by rw [← hwb]; exact ((Below.refl _ wr).alloc (Nat.le_refl _) _).alloc (by simp) _
    have hc6 : wb.cell? ⟨B6, 0, none⟩ = some (nv k) := by rw [← hwb, hB6]; simp
    have hcb : wb.cell? ⟨B6 + 1, 0, none⟩ = some (nv k) := by rw [← hwb, hB6]; simp
    have hmkb := hmk.calls hbb
    have hBb : Below w2.heap.size w2 wb := hb.trans (hbb.mono hb.size)
    have htabb := HT.out.below (HB2.out.trans (hBb.mono hle2))
    have hB6' : w2.heap.size ≤ B6 := by rw [hB6]; exact hb.size
    have hrsB : ∀ r ∈ rs, r < B6 := by rw [hB6]; exact hmk.lt
    rw [← hB6]
    have HSB := Lib.hid hsb
    clear hwb hsb hmk hb hbb hB6
    gi_wp2_with fail
    refine wpIn_rangeFunc_ownF rfl (by omega) (gf := 75) (lb := #[.pointer (some ⟨B6 + 1, 0, none⟩)]) rfl trivial (enters_of Tryd.func75 (by kernel_rfl) rfl)
      (bits_stops 8 (by omega) (B6 + 1) w.heap.size k (by omega) wb htabb HT.out.lt hcb) belowK_t (belowK_b (by have := HSB.out; omega)) (Below.refl _ _) (fun _ => rfl)
      (fun pre W => (∀ x ∈ pre.map (·.1), Odr.diff ((Odr.turned m).getD x 0) k = 0) ∧ Below wb.heap.size wb W)
      (fun c pre W => (c = .exit 1 ∧ ∃ x, x ∈ bitsOf k ∧ Odr.diff ((Odr.turned m).getD x 0) k ≠ 0) ∧ Below wb.heap.size wb W)
      (OwnFrom.and (ownFrom_pure _) (ownFrom_below (Nat.le_refl _) (Nat.le_refl _)))
      (fun _ => OwnFrom.and (ownFrom_pure _) (ownFrom_below (Nat.le_refl _) (Nat.le_refl _))) ⟨by simp, Below.refl _ _⟩
      (fun x => { tmps := #[v, undef, .int .i64 0, .nilIface, .pointer (some ⟨B, 0, none⟩), .nilIface, nv q, .pointer (some ⟨B6, 0, none⟩), nv x.1, .tuple #[.slice A m.length cap, .nilIface], v, .tuple #[.slice A m.length cap, .nilIface], .slice A m.length cap, .nilIface, .nilIface, .bool false, undef, .slice A m.length cap, nv m.length, nv N, nv k, .bool true, nv k, nv k, .func (.func 75) #[] #[.pointer (some ⟨B6 + 1, 0, none⟩)], nv x.1, undef, undef, undef, undef, undef, undef, undef, y33, y34, y35, undef], defers := [] }) ?assign ?body ?done ?stop
    case assign =>
      intro l x W K hK
      gi_wp2
      exact hK
    case body =>
      rintro l pre ⟨x, hx⟩ W ⟨i1, i2⟩ _
      have hxm : x < m.length := by
        by_cases h : x < m.length
        · exact h
        · rw [Odr.testBit_lt (n := m.length) (by rw [← HN.out]; exact hkn) (by omega)] at hx; cases hx
      obtain ⟨g, c2, he, gb, gl, _, gc, gf, -⟩ := Own.shape (hown2.kept (hBb.trans (i2.mono (by have := HSB.out; omega)))) (by rw [length_zs, HTL.out]; omega)
      rw [length_zs, HTL.out] at he
      injection he with he1 he2 he3
      subst he1
      have gx := gc x (by rw [length_zs, HTL.out]; omega)
      rw [zs_getElem] at gx
      have hz2 : (Odr.turned m).getD x 0 < 4096 := fits12 (l := Odr.turned m) (by rw [HTL.out]; exact hfew) (by rw [HTL.out]; exact Odr.turned_getD_lt m x)
      have hc4W : W.cell? ⟨B, 0, none⟩ = some (.slice (some ⟨g, 0, none⟩) m.length cap) := (i2.cell (p := ⟨B, 0, none⟩) (by have := HSB.out; simp; omega)).trans ((hBb.cell (p := ⟨B, 0, none⟩) (by simp; omega)).trans hc4)
      have hc6W : W.cell? ⟨B6, 0, none⟩ = some (nv k) := (i2.cell (p := ⟨B6, 0, none⟩) (by have := HSB.out; simp; omega)).trans hc6
      obtain ⟨y, hy⟩ : ∃ y, y = (Odr.turned m).getD x 0 := ⟨_, rfl⟩
      rw [← hy] at gx hz2
      have hdf := bits_andNot y k (by omega) (by omega)
      have f1 : KeepsOthers W W.drew := KeepsOthers.drew W
      have f2 : Below w.heap.size W W.drew := (Below.refl w.heap.size W).drew
      have f3 : Below wb.heap.size wb W.drew := i2.drew
      have hxk : x ∈ bitsOf k := (mem_bitsOf (by omega)).2 hx
      by_cases hz : Odr.diff y k = 0
      · have F := Lib.hid (And.intro f1 (And.intro f2 (And.intro (show ∀ z ∈ (pre ++ [(⟨x, hx⟩ : El k)]).map (·.1), Odr.diff ((Odr.turned m).getD z 0) k = 0 by
          intro z hz'
          rw [List.map_append, List.mem_append] at hz'
          rcases hz' with h | h
          · exact i1 z h
          · simp only [List.map_cons, List.map_nil, List.mem_singleton] at h
            subst h
            rw [← hy]; exact hz) f3)))
        have hb0 : (bits .andNot .i64 (y : Int) (k : Int) != 0) = false := by rw [hdf, hz]; simp
        clear gc gf i1 i2 f1 f2 f3 hdf hy hz hxk
        gi_wp2_with fail
        gi_region
        all_goals gi_wp2_with fail
        all_goals exact F.out
      · have F := Lib.hid (And.intro f1 (And.intro (And.intro (rfl : Code.exit 1 = Code.exit 1) (⟨x, hxk, by rw [← hy]; exact hz⟩ : ∃ x, x ∈ bitsOf k ∧ Odr.diff ((Odr.turned m).getD x 0) k ≠ 0)) f3))
        have hb0 : (bits .andNot .i64 (y : Int) (k : Int) != 0) = true := by rw [hdf]; simp; omega
        clear gc gf i1 i2 f1 f2 f3 hdf hy hz hxk
        gi_wp2_with fail
        gi_region
        all_goals gi_wp2_with fail
        all_goals exact ⟨F.out.1, ⟨rfl, F.out.2.1.2⟩, F.out.2.2⟩
    case done =>
      rintro D xs W hD hxs ⟨i1, i2⟩ hK
      rw [hxs] at i1
      have hcl : Odr.dclose m k = k := (Odr.dclose_eq_iff m k).2 i1
      have hDn : D ∉ rs := fun h => by have := hrsB D h; have := HSB.out; omega
      have hmD : MarksOk w2.heap.size (D :: rs) W := (hmkb.calls i2).cons hK (by have := HSB.out; omega) hDn
      have hmarks : marks (D :: rs) = { target := .collected D, args := #[] } :: marks rs := rfl
      rw [← hmarks]
      have HM := Lib.hid hmD
      have HW := Lib.hid (hBb.trans (i2.mono (by have := HSB.out; omega)))
      have HQ := Lib.hid (show Odr.downsTo m (k + 1) = q + 1 by rw [hq2.out, if_pos hcl])
      clear hmD hK hmarks hDn i2 i1 hxs
      gi_wp2_with fail
      refine ⟨⟨k + 1, D :: rs, _, _, _, _, _, _, _, _, by rw [HQ.out]; go_num, by omega, HM.out, HW.out⟩, ?_⟩
      simp [intOf]; omega
    case stop =>
      rintro D c pre W hD _ ⟨⟨rfl, x, hx1, hx2⟩, i2⟩ hK
      have hcl : Odr.dclose m k ≠ k := fun h => hx2 ((Odr.dclose_eq_iff m k).1 h x hx1)
      have hDn : D ∉ rs := fun h => by have := hrsB D h; have := HSB.out; omega
      have hmD : MarksOk w2.heap.size (D :: rs) W := (hmkb.calls i2).cons hK (by have := HSB.out; omega) hDn
      have hmarks : marks (D :: rs) = { target := .collected D, args := #[] } :: marks rs := rfl
      rw [← hmarks]
      have HM := Lib.hid hmD
      have HW := Lib.hid (hBb.trans (i2.mono (by have := HSB.out; omega)))
      have HQ := Lib.hid (show Odr.downsTo m (k + 1) = q by rw [hq2.out, if_neg hcl]; rfl)
      clear hmD hK hmarks hDn i2
      gi_wp2_with fail
      refine ⟨⟨k + 1, D :: rs, _, _, _, _, _, _, _, _, by rw [HQ.out]; go_num, by omega, HM.out, HW.out⟩, ?_⟩
      simp [intOf]; omega
  · obtain rfl : k = N := by omega
    clear hkn
    rw [← hq3.out]
    have HB := Lib.hid (HB2.out.trans (hb.mono hle2))
    have HM := Lib.hid hmk
    clear hmk hb hq1
    gi_wp2_with fail
    rw [Exit.noGoto_ret]
    refine leaves_marks _ _ HM.out fun w' hs => ?_
    exact ⟨_, results_tmp2 rfl _ _ _, rfl, (hs.mono hle2).below HB.out⟩

end Go.Proofs.YtpicjikjinkkpaaDoor
