/- Contracts of package order: Behind, Less, With. Conditions: each contract's own premises. -/
import Derived.Test.YtpicjikjinkkpaaDoorOrder
namespace Go.Proofs.YtpicjikjinkkpaaDoor
open Go.RowKit

theorem behind_err (l : List Int) (v : Value) (w : World) (hr : Ints w w.heap.size v l) (hne : orderCode l ≠ 0) :
    Calls Tryd.prog 20 #[v] w fun e w' => e = .returned (.tuple #[.slice none 0 0, .iface 56 (nv (orderCode l))]) ∧ Below w.heap.size w w' := by
  have hchk := Lib.hid (check_err l v w hr hne)
  clear hne hr
  go_enter Tryd.func20, Tryd.ntmps20
  go_wp2_with fail
  refine hchk.out.mono ?_
  rintro e w1 ⟨rfl, hb1⟩
  clear hchk
  go_wp2_with fail
  go_ret2
  exact ⟨rfl, hb1⟩
theorem behind_ok (m : List Nat) (v : Value) (w : World) (hr : Ints w w.heap.size v (zs m)) (hv : Odr.Valid m) :
    Calls Tryd.prog 20 #[v] w fun e w' => ∃ v', e = .returned (.tuple #[v', .nilIface]) ∧ Own w' w.heap.size v' (zs (Odr.closed m)) ∧ Below w.heap.size w w' := by
  have hchk := Lib.hid (check_valid m v w hr hv)
  go_enter Tryd.func20, Tryd.ntmps20
  go_wp2_with fail
  refine hchk.out.mono ?_
  rintro e w1 ⟨rfl, hb1⟩
  have hcl := Lib.hid (closed_calls m v w1.heap.size w1 ((Rd.below hr hb1).more hb1.size) hv.few hv.fits)
  clear hchk hr hv
  go_wp2_with fail
  refine hcl.out.mono ?_
  rintro e w2 ⟨v2, rfl, hown, hb2⟩
  clear hcl
  go_wp2_with fail
  go_ret2
  exact ⟨v2, rfl, hown.lower hb1.size, hb1.trans (hb2.mono hb1.size)⟩
theorem less_err (l : List Int) (v : Value) (a b : Int) (w : World) (hr : Ints w w.heap.size v l) (hne : orderCode l ≠ 0) :
    Calls Tryd.prog 23 #[v, .int .i64 a, .int .i64 b] w fun e w' => e = .returned (.tuple #[.bool false, .iface 56 (nv (orderCode l))]) ∧ Below w.heap.size w w' := by
  have hchk := Lib.hid (check_err l v w hr hne)
  clear hne hr
  go_enter Tryd.func23, Tryd.ntmps23
  go_wp2_with fail
  refine hchk.out.mono ?_
  rintro e w1 ⟨rfl, hb1⟩
  clear hchk
  go_wp2_with fail
  go_ret2
  exact ⟨rfl, hb1⟩
theorem less_range (m : List Nat) (v : Value) (a b : Int) (w : World) (hr : Ints w w.heap.size v (zs m)) (hv : Odr.Valid m) (hab : ¬ ((0 ≤ a ∧ a < m.length) ∧ (0 ≤ b ∧ b < m.length))) :
    Calls Tryd.prog 23 #[v, .int .i64 a, .int .i64 b] w fun e w' => e = .returned (.tuple #[.bool false, .iface 56 (.int .i64 1)]) ∧ Below w.heap.size w w' := by
  have hchk := Lib.hid (check_valid m v w hr hv)
  have hlen := hv.few
  obtain ⟨A, cap, rfl⟩ := Rd.val hr
  simp only [length_zs] at *
  clear hr hv
  by_cases ha : 0 ≤ a ∧ a < m.length
  · have hb : ¬ (0 ≤ b ∧ b ≤ (m.length : Int) - 1) := fun h => hab ⟨ha, by omega⟩
    have HB := Lib.hid hb
    obtain ⟨ha1, ha2⟩ := ha
    clear hb hab
    go_enter Tryd.func23, Tryd.ntmps23
    go_wp2_with fail
    refine hchk.out.mono ?_
    rintro e w1 ⟨rfl, hb1⟩
    clear hchk
    go_wp2_with fail
    refine (within_yes _ _ _ _ (by omega) (by omega)).mono ?_
    rintro e w2 ⟨rfl, rfl⟩
    go_wp2_with fail
    refine (within_no _ _ _ _ HB.out).mono ?_
    rintro e w2 ⟨rfl, rfl⟩
    go_wp2_with fail
    go_ret2
    exact ⟨rfl, hb1⟩
  · have HA := Lib.hid (show ¬ (0 ≤ a ∧ a ≤ (m.length : Int) - 1) from fun h => ha (by omega))
    clear ha hab
    go_enter Tryd.func23, Tryd.ntmps23
    go_wp2_with fail
    refine hchk.out.mono ?_
    rintro e w1 ⟨rfl, hb1⟩
    clear hchk
    go_wp2_with fail
    refine (within_no _ _ _ _ HA.out).mono ?_
    rintro e w2 ⟨rfl, rfl⟩
    go_wp2_with fail
    go_ret2
    exact ⟨rfl, hb1⟩
theorem less_ok (m : List Nat) (v : Value) (a b : Nat) (w : World) (hr : Ints w w.heap.size v (zs m)) (hv : Odr.Valid m) (ha : a < m.length) (hb : b < m.length) :
    Calls Tryd.prog 23 #[v, nv a, nv b] w fun e w' => e = .returned (.tuple #[.bool (Odr.rel (Odr.closed m) a b), .nilIface]) ∧ Below w.heap.size w w' := by
  have hchk := Lib.hid (check_valid m v w hr hv)
  have hcl := Lib.hid (fun w1 h => closed_calls m v w.heap.size w1 h hv.few hv.fits)
  have HC := Lib.hid (hv.fits.closed.getD a)
  have HL := Lib.hid (Odr.length_closed m)
  have hlen := hv.few
  obtain ⟨A, cap, rfl⟩ := Rd.val hr
  simp only [length_zs] at *
  clear hv
  go_enter Tryd.func23, Tryd.ntmps23
  go_wp2_with fail
  refine hchk.out.mono ?_
  rintro e w1 ⟨rfl, hb1⟩
  clear hchk
  go_wp2_with (go_at_call 62; refine (within_yes _ _ _ _ (by omega) (by omega)).mono ?_; rintro e w' ⟨rfl, rfl⟩)
  refine (hcl.out w1 (Rd.below hr hb1)).mono ?_
  rintro e w2 ⟨v2, rfl, hown, hb2⟩
  clear hcl hr
  obtain ⟨b0, off, cap', rfl, _, hc⟩ := Ints.atN hown.ints (k := a) (by rw [HL.out]; exact ha)
  rw [HL.out]
  have hrel := Lib.hid (show Odr.rel (Odr.closed m) a b = ((Odr.closed m).getD a 0).testBit b from rfl)
  have hx12 : (Odr.closed m).getD a 0 < 4096 := fits12 (l := Odr.closed m) (by rw [HL.out]; exact hlen) HC.out
  have hb3 := hb1.trans (hb2.mono hb1.size)
  generalize (Odr.closed m).getD a 0 = x at *
  clear hown hb1 hb2 HC HL
  go_wp2_with (go_at_call 63; refine (has12 _ _ _ hx12 (by omega)).mono ?_; rintro e w' ⟨rfl, rfl⟩)
  go_ret2
  exact ⟨by rw [hrel.out]; rfl, hb3⟩
theorem with_err (l : List Int) (v : Value) (a b : Int) (w : World) (hr : Ints w w.heap.size v l) (hne : orderCode l ≠ 0) :
    Calls Tryd.prog 32 #[v, .int .i64 a, .int .i64 b] w fun e w' => e = .returned (.tuple #[.slice none 0 0, .iface 56 (nv (orderCode l))]) ∧ Below w.heap.size w w' := by
  have hchk := Lib.hid (check_err l v w hr hne)
  clear hne hr
  go_enter Tryd.func32, Tryd.ntmps32
  go_wp2_with fail
  refine hchk.out.mono ?_
  rintro e w1 ⟨rfl, hb1⟩
  clear hchk
  go_wp2_with fail
  go_ret2
  exact ⟨rfl, hb1⟩
theorem with_range (m : List Nat) (v : Value) (a b : Int) (w : World) (hr : Ints w w.heap.size v (zs m)) (hv : Odr.Valid m) (hab : ¬ ((0 ≤ a ∧ a < m.length) ∧ (0 ≤ b ∧ b < m.length))) :
    Calls Tryd.prog 32 #[v, .int .i64 a, .int .i64 b] w fun e w' => e = .returned (.tuple #[.slice none 0 0, .iface 56 (.int .i64 1)]) ∧ Below w.heap.size w w' := by
  have hchk := Lib.hid (check_valid m v w hr hv)
  have hlen := hv.few
  obtain ⟨A, cap, rfl⟩ := Rd.val hr
  simp only [length_zs] at *
  clear hr hv
  by_cases ha : 0 ≤ a ∧ a < m.length
  · have hb : ¬ (0 ≤ b ∧ b ≤ (m.length : Int) - 1) := fun h => hab ⟨ha, by omega⟩
    have HB := Lib.hid hb
    obtain ⟨ha1, ha2⟩ := ha
    clear hb hab
    go_enter Tryd.func32, Tryd.ntmps32
    go_wp2_with fail
    refine hchk.out.mono ?_
    rintro e w1 ⟨rfl, hb1⟩
    clear hchk
    go_wp2_with fail
    refine (within_yes _ _ _ _ (by omega) (by omega)).mono ?_
    rintro e w2 ⟨rfl, rfl⟩
    go_wp2_with fail
    refine (within_no _ _ _ _ HB.out).mono ?_
    rintro e w2 ⟨rfl, rfl⟩
    go_wp2_with fail
    go_ret2
    exact ⟨rfl, hb1⟩
  · have HA := Lib.hid (show ¬ (0 ≤ a ∧ a ≤ (m.length : Int) - 1) from fun h => ha (by omega))
    clear ha hab
    go_enter Tryd.func32, Tryd.ntmps32
    go_wp2_with fail
    refine hchk.out.mono ?_
    rintro e w1 ⟨rfl, hb1⟩
    clear hchk
    go_wp2_with fail
    refine (within_no _ _ _ _ HA.out).mono ?_
    rintro e w2 ⟨rfl, rfl⟩
    go_wp2_with fail
    go_ret2
    exact ⟨rfl, hb1⟩

set_option maxHeartbeats 1000000 in
/-- a step more: an order, or none -/
theorem with_ok (m : List Nat) (v : Value) (a b : Nat) (w : World) (hr : Ints w w.heap.size v (zs m)) (hv : Odr.Valid m) (ha : a < m.length) (hb : b < m.length) :
    Calls Tryd.prog 32 #[v, nv a, nv b] w fun e w' => Below w.heap.size w w' ∧
      ((irrOk (Odr.more m a b) ∧ ∃ v', e = .returned (.tuple #[v', .nilIface]) ∧ Own w' w.heap.size v' (zs (Odr.closed (Odr.more m a b)))) ∨
        (¬ irrOk (Odr.more m a b) ∧ e = .returned (.tuple #[.slice none 0 0, .iface 56 (.int .i64 6)]))) := by
  have hchk := Lib.hid (check_valid m v w hr hv)
  have hlen := hv.few
  have hfm := hv.fits.more (a := a) hb
  have HFM := Lib.hid hfm
  have hx12 : m.getD a 0 < 4096 := fits12 hlen (hv.fits.getD a)
  have HV := Lib.hid (Rd.val hr)
  clear hv hfm
  obtain ⟨A, cap, rfl⟩ := HV.out
  simp only [length_zs] at *
  go_enter Tryd.func32, Tryd.ntmps32
  go_wp2_with fail
  refine hchk.out.mono ?_
  rintro e w1 ⟨rfl, hb1⟩
  clear hchk HV
  have hbs := hb1.size
  go_wp2_with (first | (go_at_call 62; refine (within_yes _ _ _ _ (by omega) (by omega)).mono ?_; rintro e w' ⟨rfl, rfl⟩) | (at_builtin; refine append_ints rfl _ _ rfl w.heap.size _ [] rfl (Own.nil _ _) (.slice A m.length cap) (zs m) w.heap.size rfl (Rd.below hr hb1) (by simp; omega) hbs ?_; intro v1 w2 hown hb2 hg1; clear hg1; simp only [List.nil_append] at hown; obtain ⟨g, cap1, rfl, gb, gs, _, gc, gf, gst⟩ := Own.shape hown (by rw [length_zs]; omega); simp only [length_zs] at gc ⊢; have ga := gc a ha; rw [zs_getElem] at ga; have gfa := gf a; have GST := Lib.hid gst; clear gc gf gst hown; generalize hxe : m.getD a 0 = x at *; have HXE := Lib.hid hxe; clear hxe))
  go_region
  have hO := GST.out a ((x ||| 2 ^ b : Nat) : Int)
  rw [zs_set] at hO
  have he : m.set a (x ||| 2 ^ b) = Odr.more m a b := by unfold Odr.more; rw [HXE.out]
  rw [he] at hO
  rw [bits_or_shl x b (by omega) (by omega)]
  have hbW := ((hb1.trans hb2).setCell (p := ⟨g, a, none⟩) gb (.int .i64 ((x ||| 2 ^ b : Nat) : Int))).drew
  have hml := Odr.length_more m a b
  clear GST ga gfa HXE he hr hb1 hb2 gs
  obtain ⟨W, hW⟩ : ∃ W, W = (w2.setCell ⟨g, a, none⟩ (.int .i64 ((x ||| 2 ^ b : Nat) : Int))).drew := ⟨_, rfl⟩
  have hO' : Own W w.heap.size (.slice (some ⟨g, 0, none⟩) m.length cap1) (zs (Odr.more m a b)) := by rw [hW]; simpa [Odr.length_more] using hO.drew
  rw [← hW] at hbW ⊢
  clear hW hO
  have hch := Lib.hid (check_fits (Odr.more m a b) _ W hO'.ints (by rw [hml]; exact hlen) HFM.out)
  go_wp2_with fail
  refine hch.out.mono ?_
  rintro e w4 ⟨h1, h2, hb4⟩
  clear hch
  by_cases hir : irrOk (Odr.more m a b)
  · obtain rfl := h1 hir
    have HIR := Lib.hid hir
    have hcl := Lib.hid (closed_calls (Odr.more m a b) _ w4.heap.size w4 ((Rd.below hO'.ints hb4).more hb4.size) (by rw [hml]; exact hlen) HFM.out)
    have hb5 := hbW.trans (hb4.mono hbW.size)
    clear h1 h2 hir hml hO' hbW hb4
    go_wp2_with fail
    refine hcl.out.mono ?_
    rintro e w5 ⟨v5, rfl, hown5, hb6⟩
    have hb7 := hb5.trans (hb6.mono hb5.size)
    have ho7 := hown5.lower hb5.size
    clear hcl hown5 hb6 hb5
    go_wp2_with fail
    go_ret2
    exact ⟨hb7, .inl ⟨HIR.out, v5, rfl, ho7⟩⟩
  · obtain rfl := h2 hir
    have HIR := Lib.hid hir
    have hb5 := hbW.trans (hb4.mono hbW.size)
    clear h1 h2 hir hml hO' hbW hb4
    go_wp2_with fail
    go_ret2
    exact ⟨hb5, .inr ⟨HIR.out, rfl⟩⟩
end Go.Proofs.YtpicjikjinkkpaaDoor
