/- DownLast at every input: a closed set is its last things. Conditions: the row's own. -/
import Derived.Test.YtpicjikjinkkpaaDoorLattice
import Derived.Test.YtpicjikjinkkpaaDoorLastM
namespace Go.Proofs.YtpicjikjinkkpaaDoor
open Go.RowKit

theorem last_law_err (v : Value) (s : Int) (c : Value) (w : World) (hT : Tab w)
    (hcs : ∀ w1, Below w.heap.size w w1 → Calls Tryd.prog 25 #[v, .int .i64 s] w1 fun e w' => e = .returned (.tuple #[.int .i64 0, .iface 56 c]) ∧ Below w1.heap.size w1 w')
    (hct : ∀ w1, Below w.heap.size w w1 → Calls Tryd.prog 33 #[v, .int .i64 0] w1 fun e w' => ∃ x y, e = .returned (.tuple #[.int .i64 x, y]) ∧ Below w1.heap.size w1 w') :
    Calls Tryd.prog 7 #[v, .int .i64 s] w fun e w' => e = .returned (.bool true) ∧ Below w.heap.size w w' := by
  go_enter Tryd.func7, Tryd.ntmps7
  go_wp2_with fail
  refine (downFact_calls w hT).mono ?_
  rintro e w1 ⟨rfl, hb1⟩
  go_wp2_with fail
  refine (hcs w1 hb1).mono ?_
  rintro e w2 ⟨rfl, hb2⟩
  have hb12 := hb1.trans (hb2.mono hb1.size)
  clear hcs
  go_wp2_with fail
  refine (hct w2 hb12).mono ?_
  rintro e w3 ⟨x, y, rfl, hb3⟩
  clear hct
  go_wp2_with fail
  go_ret
  exact ⟨rfl, hb12.trans (hb3.mono hb12.size)⟩

set_option maxHeartbeats 2000000 in
theorem last_law_ok (m : List Nat) (v : Value) (s : Nat) (w : World) (hr : Ints w w.heap.size v (zs m)) (hv : Odr.Valid m) (hT : Tab w) (hs : s < 2 ^ m.length) :
    Calls Tryd.prog 7 #[v, nv s] w fun e w' => e = .returned (.bool true) ∧ Below w.heap.size w w' := by
  have h2n : 2 ^ m.length ≤ 4096 := show 2 ^ m.length ≤ 2 ^ 12 from Nat.pow_le_pow_right (by omega) hv.few
  have hfew := hv.few
  have ha := Odr.dclose_lt m hs
  have hda := Odr.dis_dclose hv hs
  obtain ⟨A, cap, rfl⟩ := Rd.val hr
  have hlz : (zs m).length = m.length := by simp
  rw [hlz] at hr ⊢
  have c1 := Lib.hid fun (w1 : World) (hb : Below w.heap.size w w1) => close_ok m (.slice A m.length cap) s w1 ((Rd.below hr hb).more hb.size) hv (hT.below hb) hs
  generalize Odr.dclose m s = a at *
  have hl := Odr.dlast_lt m ha
  have c2 := Lib.hid fun (w1 : World) (hb : Below w.heap.size w w1) => last_ok m (.slice A m.length cap) a w1 ((Rd.below hr hb).more hb.size) hv (hT.below hb) ha
  have c3 := Lib.hid fun (w1 : World) (hb : Below w.heap.size w w1) => close_ok m (.slice A m.length cap) (Odr.dlast m a) w1 ((Rd.below hr hb).more hb.size) hv (hT.below hb) hl
  rw [Odr.dclose_dlast hv ha hda] at c3
  have hz := Odr.dlast_zero hv ha hda
  have c4 := Lib.hid fun (i : Nat) (hi : (Odr.dlast m a).testBit i = true) (w1 : World) (hb : Below w.heap.size w w1) => is_ok m (.slice A m.length cap) (a - 2 ^ i) w1 ((Rd.below hr hb).more hb.size) hv (hT.below hb) (Nat.lt_of_le_of_lt (Nat.sub_le _ _) ha)
  have c5 := Lib.hid fun (i : Nat) (w1 : World) (hb : Below w.heap.size w w1) => close_ok m (.slice A m.length cap) (Odr.dlast m a - 2 ^ i) w1 ((Rd.below hr hb).more hb.size) hv (hT.below hb) (Nat.lt_of_le_of_lt (Nat.sub_le _ _) hl)
  have f4 := Lib.hid fun (i : Nat) (hi : (Odr.dlast m a).testBit i = true) => Odr.dis_less hv ha hda hi
  have f5 := Lib.hid fun (i : Nat) (hi : (Odr.dlast m a).testBit i = true) => Odr.dclose_less hv ha hi
  have f6 := Lib.hid fun (i : Nat) (hi : (Odr.dlast m a).testBit i = true) => (Nat.ge_two_pow_of_testBit hi)
  have f7 := Lib.hid fun (i : Nat) (hi : (Odr.dlast m a).testBit i = true) => (Nat.ge_two_pow_of_testBit ((Odr.dlast_bit hv ha i).1 hi).1)
  generalize Odr.dlast m a = l at *
  have hl12 : l < 4096 := by omega
  have ha12 : a < 4096 := by omega
  have hzz : (((l : Int) == 0) = true ∧ ((a : Int) == 0) = true) ∨ (((l : Int) == 0) = false ∧ ((a : Int) == 0) = false) := by
    by_cases h : l = 0
    · exact .inl ⟨by simp [h], by simp [hz.1 h]⟩
    · refine .inr ⟨by simp [h], ?_⟩
      have : a ≠ 0 := fun e => h (hz.2 e)
      simp [this]
  clear hda hz hl ha hr hv hs h2n
  go_enter Tryd.func7, Tryd.ntmps7
  go_wp2_with fail
  refine (downFact_calls w hT).mono ?_
  rintro e w1 ⟨rfl, hb1⟩
  clear hT
  go_wp2_with fail
  refine (c1.out w1 hb1).mono ?_
  rintro e w2 ⟨rfl, hb2⟩
  have hb12 := hb1.trans (hb2.mono hb1.size)
  clear c1 hb1 hb2
  go_wp2_with fail
  refine (c2.out w2 hb12).mono ?_
  rintro e w3 ⟨rfl, hb3⟩
  have hb13 := hb12.trans (hb3.mono hb12.size)
  clear c2 hb12 hb3
  go_wp2_with fail
  refine (c3.out w3 hb13).mono ?_
  rintro e w4 ⟨rfl, hb4⟩
  have hb14 := hb13.trans (hb4.mono hb13.size)
  clear c3 hb13 hb4
  have hg : (((l : Int) == 0) == ((a : Int) == 0)) = true := by
    rcases hzz with ⟨h1, h2⟩ | ⟨h1, h2⟩ <;> rw [h1, h2] <;> rfl
  clear hzz
  go_wp2_with fail
  go_loopw [12] (fun i wr => ∃ k : Nat, k ≤ m.length ∧ i = nv k ∧ Below w.heap.size w wr) (fun i _ => m.length - (intOf i).toNat)
  case atStart => exact ⟨0, Nat.zero_le _, rfl, hb14⟩
  case round =>
    clear hg hb14
    obtain ⟨k, hk, rfl, hb⟩ := hrel
    by_cases hkm : k < m.length
    · cases hbit : l.testBit k with
      | false =>
        have hB := Lib.hid (bit12 l k wr hl12 (by omega))
        rw [hbit] at hB
        clear hbit
        go_wp2_with fail
        refine hB.out.mono ?_
        rintro e wr' ⟨rfl, rfl⟩
        clear hB
        go_wp2_with fail
        go_roundw
        case rel => exact ⟨k + 1, by omega, by go_num, hb⟩
        case measure => simp [intOf]; omega
      | true =>
        have hB := Lib.hid (bit12 l k wr hl12 (by omega))
        rw [hbit] at hB
        have hP := Lib.hid fun w1 : World => pow2_calls k w1 (by omega)
        have h4 := Lib.hid (c4.out k hbit)
        have h5 := Lib.hid (c5.out k)
        have g4 : decide (Odr.dclose m (a - 2 ^ k) = a - 2 ^ k) = true := decide_eq_true (f4.out k hbit)
        have g5 := f5.out k hbit
        have g6 := f6.out k hbit
        have g7 := f7.out k hbit
        rw [g4] at h4
        clear g4 hbit
        generalize 2 ^ k = p at *
        have e1 : ((a - p : Nat) : Int) = (a : Int) - (p : Int) := by omega
        have e2 : ((l - p : Nat) : Int) = (l : Int) - (p : Int) := by omega
        have g8 : (((Odr.dclose m (l - p) : Nat) : Int) == (a : Int)) = false := by simp; omega
        generalize Odr.dclose m (l - p) = q at *
        simp only [nv, e1] at h4
        simp only [nv, e2] at h5
        clear e1 e2 g5
        go_wp2_with fail
        refine hB.out.mono ?_
        rintro e wr' ⟨rfl, rfl⟩
        clear hB
        go_wp2_with fail
        refine (hP.out wr).mono ?_
        rintro e wr' ⟨rfl, rfl⟩
        go_wp2_with fail
        refine (h4.out wr hb).mono ?_
        rintro e w5 ⟨rfl, hb5⟩
        have hb5' := hb.trans (hb5.mono hb.size)
        clear h4 hb hb5
        go_wp2_with fail
        refine (hP.out w5).mono ?_
        rintro e w5' ⟨rfl, rfl⟩
        clear hP
        go_wp2_with fail
        refine (h5.out w5 hb5').mono ?_
        rintro e w6 ⟨rfl, hb6⟩
        have hb6' := hb5'.trans (hb6.mono hb5'.size)
        clear h5 hb6 hb5'
        go_wp2_with fail
        go_roundw
        case rel => exact ⟨k + 1, by omega, by go_num, hb6'⟩
        case measure => simp [intOf]; omega
    · obtain rfl : k = m.length := by omega
      clear hkm
      go_wp2_with fail
      go_ret
      exact ⟨rfl, hb⟩

/-- the law at every input -/
theorem last_law_calls (l : List Int) (v : Value) (s : Int) (w : World) (hr : Ints w w.heap.size v l) (hT : Tab w) :
    Calls Tryd.prog 7 #[v, .int .i64 s] w fun e w' => e = .returned (.bool true) ∧ Below w.heap.size w w' := by
  by_cases h : orderCode l = 0
  · obtain ⟨m, rfl, hv⟩ := orderCode_zero h
    by_cases hs : 0 ≤ s ∧ s < 2 ^ m.length
    · obtain ⟨s, rfl, hs2⟩ := natOf hs
      exact last_law_ok m v s w hr hv hT hs2
    · refine last_law_err v s _ w hT (fun w1 hb => close_mask m v s w1 ((Rd.below hr hb).more hb.size) hv (hT.below hb) hs) (fun w1 hb => ?_)
      exact (last_ok m v 0 w1 ((Rd.below hr hb).more hb.size) hv (hT.below hb) (Nat.two_pow_pos _)).mono fun e w' ⟨h1, h2⟩ => ⟨_, _, h1, h2⟩
  · exact last_law_err v s _ w hT (fun w1 hb => close_err l v s w1 ((Rd.below hr hb).more hb.size) h) (fun w1 hb => (last_err l v 0 w1 ((Rd.below hr hb).more hb.size) h).mono fun e w' ⟨h1, h2⟩ => ⟨_, _, h1, h2⟩)

end Go.Proofs.YtpicjikjinkkpaaDoor
