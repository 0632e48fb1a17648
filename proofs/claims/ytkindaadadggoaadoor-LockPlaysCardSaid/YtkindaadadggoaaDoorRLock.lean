/- Contracts of the reference's put and Against. Conditions: each contract's own premises. -/
import Derived.Test.YtkindaadadggoaaDoorLPlayM
import Derived.Test.YtkindaadadggoaaDoorCore
import Derived.Test.YtkindaadadggoaaDoorRow12
import Derived.Test.YtkindaadadggoaaDoorMem
namespace Go.Proofs.YtkindaadadggoaaDoor
open Go.RowKit

set_option maxRecDepth 20000 in
theorem put_calls (l : List Int) (i : Nat) (n : Int) (v : Value) (B : Nat) (w : World) (hr : Ints w B v l) (hi : i < l.length) (hl : l.length ≤ 1000) :
    Calls Tryd.prog 71 #[v, nv i, .int .i64 n] w fun e w' => ∃ v', e = .returned v' ∧ Own w' w.heap.size v' (l.set i n) ∧ Below w.heap.size w w' := by
  have HR := Lib.hid hr
  clear hr
  go_enter Tryd.func71, Tryd.ntmps71
  go_wp2_with (at_builtin; refine append_ints rfl _ _ rfl w.heap.size _ [] rfl (Own.nil _ _) v l B rfl HR.out (by simp; omega) (Nat.le_refl _) ?_; intro v1 w1 hown hb1 hg1; clear hg1; rw [List.nil_append] at hown; obtain ⟨g, c1, rfl, gb, gs, _, gc, gf, gst⟩ := Own.shape hown (by omega); have hci := gc i hi; have hfi := gf i; have HST := Lib.hid (gst i n); clear hown gc gf gst)
  go_ret
  exact ⟨_, rfl, HST.out, hb1.setCell (p := ⟨g, i, none⟩) gb _⟩
set_option maxRecDepth 20000 in
set_option maxHeartbeats 2000000 in
theorem against_calls (l : Lk.L) (tx it own : Nat) (vh vw va : Value) (B : Nat) (w : World) (hB : B ≤ w.heap.size) (hr : Ints w B vh (zs (Lk.holds l))) (a2 : it < 4) (a3 : own < 2) :
    Calls Tryd.prog 70 #[.agg #[vh, vw, nv l.shr, va], nv tx, nv it, .bool (decide (own = 1))] w fun e w' => e = .returned (nv (Lk.against l tx it own 5)) ∧ Below w.heap.size w w' := by
  have HR := Lib.hid hr
  have hlen := Lk.length_holds l
  obtain ⟨A, cap, he⟩ := Rd.val hr
  rw [length_zs, hlen] at he
  subst he
  have hpw := Lib.hid fun (t : Nat) (h : t < 5) (w5 : World) => pow2_calls t w5 (by omega)
  clear hr
  obtain ⟨ob, hob⟩ : ∃ ob, ob = decide (own = 1) := ⟨_, rfl⟩
  rw [← hob]
  have HOB := Lib.hid hob
  clear hob
  go_enter Tryd.func70, Tryd.ntmps70
  have hbw := (Below.refl w.heap.size w).alloc (Nat.le_refl _) (.cells #[.slice A 20 cap, vw, nv l.shr, va] 62)
  have HBW := Lib.hid hbw
  have c0 : (w.alloc (.cells #[.slice A 20 cap, vw, nv l.shr, va] 62)).cell? ⟨w.heap.size, 0, none⟩ = some (.slice A 20 cap) := by rw [World.cell?_alloc_new]; rfl
  have HR1 := Lib.hid (Rd.below HR.out (hbw.mono hB))
  clear hbw HR
  go_wp2_with fail
  generalize w.alloc _ = W at *
  go_loopw [9, 10] (fun sv tv wr => ∃ t : Nat, t ≤ 5 ∧ sv = nv (Lk.against l tx it own t) ∧ tv = nv t ∧ wr = W) (fun _ tv _ => 5 - (intOf tv).toNat)
  case atStart => exact ⟨0, by omega, rfl, rfl, rfl⟩
  case round =>
    obtain ⟨t, ht, rfl, rfl, rfl⟩ := hrel
    by_cases ht5 : t < 5
    · obtain ⟨b1, off, c1, he, hbb, d0⟩ := Ints.atN HR1.out (k := t * 4 + it) (by omega)
      rw [hlen] at he
      cases he
      rw [Lk.getD_holds l ht5 a2] at d0
      have hs := Odr.mk_lt t (Lk.bars l tx it own)
      have hp2 : 2 ^ t ≤ 2 ^ 4 := Nat.pow_le_pow_right (by omega) (by omega)
      have hst : Odr.mk t (Lk.bars l tx it own) < 2 ^ 4 := Nat.lt_of_lt_of_le hs hp2
      have HSU := Lib.hid (show Lk.against l tx it own (t + 1) = if Lk.bars l tx it own t = true then 2 ^ t + Lk.against l tx it own t else Lk.against l tx it own t from rfl)
      have hst' : Lk.against l tx it own t < 2 ^ 4 := hst
      have hp := Lib.hid (hpw.out t ht5)
      have hbars := Lib.hid (show Lk.bars l tx it own t = (decide (t ≠ tx) && (decide (2 ≤ Lk.hold l t it) || (decide (own = 1) && decide (Lk.hold l t it = 1)))) from rfl)
      have hh4 := Lk.hold_lt l t it
      clear hs hst
      generalize Lk.hold l t it = h at *
      generalize Lk.bars l tx it own t = bb at *
      generalize Lk.against l tx it own t = S at *
      generalize 2 ^ t = p at *
      have hw : t = tx ∨ (t ≠ tx ∧ 2 ≤ h) ∨ (t ≠ tx ∧ ¬ 2 ≤ h ∧ own = 0) ∨ (t ≠ tx ∧ ¬ 2 ≤ h ∧ own = 1 ∧ h = 1) ∨ (t ≠ tx ∧ ¬ 2 ≤ h ∧ own = 1 ∧ h ≠ 1) := by omega
      rcases hw with g1 | ⟨g1, g2⟩ | ⟨g1, g2, g3⟩ | ⟨g1, g2, g3, g4⟩ | ⟨g1, g2, g3, g4⟩
      · have hS := Lib.hid (show Lk.against l tx it own (t + 1) = S by rw [HSU.out, hbars.out]; simp [g1])
        have t1 : ((t : Int) != (tx : Int)) = false := by simp; omega
        clear HSU hbars g1
        go_wp2_with fail
        go_roundw
        case rel => exact ⟨t + 1, by omega, by rw [hS.out], by go_num, by trivial⟩
        case measure => simp [intOf]; omega
      · have hS := Lib.hid (show Lk.against l tx it own (t + 1) = p + S by rw [HSU.out, hbars.out]; simp [g1, g2])
        have t1 : ((t : Int) != (tx : Int)) = true := by simp; omega
        have t2 : decide ((2 : Int) ≤ (h : Int)) = true := by simp; omega
        clear HSU hbars g1 g2
        go_wp2_with (go_at_call 66; (with_reducible refine (hp.out _).mono ?_); rintro e w' ⟨rfl, rfl⟩)
        go_roundw
        case rel => exact ⟨t + 1, by omega, by rw [hS.out]; go_num, by go_num, by trivial⟩
        case measure => simp [intOf]; omega
      · have hS := Lib.hid (show Lk.against l tx it own (t + 1) = S by rw [HSU.out, hbars.out]; simp [g1, g2, g3])
        have t1 : ((t : Int) != (tx : Int)) = true := by simp; omega
        have t2 : decide ((2 : Int) ≤ (h : Int)) = false := by simp; omega
        obtain rfl : ob = false := by rw [HOB.out]; simp; omega
        clear HSU hbars g1 g2
        go_wp2_with fail
        go_roundw
        case rel => exact ⟨t + 1, by omega, by rw [hS.out], by go_num, by trivial⟩
        case measure => simp [intOf]; omega
      · have hS := Lib.hid (show Lk.against l tx it own (t + 1) = p + S by rw [HSU.out, hbars.out]; simp [g1, g3, g4])
        have t1 : ((t : Int) != (tx : Int)) = true := by simp; omega
        have t2 : decide ((2 : Int) ≤ (h : Int)) = false := by simp; omega
        obtain rfl : ob = true := by rw [HOB.out]; simp; omega
        have t4 : ((h : Int) == 1) = true := by simp; omega
        clear HSU hbars g1 g2
        go_wp2_with (go_at_call 66; (with_reducible refine (hp.out _).mono ?_); rintro e w' ⟨rfl, rfl⟩)
        go_roundw
        case rel => exact ⟨t + 1, by omega, by rw [hS.out]; go_num, by go_num, by trivial⟩
        case measure => simp [intOf]; omega
      · have hS := Lib.hid (show Lk.against l tx it own (t + 1) = S by rw [HSU.out, hbars.out]; simp [g1, g2, g3, g4])
        have t1 : ((t : Int) != (tx : Int)) = true := by simp; omega
        have t2 : decide ((2 : Int) ≤ (h : Int)) = false := by simp; omega
        obtain rfl : ob = true := by rw [HOB.out]; simp; omega
        have t4 : ((h : Int) == 1) = false := by simp; omega
        clear HSU hbars g1 g2
        go_wp2_with fail
        go_roundw
        case rel => exact ⟨t + 1, by omega, by rw [hS.out], by go_num, by trivial⟩
        case measure => simp [intOf]; omega
    · obtain rfl : t = 5 := by omega
      go_wp2_with fail
      go_ret
      exact ⟨rfl, HBW.out⟩
end Go.Proofs.YtkindaadadggoaaDoor
