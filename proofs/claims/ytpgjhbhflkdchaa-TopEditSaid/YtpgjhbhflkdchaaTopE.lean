/- TopEdit at every input: three who edit. Conditions: the row's own. -/
import Derived.Test.YtpgjhbhflkdchaaEditG
namespace Go.Proofs.Ytpgjhbhflkdchaa
open Go.RowKit

set_option maxRecDepth 20000 in
set_option maxHeartbeats 4000000 in
theorem tope_calls (s : ByteArray) (a0 a1 a2 b0 b1 b2 c0 c1 c2 : Int) (w : World) (hlen : s.size ≤ maxLen) :
    Calls Try.prog 3 #[.string s, ev a0 a1 a2, ev b0 b1 b2, ev c0 c1 c2] w fun e w' => e = .returned (.bool true) ∧ Below w.heap.size w w' := by
  have hap := fun w => Lib.hid (apply_ok ⟨#[97, 98]⟩ 1 120 0 w (by unfold edOk; omega) (by omega) (by decide) (by decide))
  have hres : Edm.ins ⟨#[97, 98]⟩ (1 : Int).toNat (UInt8.ofNat (120 : Int).toNat) = ⟨#[97, 120, 98]⟩ := by decide
  rw [hres] at hap
  clear hres
  unfold maxLen at hlen
  go_enter Try.func3, Try.ntmps3
  go_wp2_with fail
  obtain ⟨wa, hwa, sa, ba, ka⟩ := box3 w a0 a1 a2
  obtain ⟨wb, hwb, sb, bb, kb⟩ := box3 wa b0 b1 b2
  obtain ⟨wc, hwc, sc, bc, kc⟩ := box3 wb c0 c1 c2
  rw [hwa, hwb, hwc]
  obtain ⟨B, hB⟩ : ∃ B, B = w.heap.size := ⟨_, rfl⟩
  rw [← hB] at sa ka ⊢
  rw [sa] at sb kb
  rw [sb] at sc kc
  refine (hap _).out.mono ?_
  rintro e w1 ⟨rfl, hb1⟩
  have bab := bb.trans (bc.mono (by omega))
  have bw : Below B w wc := by rw [hB]; exact ba.trans (bab.mono (by omega))
  have ka' : At3 wc B a0 a1 a2 := At3.below ⟨⟨ka.1, ka.2.1, ka.2.2.1⟩, ka.2.2.2⟩ bab (by omega)
  have kb' : At3 wc (B + 1) b0 b1 b2 := At3.below ⟨⟨kb.1, kb.2.1, kb.2.2.1⟩, kb.2.2.2⟩ bc (by omega)
  have kc' : At3 wc (B + 1 + 1) c0 c1 c2 := ⟨⟨kc.1, kc.2.1, kc.2.2.1⟩, kc.2.2.2⟩
  have ka1 := Lib.hid (ka'.below hb1 (by omega))
  have kb1 := Lib.hid (kb'.below hb1 (by omega))
  have kc1 := Lib.hid (kc'.below hb1 (by omega))
  have bw1 : Below B w w1 := bw.trans (hb1.mono (by omega))
  have hs1 : B + 3 ≤ w1.heap.size := by have := hb1.size; omega
  have HB := Lib.hid hB
  have HS1 := Lib.hid hs1
  have BW1 := Lib.hid bw1
  obtain ⟨⟨x1, x2, _⟩, _⟩ := ka1.out
  obtain ⟨⟨y1, y2, _⟩, _⟩ := kb1.out
  obtain ⟨⟨z1, z2, _⟩, _⟩ := kc1.out
  clear hap hwa hwb hwc sa sb sc ba bb bc ka kb kc ka' kb' kc' bab bw bw1 hs1 hB hb1
  by_cases q1 : a1 < 0
  · go_wp2_with fail
    go_ret
    exact ⟨rfl, by rw [← HB.out]; exact BW1.out⟩
  by_cases q2 : b1 < 0
  · go_wp2_with fail
    go_ret
    exact ⟨rfl, by rw [← HB.out]; exact BW1.out⟩
  by_cases q3 : c1 < 0
  · go_wp2_with fail
    go_ret
    exact ⟨rfl, by rw [← HB.out]; exact BW1.out⟩
  by_cases q4 : a0 = b0
  · have e4 : (a0 == b0) = true := by simpa using q4
    clear q4
    go_wp2_with fail
    go_ret
    exact ⟨rfl, by rw [← HB.out]; exact BW1.out⟩
  have e4 : (a0 == b0) = false := by simpa using q4
  by_cases q5 : a0 = c0
  · have e5 : (a0 == c0) = true := by simpa using q5
    clear q5
    go_wp2_with fail
    go_ret
    exact ⟨rfl, by rw [← HB.out]; exact BW1.out⟩
  have e5 : (a0 == c0) = false := by simpa using q5
  by_cases q6 : b0 = c0
  · have e6 : (b0 == c0) = true := by simpa using q6
    clear q6
    go_wp2_with fail
    go_ret
    exact ⟨rfl, by rw [← HB.out]; exact BW1.out⟩
  have e6 : (b0 == c0) = false := by simpa using q6
  by_cases q7 : 50 < s.size
  · go_wp2_with fail
    go_ret
    exact ⟨rfl, by rw [← HB.out]; exact BW1.out⟩
  have Q4 := Lib.hid q4
  have Q5 := Lib.hid q5
  have Q6 := Lib.hid q6
  have G := Lib.hid (good_turned s a0 a1 a2 b0 b1 b2 c0 c1 c2)
  have R := Lib.hid (res_turned s a0 a1 a2 b0 b1 b2 c0 c1 c2 q4 q5 q6)
  have T1 := fun w => Lib.hid (three_calls s a0 a1 a2 b0 b1 b2 c0 c1 c2 w (by omega) (by omega) (by omega) (by omega) q4 q5 q6)
  have T2 := fun w => Lib.hid (three_calls s c0 c1 c2 b0 b1 b2 a0 a1 a2 w (by omega) (by omega) (by omega) (by omega) (Ne.symm q6) (Ne.symm q5) (Ne.symm q4))
  have T3 := fun w => Lib.hid (three_calls s b0 b1 b2 c0 c1 c2 a0 a1 a2 w (by omega) (by omega) (by omega) (by omega) q6 (Ne.symm q4) (Ne.symm q5))
  have hs50 : s.size ≤ 50 := by omega
  clear q4 q5 q6
  obtain ⟨⟨_, _, x3⟩, _⟩ := ka1.out
  obtain ⟨⟨_, _, y3⟩, _⟩ := kb1.out
  obtain ⟨⟨_, _, z3⟩, _⟩ := kc1.out
  go_wp2_with fail
  refine (T1 _).out.mono ?_
  rintro e w2 ⟨hp1, hb2⟩
  obtain rfl := hp1.is hs50
  clear x1 x2 x3 y1 y2 y3 z1 z2 z3
  have hs1 := HS1.out
  have ka2 := Lib.hid (ka1.out.below hb2 (by omega))
  have kb2 := Lib.hid (kb1.out.below hb2 (by omega))
  have kc2 := Lib.hid (kc1.out.below hb2 (by omega))
  have BW2 := Lib.hid (BW1.out.trans (hb2.mono (by omega)))
  have HS2 := Lib.hid (show B + 3 ≤ w2.heap.size by have := hb2.size; omega)
  clear hs1 hb2 hp1
  obtain ⟨⟨x1, x2, x3⟩, _⟩ := ka2.out
  obtain ⟨⟨y1, y2, y3⟩, _⟩ := kb2.out
  obtain ⟨⟨z1, z2, z3⟩, _⟩ := kc2.out
  go_wp2_with fail
  refine (T2 _).out.mono ?_
  rintro e w3 ⟨hp1, hb2⟩
  obtain rfl := hp1.is hs50
  clear x1 x2 x3 y1 y2 y3 z1 z2 z3
  have hs1 := HS2.out
  have ka3 := Lib.hid (ka2.out.below hb2 (by omega))
  have kb3 := Lib.hid (kb2.out.below hb2 (by omega))
  have kc3 := Lib.hid (kc2.out.below hb2 (by omega))
  have BW3 := Lib.hid (BW2.out.trans (hb2.mono (by omega)))
  have HS3 := Lib.hid (show B + 3 ≤ w3.heap.size by have := hb2.size; omega)
  clear hs1 hb2 hp1
  obtain ⟨⟨x1, x2, x3⟩, _⟩ := ka3.out
  obtain ⟨⟨y1, y2, y3⟩, _⟩ := kb3.out
  obtain ⟨⟨z1, z2, z3⟩, _⟩ := kc3.out
  go_wp2_with fail
  refine (T3 _).out.mono ?_
  rintro e w4 ⟨hp1, hb2⟩
  obtain rfl := hp1.is hs50
  clear x1 x2 x3 y1 y2 y3 z1 z2 z3
  have BW4 := Lib.hid (BW3.out.trans (hb2.mono (by have := HS3.out; omega)))
  clear hb2 hp1
  rw [R.out.1, R.out.2, decide_eq_decide.2 G.out.1, decide_eq_decide.2 G.out.2]
  obtain ⟨g, hg⟩ : ∃ g, g = decide (Good s a0 a1 a2 b0 b1 b2 c0 c1 c2) := ⟨_, rfl⟩
  obtain ⟨r, hr⟩ : ∃ r, r = resOf s a0 a1 a2 b0 b1 b2 c0 c1 c2 := ⟨_, rfl⟩
  rw [← hg, ← hr]
  clear hg hr
  cases g
  · go_wp2_with fail
    go_ret
    exact ⟨by simp, by rw [← HB.out]; exact BW4.out⟩
  · go_wp2_with fail
    go_ret
    exact ⟨by simp, by rw [← HB.out]; exact BW4.out⟩
end Go.Proofs.Ytpgjhbhflkdchaa
