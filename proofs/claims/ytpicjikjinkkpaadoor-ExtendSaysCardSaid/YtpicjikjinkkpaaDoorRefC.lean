/- Contract of the reference's Count: how many rows there are. Conditions: the contract's own premises. -/
import Derived.Test.YtpicjikjinkkpaaDoorLinM
import Derived.Test.YtpicjikjinkkpaaDoorRefD
import Derived.Test.YtpicjikjinkkpaaDoorExt
import Derived.StillTailTactics
namespace Go.Proofs.YtpicjikjinkkpaaDoor
open Go.RowKit

set_option maxRecDepth 20000 in
set_option maxHeartbeats 1000000 in
theorem rcount_calls (m : List Nat) (v : Value) (w : World) (hr : Ints w w.heap.size v (zs m)) (hv : Odr.Valid m) :
    Calls Tryd.prog 55 #[v] w fun e w' => e = .returned (nv (Odr.rows m).length) ∧ Below w.heap.size w w' := by
  have HC := Lib.hid (rclosed_calls m v w.heap.size w (Nat.le_refl _) hr hv.few hv.fits)
  have hcl := Odr.length_closed m
  have hfew := hv.few
  have hcf := Lib.hid hv.fits.closed
  have HR := Lib.hid (Odr.lin_rows hv)
  obtain ⟨A0, cap0, rfl⟩ := Rd.val hr
  have hlz : (zs m).length = m.length := by simp
  rw [hlz] at hr HC ⊢
  clear hr hv hlz
  generalize (Odr.rows m).length = fin at *
  generalize Odr.closed m = c at *
  generalize m.length = n at *
  have HP0 := Lib.hid fun w5 => pow2_calls n w5 (by omega)
  obtain ⟨N, hN⟩ : ∃ N, N = 2 ^ n := ⟨_, rfl⟩
  have hN12 : N ≤ 4096 := by rw [hN]; exact (show 2 ^ n ≤ 2 ^ 12 from Nat.pow_le_pow_right (by omega) hfew)
  have hN1 : 0 < N := by rw [hN]; exact Nat.two_pow_pos n
  rw [← hN] at HP0 HR
  have HN := Lib.hid hN
  clear hN
  go_enter Tryd.func55, Tryd.ntmps55
  go_wp2_with fail
  refine HC.out.mono ?_
  rintro e w1 ⟨u, rfl, hown, hb1⟩
  clear HC
  obtain ⟨A, cap, rfl⟩ := Rd.val hown.ints
  rw [length_zs, hcl] at hown ⊢
  have HI := Lib.hid hown.ints
  have HB1 := Lib.hid hb1
  clear hown hb1
  go_wp2_with fail
  refine (HP0.out _).mono ?_
  rintro e w5 ⟨rfl, rfl⟩
  clear HP0
  go_wp2_with (at_make; refine make_ints rfl _ _ rfl w1.heap.size N rfl rfl (by omega) (Nat.le_refl _) ?_; intro w2 hown2 hb2; have g0 := (Own.rep0 hown2 hN1).1; have gf0 := (Own.rep0 hown2 hN1).2)
  obtain ⟨g, hg⟩ : ∃ g, g = w1.heap.size := ⟨_, rfl⟩
  have hst : Own (w2.setCell ⟨g, 0, none⟩ (.int .i64 1)) w1.heap.size (.slice (some ⟨g, 0, none⟩) N N) (zs (Odr.rlist c n 1 0)) := by
    rw [hg]
    have := hown2.lit.2.2.2.2 0 1
    rw [Odr.rlist_start, ← HN.out, ← zs_set]
    simpa [zs] using this
  have hbst : Below w1.heap.size w1 (w2.setCell ⟨g, 0, none⟩ (.int .i64 1)) := hb2.setCell (p := ⟨g, 0, none⟩) (by simp [hg]) _
  have HG := Lib.hid hg
  rw [← hg]
  clear hown2 g0 gf0 hb2 hg
  go_loopw [5] (fun i wr => ∃ s : Nat, 1 ≤ s ∧ s ≤ N ∧ i = nv s ∧ Own wr w1.heap.size (.slice (some ⟨g, 0, none⟩) N N) (zs (Odr.rlist c n s 0)) ∧ Below w1.heap.size w1 wr) (fun i _ => N - (intOf i).toNat)
  case atStart => exact ⟨1, Nat.le_refl _, by omega, rfl, hst, hbst⟩
  case round =>
    clear hst hbst
    obtain ⟨s, hs1, hs, rfl, ho, hb⟩ := hrel
    by_cases hsN : s < N
    · go_wp2_with fail
      go_loopw [6] (fun i wr => ∃ k : Nat, k ≤ n ∧ i = nv k ∧ Own wr w1.heap.size (.slice (some ⟨g, 0, none⟩) N N) (zs (Odr.rlist c n s k)) ∧ Below w1.heap.size w1 wr) (fun i _ => n - (intOf i).toNat)
      case atStart => exact ⟨0, Nat.zero_le _, rfl, ho, hb⟩
      case round =>
        clear ho hb
        obtain ⟨k, hk, rfl, ho, hb⟩ := hrel
        by_cases hkn : k < n
        · have hs2 : s < 2 ^ n := by rw [← HN.out]; exact hsN
          obtain ⟨gp, op, cp, he, _, py⟩ := Ints.atN (Rd.below HI.out hb) (k := k) (by rw [hcl]; exact hkn)
          rw [hcl] at he
          injection he with he1 he2 he3
          subst he1 he3
          clear he2
          have hy12 : c.getD k 0 < 4096 := fits12 (l := c) (by omega) (hcf.out.getD k)
          have hB := Lib.hid fun w5 => bit12 s k w5 (by omega) (by omega)
          have hO := Lib.hid fun w5 => both12 (c.getD k 0) s w5 hy12 (by omega)
          have hskip := Lib.hid fun h => Odr.rlist_skip (c := c) (n := n) (s := s) (i := k) h
          have hstore := Lib.hid fun h => Odr.rlist_store (c := c) (n := n) (s := s) (i := k) h
          obtain ⟨y, hy⟩ : ∃ y, y = c.getD k 0 := ⟨_, rfl⟩
          rw [← hy] at py hy12 hO hskip hstore
          clear hy
          have HO := Lib.hid ho
          have HBB := Lib.hid hb
          have HPY := Lib.hid py
          cases hbit : s.testBit k with
          | false =>
            rw [hbit] at hB
            have hO2 := Lib.hid ho
            rw [← hskip.out (by simp [hbit])] at hO2
            clear hskip hstore hbit hO HO ho py HPY
            go_wp2_with fail
            (with_reducible refine (hB.out _).mono ?_)
            rintro e w5 ⟨rfl, rfl⟩
            clear hB
            go_wp2_with fail
            go_roundw
            case rel => exact ⟨k + 1, by omega, by go_num, hO2.out, HBB.out⟩
            case measure => simp [intOf]; omega
          | true =>
            rw [hbit] at hB
            by_cases hz : y &&& s = 0
            · rw [hz] at hO
              have heq := hstore.out ⟨hbit, hz⟩
              obtain ⟨gb, gl, gc, gf, gst⟩ := ho.lit
              have gs := gc s (by rw [length_zs, Odr.length_rlist]; exact hs2)
              rw [zs_getElem, Odr.getD_rlist _ _ _ _ hs2] at gs
              have hsub2 : s - 2 ^ k < 2 ^ n := Nat.lt_of_le_of_lt (Nat.sub_le _ _) hs2
              have gt := gc (s - 2 ^ k) (by rw [length_zs, Odr.length_rlist]; exact hsub2)
              have hge := Nat.ge_two_pow_of_testBit hbit
              have h2p := Nat.two_pow_pos k
              rw [zs_getElem, Odr.getD_rlist _ _ _ _ hsub2, Odr.rcell_low (by omega)] at gt
              have gfs := gf s
              have hb1 := Odr.rcell_self_bound (c := c) (i := k) hfew hs2 hk
              have hb2 := Odr.lin_bound (c := c) hfew hsub2
              have hfin := gst s
              generalize Odr.rcell c n s k s = x at *
              generalize Odr.lin c n (s - 2 ^ k) = z at *
              have hP := Lib.hid fun w5 => (pow2_calls k w5 (by omega)).mono (R' := fun e w' => e = .returned (nv (2 ^ k)) ∧ w' = w5) fun _ _ ⟨a, b⟩ => ⟨a, b.symm⟩
              generalize 2 ^ k = p at *
              have e1 : IntKind.i64.wrap ((s : Int) - (p : Int)) = (s : Int) - (p : Int) := IntWalk.i64_in _ (by constructor <;> omega)
              have e2 : (0 : Int) ≤ (s : Int) - (p : Int) := by omega
              have e3 : (s : Int) - (p : Int) < (N : Int) := by omega
              have e4 : ((s : Int) - (p : Int)).toNat = s - p := by omega
              have e5 : IntKind.i64.wrap ((x : Int) + (z : Int)) = (x : Int) + (z : Int) := IntWalk.i64_in _ (by constructor <;> omega)
              have e6 : (p : Int) ≤ (s : Int) := by omega
              have i1 : (0 : Int) ≤ (s : Int) := by omega
              have i2 : (s : Int) < (N : Int) := by omega
              have HF := Lib.hid (show Own (wr.setCell ⟨g, s, none⟩ (.int .i64 ((x : Int) + (z : Int)))) w1.heap.size (.slice (some ⟨g, 0, none⟩) N N) (zs (Odr.rlist c n s (k + 1))) by
                rw [heq, ← zs_set, Int.natCast_add]
                exact hfin _)
              have HBF := Lib.hid (hb.setCell (p := ⟨g, s, none⟩) (by have := HG.out; simp; omega) (.int .i64 ((x : Int) + (z : Int))))
              clear hskip hstore hbit hz heq gc gf gst hfin hs2 hsub2 ho HO hb HBB
              go_wp2_with fail
              (with_reducible refine (hB.out _).mono ?_)
              rintro e w5 ⟨rfl, rfl⟩
              clear hB
              go_wp2_with fail
              (with_reducible refine (hO.out _).mono ?_)
              rintro e w5 ⟨rfl, rfl⟩
              clear hO
              go_wp2_with fail
              refine wp_region_still_tail 15 (by kernel_rfl) (by kernel_rfl) ?_
              simp only [List.take_succ_cons, List.take_zero, List.drop_succ_cons, List.drop_zero]
              repeat (first | still_step | still_call (hP.out _))
              refine wpStill_nil ?_
              go_wp2
              go_roundw
              case rel => exact ⟨k + 1, by omega, by go_num, HF.out.drew, HBF.out.drew⟩
              case measure => simp [intOf]; omega
            · have hO2 := Lib.hid ho
              rw [← hskip.out (fun h => hz h.2)] at hO2
              have hnz : (((y &&& s : Nat) : Int) == 0) = false := by simp; omega
              generalize y &&& s = q at *
              clear hskip hstore hbit hz HO ho
              go_wp2_with fail
              (with_reducible refine (hB.out _).mono ?_)
              rintro e w5 ⟨rfl, rfl⟩
              clear hB
              go_wp2_with fail
              (with_reducible refine (hO.out _).mono ?_)
              rintro e w5 ⟨rfl, rfl⟩
              clear hO
              go_wp2_with fail
              go_roundw
              case rel => exact ⟨k + 1, by omega, by go_num, hO2.out, HBB.out⟩
              case measure => simp [intOf]; omega
        · obtain rfl : k = n := by omega
          rw [Odr.rlist_next (by rw [← HN.out]; exact hsN) (by omega)] at ho
          go_wp2_with fail
          go_roundw
          case rel => exact ⟨s + 1, by omega, by omega, by go_num, ho, hb⟩
          case measure => simp [intOf]; omega
    · obtain rfl : s = N := by omega
      obtain ⟨gb, gl, gc, gf, gst⟩ := ho.lit
      have gs := gc (s - 1) (by rw [length_zs, Odr.length_rlist, ← HN.out]; omega)
      rw [zs_getElem, Odr.getD_rlist _ _ _ _ (by rw [← HN.out]; omega), Odr.rcell_low (by omega), HR.out] at gs
      have e1 : ((s : Int) - 1).toNat = s - 1 := by omega
      have hfin := HB1.out.trans (hb.mono HB1.out.size)
      clear gc gf gst ho hs gb gl hb
      go_wp2_with fail
      go_ret
      exact ⟨rfl, hfin⟩
end Go.Proofs.YtpicjikjinkkpaaDoor
