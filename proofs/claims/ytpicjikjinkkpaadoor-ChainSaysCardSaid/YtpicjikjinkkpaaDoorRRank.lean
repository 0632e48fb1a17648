/- Contract of the reference's Ranks. Conditions: the contract's own premises. -/
import Derived.Test.YtpicjikjinkkpaaDoorRefWM
import Derived.Test.YtpicjikjinkkpaaDoorKeep
import Derived.Test.YtpicjikjinkkpaaDoorMem
import Derived.Test.YtpicjikjinkkpaaDoorMirsky
import Derived.Deep.QuietTactic
namespace Go.Proofs.YtpicjikjinkkpaaDoor
open Go.RowKit

theorem Own.drewN {w : World} {base : Nat} {v : Value} {l : List Int} (h : Own w base v l) (n : Nat) : Own (w.drewN n) base v l := h
theorem Odr.lof_gj_no {c : List Nat} {n i j : Nat} {o : Nat → Nat} (h : ¬ (rel c j i = true ∧ gj c i o j i < gj c i o j j + 1)) : lof n (gj c i o (j + 1)) = lof n (gj c i o j) :=
  lof_congr fun x _ => by
    rw [gj]
    simp only
    split
    · rename_i q
      obtain ⟨rfl, q2⟩ := q
      have : ¬ gj c x o j x < gj c x o j j + 1 := fun q3 => h ⟨q2, q3⟩
      omega
    · rfl
theorem Odr.lof_gj_yes {c : List Nat} {n i j : Nat} {o : Nat → Nat} (h : rel c j i = true) (h2 : gj c i o j i < gj c i o j j + 1) : lof n (gj c i o (j + 1)) = (lof n (gj c i o j)).set i (gj c i o j j + 1) :=
  lof_set fun x => by
    rw [gj]
    simp only
    by_cases e : x = i
    · subst e
      rw [if_pos ⟨rfl, h⟩, if_pos rfl]
      omega
    · rw [if_neg (fun q => e q.1), if_neg e]
set_option maxRecDepth 20000 in
set_option maxHeartbeats 4000000 in
theorem rranks_calls (m : List Nat) (v : Value) (w : World) (hr : Ints w w.heap.size v (zs m)) (hv : Odr.Valid m) :
    Calls Tryd.prog 57 #[v] w fun e w' => (∃ v', e = .returned v' ∧ Kept w' v' (zs (Odr.lof m.length (Odr.rk (Odr.closed m))))) ∧ Below w.heap.size w w' := by
  have HC := Lib.hid (rturned_calls m v w hr hv.few hv.fits)
  have hfew := hv.few
  have HTL : (Odr.turned m).length = m.length := Odr.length_turned m
  have HTF := Lib.hid (Odr.Fits.turned m)
  have htr : ∀ i j k, Odr.rel (Odr.closed m) i j = true → Odr.rel (Odr.closed m) j k = true → Odr.rel (Odr.closed m) i k = true := fun i j k h1 h2 => Odr.closed_trans h1 h2
  have hirr : ∀ i, Odr.rel (Odr.closed m) i i = false := fun x => by
    cases h : Odr.rel (Odr.closed m) x x with
    | false => rfl
    | true => have := hv.asym h; rw [h] at this; cases this
  have HTT := Lib.hid fun i j => (show ((Odr.turned m).getD i 0).testBit j = Odr.rel (Odr.closed m) j i from Odr.rel_turned hv.fits i j)
  have hlt := Lib.hid fun i j (h : Odr.rel (Odr.closed m) i j = true) => Odr.rk_lt htr hirr h
  have hle := Lib.hid fun j => Odr.rk_le htr hirr j
  have hall := Lib.hid (show Odr.lof m.length (Odr.gp (Odr.closed m) m.length) = Odr.lof m.length (Odr.rk (Odr.closed m)) from Odr.lof_congr fun j _ => by
    have := Odr.gp_all hv.fits.closed hlt.out j
    rw [Odr.length_closed] at this
    exact this)
  have hcl : (Odr.closed m).length = m.length := Odr.length_closed m
  obtain ⟨A0, cap0, rfl⟩ := Rd.val hr
  rw [length_zs] at hr HC ⊢
  rw [← hall.out]
  clear hr hv htr hirr hall
  generalize Odr.closed m = c at *
  generalize Odr.turned m = tm at *
  generalize m.length = n at *
  have HGI := Lib.hid (show ∀ o k, Odr.gi c o (k + 1) = Odr.gj c k (Odr.gi c o k) n from fun o k => by rw [Odr.gi, hcl])
  have HGP := Lib.hid (show ∀ t, Odr.gp c (t + 1) = Odr.gi c (Odr.gp c t) n from fun t => by rw [Odr.gp, hcl])
  rw [hcl] at hle
  clear hcl
  go_enter Tryd.func57, Tryd.ntmps57
  go_wp2_with fail
  (with_reducible refine HC.out.mono ?_)
  rintro e w1 ⟨u, rfl, hown, hb1⟩
  clear HC
  obtain ⟨A, cap, rfl⟩ := Rd.val hown.ints
  rw [length_zs, HTL] at hown ⊢
  have HI := Lib.hid hown.ints
  have HB1 := Lib.hid hb1
  clear hown hb1
  go_wp2_with (at_make; refine make_ints rfl _ _ rfl w1.heap.size n rfl rfl (by omega) (Nat.le_refl _) ?_; intro w2 hown2 hb2)
  obtain ⟨g, hg⟩ : ∃ g, g = w1.heap.size := ⟨_, rfl⟩
  have hst : Own w2 w1.heap.size (.slice (some ⟨g, 0, none⟩) n n) (zs (Odr.lof n (Odr.gp c 0))) := by
    rw [hg, show Odr.gp c 0 = fun _ => 0 from rfl, Odr.lof_zero]
    simpa [zs] using hown2
  have HG := Lib.hid hg
  rw [← hg]
  clear hown2 hg
  go_loopw [5] (fun tv wr => ∃ t : Nat, t ≤ n ∧ tv = nv t ∧ Own wr w1.heap.size (.slice (some ⟨g, 0, none⟩) n n) (zs (Odr.lof n (Odr.gp c t))) ∧ Below w1.heap.size w1 wr) (fun tv _ => n - (intOf tv).toNat)
  case atStart => exact ⟨0, Nat.zero_le _, rfl, hst, hb2⟩
  case round =>
    clear hst hb2
    obtain ⟨t, ht, rfl, ho, hb⟩ := hrel
    by_cases htn : t < n
    · have HGP1 := Lib.hid (HGP.out t)
      obtain ⟨gt, hgt⟩ : ∃ gt, gt = Odr.gp c t := ⟨_, rfl⟩
      have HGL := Lib.hid (show ∀ j, gt j ≤ Odr.rk c j by rw [hgt]; exact Odr.gp_le hlt.out t)
      rw [← hgt] at ho HGP1
      clear hgt
      go_wp2_with fail
      go_loopw [6] (fun iv wr => ∃ k : Nat, k ≤ n ∧ iv = nv k ∧ Own wr w1.heap.size (.slice (some ⟨g, 0, none⟩) n n) (zs (Odr.lof n (Odr.gi c gt k))) ∧ Below w1.heap.size w1 wr) (fun iv _ => n - (intOf iv).toNat)
      case atStart => exact ⟨0, Nat.zero_le _, rfl, ho, hb⟩
      case round =>
        clear ho hb
        obtain ⟨k, hk, rfl, ho, hb⟩ := hrel
        by_cases hkn : k < n
        · have HGI1 := Lib.hid (HGI.out gt k)
          have HIL := Lib.hid (Odr.gi_le hlt.out HGL.out k)
          obtain ⟨gk, hgk⟩ : ∃ gk, gk = Odr.gi c gt k := ⟨_, rfl⟩
          rw [← hgk] at ho HGI1 HIL
          clear hgk
          go_wp2_with fail
          go_loopw [7] (fun jv wr => ∃ j : Nat, j ≤ n ∧ jv = nv j ∧ Hid (Own wr w1.heap.size (.slice (some ⟨g, 0, none⟩) n n) (zs (Odr.lof n (Odr.gj c k gk j)))) ∧ Hid (Below w1.heap.size w1 wr)) (fun jv _ => n - (intOf jv).toNat)
          case atStart => exact ⟨0, Nat.zero_le _, rfl, Lib.hid ho, Lib.hid hb⟩
          case round =>
            clear ho hb
            obtain ⟨j, hj, rfl, ho, hb⟩ := hrel
            by_cases hjn : j < n
            · obtain ⟨gp, op, cp, he, _, py⟩ := Ints.atN (Rd.below HI.out hb.out) (k := k) (by rw [HTL]; exact hkn)
              rw [HTL] at he
              injection he with he1 he2 he3
              subst he1 he3
              clear he2
              have hy12 : tm.getD k 0 < 4096 := fits12 (l := tm) (by omega) (HTF.out.getD k)
              have hB := Lib.hid fun dd w5 => bitq (tm.getD k 0) j dd w5 hy12 (by omega)
              rw [HTT.out] at hB
              obtain ⟨y, hy⟩ : ∃ y, y = tm.getD k 0 := ⟨_, rfl⟩
              rw [← hy] at py hy12 hB
              clear hy
              obtain ⟨gb, gl, gc, gf, gst⟩ := ho.out.lit
              have gx := gc k (by rw [length_zs, Odr.length_lof]; exact hkn)
              rw [zs_getElem, Odr.getD_lof _ hkn] at gx
              have gz := gc j (by rw [length_zs, Odr.length_lof]; exact hjn)
              rw [zs_getElem, Odr.getD_lof _ hjn] at gz
              have gfk := gf k
              have hx13 : Odr.gj c k gk j k ≤ n := Nat.le_trans (Odr.gj_le hlt.out HIL.out j k) (hle.out k)
              have hz13 : Odr.gj c k gk j j ≤ n := Nat.le_trans (Odr.gj_le hlt.out HIL.out j j) (hle.out j)
              have hno := Lib.hid fun h => Odr.lof_gj_no (c := c) (n := n) (i := k) (j := j) (o := gk) h
              have hyes := Lib.hid fun h h2 => Odr.lof_gj_yes (c := c) (n := n) (i := k) (j := j) (o := gk) h h2
              have GST := Lib.hid gst
              have HGG := Lib.hid (show g < wr.heap.size ∧ w1.heap.size ≤ g from ⟨gl, gb⟩)
              obtain ⟨x, hx⟩ : ∃ x, x = Odr.gj c k gk j k := ⟨_, rfl⟩
              obtain ⟨z, hz⟩ : ∃ z, z = Odr.gj c k gk j j := ⟨_, rfl⟩
              rw [← hx] at gx hx13 hno hyes
              rw [← hz] at gz hz13 hno hyes
              clear hx hz gb gl gc gf gst
              have i1 : (0 : Int) ≤ (k : Int) := by omega
              have i2 : (k : Int) < (n : Int) := by omega
              have i3 : (0 : Int) ≤ (j : Int) := by omega
              have i4 : (j : Int) < (n : Int) := by omega
              have e5 : IntKind.i64.wrap ((z : Int) + 1) = (z : Int) + 1 := IntWalk.i64_in _ (by constructor <;> omega)
              cases hbit : Odr.rel c j k with
              | false =>
                rw [hbit] at hB
                have HO2 := Lib.hid ho.out
                rw [← hno.out (by rw [hbit]; simp)] at HO2
                clear hno hyes hbit ho GST
                go_wp2_with fail
                go_quiet ((go_at_call 34; exact hB.out _ _))
                go_wp2_with fail
                go_roundw
                case rel => exact ⟨j + 1, by omega, by go_num, Lib.hid (HO2.out.drewN _), Lib.hid (drn hb.out _)⟩
                case measure => simp [intOf]; omega
              | true =>
                rw [hbit] at hB
                by_cases hlx : x < z + 1
                · have heq := hyes.out hbit hlx
                  have t1 : decide ((x : Int) < (z : Int) + 1) = true := by simp; omega
                  have HF := Lib.hid (show Own (wr.setCell ⟨g, k, none⟩ (.int .i64 ((z : Int) + 1))) w1.heap.size (.slice (some ⟨g, 0, none⟩) n n) (zs (Odr.lof n (Odr.gj c k gk (j + 1)))) by
                    rw [heq, ← zs_set, Int.natCast_add]
                    exact GST.out k _)
                  have HBF := Lib.hid (hb.out.setCell (p := ⟨g, k, none⟩) (by have := HG.out; simp; omega) (.int .i64 ((z : Int) + 1)))
                  clear hno hyes hbit ho GST heq hlx
                  go_wp2_with fail
                  go_quiet ((go_at_call 34; exact hB.out _ _))
                  go_wp2_with fail
                  go_roundw
                  case rel => exact ⟨j + 1, by omega, by go_num, Lib.hid (HF.out.drewN _), Lib.hid (drn HBF.out _)⟩
                  case measure => simp [intOf]; omega
                · have HO2 := Lib.hid ho.out
                  rw [← hno.out (fun h => hlx h.2)] at HO2
                  have t1 : decide ((x : Int) < (z : Int) + 1) = false := by simp; omega
                  clear hno hyes hbit ho GST hlx
                  go_wp2_with fail
                  go_quiet ((go_at_call 34; exact hB.out _ _))
                  go_wp2_with fail
                  go_roundw
                  case rel => exact ⟨j + 1, by omega, by go_num, Lib.hid (HO2.out.drewN _), Lib.hid (drn hb.out _)⟩
                  case measure => simp [intOf]; omega
            · obtain rfl : j = n := by omega
              have ho2 := ho.out
              rw [← HGI1.out] at ho2
              go_wp2_with fail
              go_roundw
              case rel => exact ⟨k + 1, by omega, by go_num, ho2, hb.out⟩
              case measure => simp [intOf]; omega
        · obtain rfl : k = n := by omega
          have ho2 := ho
          rw [← HGP1.out] at ho2
          go_wp2_with fail
          go_roundw
          case rel => exact ⟨t + 1, by omega, by go_num, ho2, hb⟩
          case measure => simp [intOf]; omega
    · obtain rfl : t = n := by omega
      have hfin := HB1.out.trans (hb.mono HB1.out.size)
      have HKO := Lib.hid (Kept.of ho.ints)
      go_wp2_with fail
      go_ret
      exact ⟨⟨_, rfl, HKO.out⟩, hfin⟩
end Go.Proofs.YtpicjikjinkkpaaDoor
