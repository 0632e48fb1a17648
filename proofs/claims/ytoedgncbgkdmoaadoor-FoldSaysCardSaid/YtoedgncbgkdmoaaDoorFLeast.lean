/- Contract of fold.Least: the least word. Conditions: the contract's own premises. -/
import Derived.Test.YtoedgncbgkdmoaaDoorFoldQ
import Derived.Test.YtoedgncbgkdmoaaDoorFSwaps
import Derived.Test.YtoedgncbgkdmoaaDoorSlc
namespace Go.Proofs.YtoedgncbgkdmoaaDoor
open Go.RowKit

namespace Fld
open Odr
/-- the letters that may still stand ahead, behind the first ones -/
def passTo (m r : List Nat) : Nat → Nat
  | 0 => 2 ^ m.length - 1
  | i + 1 => passTo m r i &&& m.getD (r.getD i 0) 0
theorem passTo_lt (m r : List Nat) (i : Nat) : passTo m r i < 2 ^ m.length := by
  induction i with
  | zero => rw [passTo]; have := Nat.two_pow_pos m.length; omega
  | succ i ih => rw [passTo]; exact Nat.lt_of_le_of_lt Nat.and_le_left ih
theorem testBit_passTo (m r : List Nat) {i : Nat} (hi : i ≤ r.length) {a : Nat} (ha : a < m.length) : (passTo m r i).testBit a = (r.take i).all fun x => rel m x a := by
  induction i with
  | zero =>
    rw [passTo, Nat.testBit_two_pow_sub_one]
    simp [ha]
  | succ i ih =>
    rw [passTo, Nat.testBit_and, ih (by omega), take_succ_getD r (by omega), List.all_append]
    simp [rel]
/-- the place that is best so far, as the program has it -/
def bestV (m r : List Nat) (i : Nat) : Int := match bestTo m r i with | none => -1 | some b => (b : Int)
theorem bestV_zero (m r : List Nat) : bestV m r 0 = -1 := rfl
theorem bestTo_lt {m r : List Nat} {i b : Nat} (h : bestTo m r i = some b) : b < i := ((bestTo_spec m r i).1 b h).1
theorem bestV_take {m r : List Nat} {i : Nat} (h1 : okAt m r i = true) (h2 : ∀ b, bestTo m r i = some b → r.getD i 0 < r.getD b 0) : bestV m r (i + 1) = (i : Int) := by
  unfold bestV
  rw [bestTo, if_pos ⟨h1, h2⟩]
theorem bestV_keep {m r : List Nat} {i : Nat} (h : ¬ (okAt m r i = true ∧ ∀ b, bestTo m r i = some b → r.getD i 0 < r.getD b 0)) : bestV m r (i + 1) = bestV m r i := by
  unfold bestV
  rw [bestTo, if_neg h]
end Fld

theorem wrap_and (a b : Nat) (ha : a < 64) (hb : b < 64) : bits .and .i64 (a : Int) (b : Int) = ((a &&& b : Nat) : Int) := bits_and a b (by omega) (by omega)
theorem least_err (l p : List Int) (v u : Value) (w : World) (hv : Ints w w.heap.size v l) (hu : Ints w w.heap.size u p) (hne : wordCode l p ≠ 0) (hT : Tab w) :
    Calls Tryd.prog 15 #[v, u] w fun e w' => e = .returned (.tuple #[.slice none 0 0, .iface 43 (nv (wordCode l p))]) ∧ Below w.heap.size w w' := by
  have h := Lib.hid (word_err l p v u w hv hu hne hT)
  clear hne
  go_enter Tryd.func15, Tryd.ntmps15
  go_wp2_with fail
  (with_reducible refine h.out.mono ?_)
  rintro e w1 ⟨rfl, hb1⟩
  clear h
  go_wp2_with fail
  go_ret2
  exact ⟨rfl, hb1⟩

set_option maxRecDepth 20000 in
set_option maxHeartbeats 4000000 in
theorem least_ok (m t : List Nat) (v u : Value) (w : World) (hv : Ints w w.heap.size v (zs m)) (hu : Ints w w.heap.size u (zs t)) (hg : Fld.Good m) (hl : t.length ≤ 24) (ht : ∀ x ∈ t, x < m.length) (hT : Tab w) :
    Calls Tryd.prog 15 #[v, u] w fun e w' => ∃ v', e = .returned (.tuple #[v', .nilIface]) ∧ Own w' w.heap.size v' (zs (Fld.least m t)) ∧ Below w.heap.size w w' := by
  have hchk := Lib.hid (word_ok m t v u w hv hu hg hl ht hT)
  have HT := Lib.hid ht
  have HG := Lib.hid hg
  have hn := hg.1
  obtain ⟨A, cap, rfl⟩ := Rd.val hv
  obtain ⟨A', cap', rfl⟩ := Rd.val hu
  have HU := Lib.hid hu
  have HV := Lib.hid hv
  simp only [length_zs] at *
  have hp := Lib.hid (wrap_two_pow m.length (by omega))
  have h2n : 1 ≤ 2 ^ m.length ∧ 2 ^ m.length ≤ 64 := ⟨Nat.two_pow_pos _, (show 2 ^ m.length ≤ 2 ^ 6 from Nat.pow_le_pow_right (by omega) hn)⟩
  have h2c : ((2 : Int) ^ m.length) = ((2 ^ m.length : Nat) : Int) := by rw [Int.natCast_pow]; rfl
  clear ht hg hu hv
  go_enter Tryd.func15, Tryd.ntmps15
  have H2C := Lib.hid h2c
  clear h2c
  go_wp2_with fail
  (with_reducible refine hchk.out.mono ?_)
  rintro e w1 ⟨rfl, hb1⟩
  have hc := Lib.hid (clone_calls (zs t) (.slice A' t.length cap') w1 (HU.out.later hb1) (by rw [length_zs]; omega))
  clear hchk
  go_wp2_with fail
  (with_reducible refine hc.out.mono ?_)
  rintro e w2 ⟨vr, rfl, hown, hb2⟩
  have hlt := row_lt' hown
  have HS12 := Lib.hid hb2.size
  clear hc
  go_wp2_with fail
  go_loopw [7, 8] (fun rv ov wr => ∃ (r o : List Nat) (vr vo : Value), rv = vr ∧ ov = vo ∧ Own wr w1.heap.size vr (zs r) ∧ Hid (∀ k, vr.ownBlock = some k → k < w2.heap.size) ∧ Own wr w2.heap.size vo (zs o) ∧ Hid (o ++ Fld.least m r = Fld.least m t) ∧ Hid (∀ x ∈ r, x < m.length) ∧ o.length + r.length = t.length ∧ Below w1.heap.size w1 wr ∧ w2.heap.size ≤ wr.heap.size) (fun rv _ _ => lenOf rv)
  case atStart => exact ⟨t, [], _, _, rfl, rfl, hown, hlt, Own.nil _ _, Lib.hid rfl, HT, by simp, hb2, Nat.le_refl _⟩
  case round =>
    clear hown hlt hb2
    obtain ⟨r, o, vr', vo, hvr, hvo, hown, hblk, howo, heq, hmem, hlen, hb, hsz⟩ := hrel
    replace hvr := hvr.symm
    replace hvo := hvo.symm
    subst hvr
    subst hvo
    by_cases hne : 0 < r.length
    · obtain ⟨b, hbl, hbest, hcons, _, _, _⟩ := Fld.least_cons HG.out (List.length_pos_iff.1 hne)
      obtain ⟨g, cp, rfl, gb, gs, _, gc, _, _⟩ := Own.shape hown (by rw [length_zs]; exact hne)
      rw [length_zs] at *
      have HBK := Lib.hid (hblk.out g rfl)
      have HOWN := Lib.hid hown
      have HOWO := Lib.hid howo
      have HBX := Lib.hid hb
      have HBEST := Lib.hid hbest
      have HCONS := Lib.hid hcons
      clear hown howo hb hbest hcons hblk
      obtain ⟨wo, rfl⟩ : ∃ wo : World, wo = wr := ⟨_, rfl⟩
      have ne1 : decide ((0 : Int) < (r.length : Int)) = true := by simp; omega
      have sh1 : decide ((m.length : Int) < 0) = false := by simp
      go_wp2_with fail
      go_quiet (fail)
      have hst : Value.int .i64 (wrap64 (wrap64 (2 ^ m.length) - 1)) = nv (Fld.passTo m r 0) := by
        rw [hp.out, H2C.out]
        rw [IntWalk.wrap64_in _ (by constructor <;> omega)]
        show Value.int .i64 (((2 ^ m.length : Nat) : Int) - 1) = Value.int .i64 ((2 ^ m.length - 1 : Nat) : Int)
        congr 1
        omega
      have HST := Lib.hid hst
      have HB0 := Lib.hid (drn HBX.out nq)
      have HO0 := Lib.hid (show Own (wo.drewN nq) w1.heap.size (.slice (some ⟨g, 0, none⟩) r.length cp) (zs r) from HOWN.out)
      have HW0 := Lib.hid (show Own (wo.drewN nq) w2.heap.size vo (zs o) from HOWO.out)
      have HZ0 := Lib.hid (show w2.heap.size ≤ (wo.drewN nq).heap.size from hsz)
      have HGC := Lib.hid fun (k : Nat) (hk : k < r.length) (n : Nat) => (show ((wo.drewN nq).drewN n).cell? ⟨g, k, none⟩ = some (nv (r.getD k 0)) by
        have h := gc k (by rw [length_zs]; exact hk)
        rw [zs_getElem] at h
        exact h)
      clear hst HOWN HOWO HBX hsz gc ne1 sh1
      go_wp2_with fail
      rw [HST.out]
      generalize wo.drewN nq = W at *
      have hpl := Lib.hid fun i => (Nat.lt_of_lt_of_le (Fld.passTo_lt m r i) h2n.2)
      go_loopw [9, 10, 30] (fun bv pv iv wr => ∃ i n : Nat, i ≤ r.length ∧ bv = .int .i64 (Fld.bestV m r i) ∧ pv = nv (Fld.passTo m r i) ∧ iv = nv i ∧ wr = W.drewN n) (fun _ _ iv _ => r.length - (intOf iv).toNat)
      case atStart => exact ⟨0, 0, Nat.zero_le _, rfl, rfl, rfl, rfl⟩
      case round =>
        obtain ⟨i, n, hi, rfl, rfl, rfl, rfl⟩ := hrel
        by_cases hir : i < r.length
        · have di := HGC.out i hir n
          have hai := hmem.out (r.getD i 0) (by rw [List.getD_eq_getElem?_getD, List.getElem?_eq_getElem hir]; exact List.getElem_mem hir)
          obtain ⟨b2, o2, c2, he, _, df⟩ := Ints.atN (Rd.below HV.out ((hb1.trans ((drn HB0.out n).mono hb1.size)))) (k := r.getD i 0) hai
          cases he
          have hfa := Lib.hid (Odr.Fits.getD (HG.out.2.1) (r.getD i 0))
          have hOK := Lib.hid (show (Fld.passTo m r i).testBit (r.getD i 0) = Fld.okAt m r i from Fld.testBit_passTo m r hi hai)
          have HPN := Lib.hid (show Fld.passTo m r (i + 1) = Fld.passTo m r i &&& m.getD (r.getD i 0) 0 from rfl)
          have hp64 := hpl.out i
          have hf64 : m.getD (r.getD i 0) 0 < 64 := by have := hfa.out; omega
          have HTK := Lib.hid fun h1 h2 => Fld.bestV_take (m := m) (r := r) (i := i) h1 h2
          have HKP := Lib.hid fun h => Fld.bestV_keep (m := m) (r := r) (i := i) h
          have HBV := Lib.hid (show Fld.bestV m r i = match Fld.bestTo m r i with | none => -1 | some b => (b : Int) from rfl)
          have HBL := Lib.hid fun b h => Fld.bestTo_lt (m := m) (r := r) (i := i) (b := b) h
          have hnb : (0 : Int) ≤ Fld.bestV m r i ∨ Fld.bestV m r i = -1 := by
            rw [HBV.out]
            cases Fld.bestTo m r i with
            | none => exact .inr rfl
            | some b => exact .inl (by simp)
          have hw : (Fld.okAt m r i = false ∧ Fld.bestV m r (i + 1) = Fld.bestV m r i)
              ∨ (Fld.okAt m r i = true ∧ Fld.bestV m r i = -1 ∧ Fld.bestV m r (i + 1) = (i : Int))
              ∨ (∃ b : Nat, Fld.okAt m r i = true ∧ Fld.bestV m r i = (b : Int) ∧ b < r.length ∧ r.getD i 0 < r.getD b 0 ∧ Fld.bestV m r (i + 1) = (i : Int))
              ∨ (∃ b : Nat, Fld.okAt m r i = true ∧ Fld.bestV m r i = (b : Int) ∧ b < r.length ∧ ¬ r.getD i 0 < r.getD b 0 ∧ Fld.bestV m r (i + 1) = (b : Int)) := by
            cases hok : Fld.okAt m r i
            · exact .inl ⟨rfl, HKP.out (fun h => by rw [hok] at h; cases h.1)⟩
            · have hbv := HBV.out
              cases hbt : Fld.bestTo m r i with
              | none =>
                rw [hbt] at hbv
                exact .inr (.inl ⟨rfl, hbv, HTK.out hok (fun b hb => by rw [hbt] at hb; cases hb)⟩)
              | some b =>
                rw [hbt] at hbv
                have hbl := HBL.out b hbt
                by_cases hlt : r.getD i 0 < r.getD b 0
                · exact .inr (.inr (.inl ⟨b, rfl, hbv, by omega, hlt, HTK.out hok (fun b' hb => by rw [hbt] at hb; injection hb with hb; subst hb; exact hlt)⟩))
                · exact .inr (.inr (.inr ⟨b, rfl, hbv, by omega, hlt, (HKP.out (fun h => hlt (h.2 b hbt))).trans hbv⟩))
          have hpn := Lib.hid (wrap_and (Fld.passTo m r i) (m.getD (r.getD i 0) 0) hp64 hf64)
          rw [← HPN.out] at hpn
          have hha := Lib.hid fun w5 : World => has_calls (Fld.passTo m r i) (r.getD i 0) w5 (by omega) (by omega)
          rw [hOK.out] at hha
          clear HTK HKP HBV HBL hOK HPN hnb hfa hp64 hf64
          obtain ⟨PN, hPN⟩ : ∃ PN, PN = Fld.passTo m r (i + 1) := ⟨_, rfl⟩
          rw [← hPN] at hpn
          have HPP := Lib.hid (show nv PN = nv (Fld.passTo m r (i + 1)) by rw [hPN])
          clear hPN
          generalize r.getD i 0 = a at *
          generalize m.getD a 0 = fa at *
          generalize Fld.passTo m r i = P at *
          rcases hw with ⟨hok, hbv⟩ | ⟨hok, hbv0, hbv⟩ | ⟨b', hok, hbv0, hbl', hlt, hbv⟩ | ⟨b', hok, hbv0, hbl', hlt, hbv⟩
          · rw [hok] at hha
            clear hok
            have HBV2 := Lib.hid hbv
            clear hbv
            generalize Fld.bestV m r i = bv at *
            go_wp2_with (go_at_call 29; (with_reducible refine (hha.out _).mono ?_); rintro e w' ⟨rfl, rfl⟩)
            rw [hpn.out]
            go_roundw
            case rel => exact ⟨i + 1, _, by omega, by rw [HBV2.out], HPP.out, by go_num, rfl⟩
            case measure => simp [intOf]; omega
          · rw [hok] at hha
            clear hok
            have HBV2 := Lib.hid hbv
            clear hbv
            rw [hbv0]
            clear hbv0
            go_wp2_with (go_at_call 29; (with_reducible refine (hha.out _).mono ?_); rintro e w' ⟨rfl, rfl⟩)
            rw [hpn.out]
            go_roundw
            case rel => exact ⟨i + 1, _, by omega, by rw [HBV2.out], HPP.out, by go_num, rfl⟩
            case measure => simp [intOf]; omega
          · rw [hok] at hha
            clear hok
            have HBV2 := Lib.hid hbv
            clear hbv
            rw [hbv0]
            clear hbv0
            have db := HGC.out b' hbl' n
            generalize r.getD b' 0 = rb at *
            have tl : decide ((a : Int) < (rb : Int)) = true := by simp; omega
            have tn : decide ((b' : Int) < 0) = false := by simp
            go_wp2_with (go_at_call 29; (with_reducible refine (hha.out _).mono ?_); rintro e w' ⟨rfl, rfl⟩)
            rw [hpn.out]
            go_roundw
            case rel => exact ⟨i + 1, _, by omega, by rw [HBV2.out], HPP.out, by go_num, rfl⟩
            case measure => simp [intOf]; omega
          · rw [hok] at hha
            clear hok
            have HBV2 := Lib.hid hbv
            clear hbv
            rw [hbv0]
            clear hbv0
            have db := HGC.out b' hbl' n
            generalize r.getD b' 0 = rb at *
            have tl : decide ((a : Int) < (rb : Int)) = false := by simp; omega
            have tn : decide ((b' : Int) < 0) = false := by simp
            go_wp2_with (go_at_call 29; (with_reducible refine (hha.out _).mono ?_); rintro e w' ⟨rfl, rfl⟩)
            rw [hpn.out]
            go_roundw
            case rel => exact ⟨i + 1, _, by omega, by rw [HBV2.out], HPP.out, by go_num, rfl⟩
            case measure => simp [intOf]; omega
        · obtain rfl : i = r.length := by omega
          have hbv : Fld.bestV m r r.length = (b : Int) := by unfold Fld.bestV; rw [HBEST.out]
          have db := HGC.out b hbl n
          have HO1 := Lib.hid (show Own (W.drewN n) w1.heap.size (.slice (some ⟨g, 0, none⟩) r.length cp) (zs r) from HO0.out)
          have HW1 := Lib.hid (show Own (W.drewN n) w2.heap.size vo (zs o) from HW0.out)
          have HB1 := Lib.hid (drn HB0.out n)
          have HZ1 := Lib.hid (show w2.heap.size ≤ (W.drewN n).heap.size from HZ0.out)
          have HEQ := Lib.hid (show (o ++ [r.getD b 0]) ++ Fld.least m (r.eraseIdx b) = Fld.least m t by rw [← heq.out, HCONS.out]; simp)
          have hol : o.length ≤ 24 := by omega
          rw [hbv]
          clear hbv HGC HO0 HW0 HB0 HZ0 HCONS HBEST hpl hir hi
          generalize r.getD b 0 = a at *
          generalize W.drewN n = W1 at *
          have ib0 : (0 : Int) ≤ (b : Int) := by omega
          go_wp2_with (at_builtin; refine append_int rfl _ _ rfl w2.heap.size _ (zs o) rfl (Own.alloc HW1.out _) W1.heap.size rfl (a : Int) (by rw [World.cell?_alloc_new]; rfl) (by rw [length_zs]; omega) (by have := HZ1.out; simp; omega) ?_; intro v6 w6 hown6 hb6 _)
          have hb62 : Below w2.heap.size W1 w6 := ((Below.refl w2.heap.size W1).alloc HZ1.out _).trans hb6
          have ho6 := Own.under HO1.out (fun k hk => by cases hk; exact HBK.out) hb62
          have hdel := Lib.hid (delete_calls (zs r) g cp b w1.heap.size w6 (by rw [length_zs]; exact ho6) (by rw [length_zs]; exact hbl))
          rw [length_zs] at hdel
          have HO6 := Lib.hid (show Own w6 w2.heap.size v6 (zs (o ++ [a])) by rw [show zs (o ++ [a]) = zs o ++ [(a : Int)] by simp [zs]]; exact hown6)
          have HB62 := Lib.hid hb62
          clear hown6 hb6 hb62 ho6
          (with_reducible refine hdel.out.mono ?_)
          rintro e w8 ⟨rfl, hown8, hg8⟩
          rw [show (zs r).eraseIdx b = zs (r.eraseIdx b) by unfold zs; rw [List.eraseIdx_eq_take_drop_succ, List.eraseIdx_eq_take_drop_succ, List.map_append, List.map_take, List.map_drop]] at hown8
          have HO8 := Lib.hid hown8
          have HV8 := Lib.hid (show Own w8 w2.heap.size v6 (zs (o ++ [a])) from World.ownsRow.kept (row := some g) HO6.out hg8 (.inr fun e => by have h1 := (HO6.out.lt g e).1; have h2 := HBK.out; omega))
          have HB8 := Lib.hid (show Below w1.heap.size w1 w8 from (HB1.out.trans (HB62.out.mono HS12.out)).grown hg8 (by have h1 := HB1.out.size; have h2 := HB62.out.size; omega) (fun k h => by cases h; exact gb))
          have hz8 : w2.heap.size ≤ w8.heap.size := by have := HZ1.out; have := HB62.out.size; have := hg8.size; omega
          clear hdel hown8 hg8
          go_wp2_with fail
          go_roundw
          case rel => exact ⟨r.eraseIdx b, o ++ [a], _, v6, rfl, rfl, HO8.out, Lib.hid (fun k hk => by cases hk; exact HBK.out), HV8.out, HEQ, Lib.hid (Fld.mem_erase hmem.out), by rw [List.length_append, List.length_eraseIdx]; simp [hbl]; omega, HB8.out, hz8⟩
          case measure => simp [lenOf]; omega
    · obtain rfl : r = [] := List.length_eq_zero_iff.1 (by omega)
      obtain ⟨A9, c9, rfl⟩ := Rd.val hown.ints
      have HE := Lib.hid (show o = Fld.least m t by rw [← heq.out]; simp [Fld.least_nil])
      have HOO := Lib.hid howo
      have HBX := Lib.hid (hb1.trans (hb.mono hb1.size))
      have hb1s := hb1.size
      clear hown howo heq hb hblk hmem hne
      go_wp2_with fail
      go_ret2
      exact ⟨_, rfl, by rw [← HE.out]; exact Own.lower HOO.out (by have := HS12.out; omega), HBX.out⟩
end Go.Proofs.YtoedgncbgkdmoaaDoor
