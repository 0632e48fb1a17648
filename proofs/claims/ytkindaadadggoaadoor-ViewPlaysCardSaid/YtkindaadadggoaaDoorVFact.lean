/- The closed fact on views; what a store's methods leave. Conditions: each contract's own premises. -/
import Derived.Test.YtkindaadadggoaaDoorVSer
import Derived.Test.YtkindaadadggoaaDoorVDanger
import Derived.Test.YtkindaadadggoaaDoorVDeeds
namespace Go.Proofs.YtkindaadadggoaaDoor
open Go.RowKit

section
variable {W w w' : World} {b : Nat} {v v' : Vw.V} {vs : Nat → Value}
theorem StTo.below (h : StTo w b vs v w') (hb : Below W.heap.size W w) (h0 : StAt w b v' vs) (hB : W.heap.size ≤ b) : Below W.heap.size W w' := by
  obtain ⟨vs', _, h2, _⟩ := h
  exact hb.trans (h2.below hb.size (fun k hk => Nat.le_trans hB (h0.foot k hk).1))
end
def skewL : List Deed4V := [(4, 0, 0, 0), (4, 1, 0, 0), (3, 0, 0, 0), (3, 1, 1, 0), (3, 0, 1, 1), (3, 1, 0, 1), (5, 0, 0, 0), (5, 1, 0, 0)]
/-- after some deeds -/
def vrun (v : Vw.V) (l : List Deed4V) : Vw.V := l.foldl (fun v d => (vstepI v d).1) v
theorem vrun_snoc (v : Vw.V) (l : List Deed4V) (d : Deed4V) : vrun v (l ++ [d]) = (vstepI (vrun v l) d).1 := by
  unfold vrun
  rw [List.foldl_append]
  rfl
theorem vrun_next (v : Vw.V) (l : List Deed4V) {k : Nat} (hk : k < l.length) : vrun v (l.take (k + 1)) = (vstepI (vrun v (l.take k)) l[k]).1 := by
  rw [List.take_succ_eq_append_getElem hk, vrun_snoc]
theorem inv_vrun {v : Vw.V} (h : Vw.Inv v) (l : List Deed4V) : Vw.Inv (vrun v l) := by
  induction l generalizing v with
  | nil => exact h
  | cons d l ih => exact ih (Vw.Inv.stepI h d)
theorem skew_good : ∀ k, k < 8 → ∀ h : k < skewL.length, (vstepI (vrun Vw.v0 (skewL.take k)) skewL[k]).2.2 = 0 := by decide +kernel
theorem skew_row : Rw.row (Vw.ed (vrun Vw.v0 skewL)).1 = none := by decide +kernel
theorem skew_com : Vw.com (vrun Vw.v0 skewL) = 3 := by decide +kernel
theorem skew_dang : Vw.danger (vrun Vw.v0 skewL) = true := by decide +kernel
theorem skew_calls (w : World) : Calls Tryd.prog 61 #[] w fun e w' => e = .returned (.slice (some ⟨w.heap.size, 0, none⟩) 8 8) ∧ Below w.heap.size w w' ∧
    VDeeds w' w'.heap.size (.slice (some ⟨w.heap.size, 0, none⟩) 8 8) skewL := by
  go_enter Tryd.func61, Tryd.ntmps61
  go_wp2
  go_ret
  have h := Rd.lit w (vdcells skewL).toArray 49 4 8 8 rfl (by omega) (by decide)
  refine ⟨rfl, by go_grown, ?_⟩
  unfold VDeeds
  have := h.more (B' := (w.alloc (.cells (vdcells skewL).toArray 49)).heap.size) (by simp)
  exact this
set_option maxRecDepth 20000 in
set_option maxHeartbeats 2000000 in
theorem viewFact_calls (w : World) (hT : Tab w) : Calls Tryd.prog 23 #[] w fun e w' => e = .returned (.bool true) ∧ Below w.heap.size w w' := by
  have hn := Lib.hid (vnew_calls w)
  have HT := Lib.hid hT
  clear hT
  go_enter Tryd.func23, Tryd.ntmps23
  go_wp2_with fail
  (with_reducible refine hn.out.mono ?_)
  rintro e w1 ⟨rfl, ⟨vs0, hs0, -⟩, hb1⟩
  have hk := Lib.hid (skew_calls w1)
  clear hn
  go_wp2_with fail
  (with_reducible refine hk.out.mono ?_)
  rintro e w2 ⟨rfl, hb2, hdd⟩
  clear hk
  obtain ⟨g, hg⟩ : ∃ g, g = w1.heap.size := ⟨_, rfl⟩
  obtain ⟨b, hbq⟩ : ∃ b, b = w.heap.size := ⟨_, rfl⟩
  have hst0 := Lib.hid (show StAt w2 b Vw.v0 vs0 ∧ ∀ j, FootV b vs0 j → j ≠ g from by
    rw [hbq, hg]
    refine ⟨hs0.below hb2, fun j hj e => ?_⟩
    have := (hs0.foot j hj).2
    omega)
  have HBB := Lib.hid (hb1.trans (hb2.mono hb1.size))
  have hg2 : g < w2.heap.size := by
    have := hb2.size
    obtain ⟨b1, off, cap', he, hbb, -⟩ := VDeeds.at_ hdd (k := 0) (by decide)
    injection he with he
    injection he with he
    injection he with he
    rw [hg, he]; exact hbb
  rw [← hg] at hdd ⊢
  rw [← hbq]
  have HDD := Lib.hid hdd
  have HBQ := Lib.hid hbq
  clear hg hbq hs0 hb1 hb2 hdd
  go_wp2_with fail
  go_loopw [3] (fun i wr => ∃ (k : Nat) (vs : Nat → Value), k ≤ 8 ∧ i = nv k ∧ Hid (StAt wr b (vrun Vw.v0 (skewL.take k)) vs ∧ ∀ j, FootV b vs j → j ≠ g) ∧ Hid (wr.heap[g]? = w2.heap[g]?) ∧ Hid (Below w.heap.size w wr)) (fun i _ => 8 - (intOf i).toNat)
  case atStart => exact ⟨0, vs0, by omega, rfl, hst0, Lib.hid rfl, HBB⟩
  case round =>
    obtain ⟨k, vs, hk, rfl, hst, hgk, hb⟩ := hrel
    by_cases hk8 : k < 8
    · have hkl : k < skewL.length := hk8
      obtain ⟨b1, off, cap', he, -, d0, d1, d2, d3⟩ := VDeeds.at_ HDD.out hkl
      cases he
      have HNX := Lib.hid (vrun_next Vw.v0 skewL hkl)
      have hc0 := skew_good k hk8 hkl
      have hcall := Lib.hid (vdo_calls _ skewL[k] b vs wr hst.out.1 (inv_vrun Vw.inv0 _) (HT.out.below hb.out) (by rw [HBQ.out]; exact HT.out.lt))
      have e0 : ∀ o, wr.cell? ⟨g, o, none⟩ = w2.cell? ⟨g, o, none⟩ := fun o => World.cell?_of_block hgk.out
      rw [← e0] at d0 d1 d2 d3
      rw [Nat.zero_add] at d0 d1 d2 d3
      rw [hc0, show errw 0 = .nilIface from rfl] at hcall
      generalize skewL[k] = d at *
      obtain ⟨x, y, z, u⟩ := d
      simp only at d0 d1 d2 d3 hcall
      clear hc0 e0 hkl
      have i1 : (k : Int) < 8 := by omega
      rw [show dval (iv x) (iv y) (iv z) (iv u) = .agg #[.int .i64 x, .int .i64 y, .int .i64 z, .int .i64 u] from rfl] at hcall
      generalize (vstepI (vrun Vw.v0 (List.take k skewL)) (x, y, z, u)).2.1 = rn at *
      generalize (vstepI (vrun Vw.v0 (List.take k skewL)) (x, y, z, u)).1 = nx at *
      go_wp2_with fail
      (with_reducible refine hcall.out.mono ?_)
      rintro e w4 ⟨rfl, ht⟩
      have hb4 := Lib.hid (ht.below hb.out hst.out.1 (by rw [HBQ.out]; exact Nat.le_refl _))
      obtain ⟨vs', h1, h2, h3⟩ := ht
      have hgw : g < wr.heap.size := by
        have h5 : (w2.heap[g]?).isSome = true := by rw [Array.getElem?_eq_getElem hg2]; rfl
        rw [← hgk.out] at h5
        rcases Nat.lt_or_ge g wr.heap.size with h6 | h6
        · exact h6
        · rw [Array.getElem?_eq_none h6] at h5; cases h5
      have hst4 := Lib.hid (show StAt w4 b (vrun Vw.v0 (skewL.take (k + 1))) vs' ∧ ∀ j, FootV b vs' j → j ≠ g from by
        rw [HNX.out]
        refine ⟨h1, fun j hj e => ?_⟩
        rcases h3 j hj with q | q
        · exact hst.out.2 j q e
        · omega)
      have hgk4 := Lib.hid (show w4.heap[g]? = w2.heap[g]? from (h2.block g hgw (fun q => hst.out.2 g q rfl)).trans hgk.out)
      clear hcall h1 h2 h3 hst hgk hb
      go_wp2_with fail
      go_roundw
      case rel => exact ⟨k + 1, vs', by omega, by go_num, hst4, hgk4, hb4⟩
      case measure => simp [intOf]; omega
    · obtain rfl : k = 8 := by omega
      rw [show skewL.take 8 = skewL from rfl] at hst
      have HS := Lib.hid (vserial_calls _ b vs wr hst.out.1 (inv_vrun Vw.inv0 _) (HT.out.below hb.out))
      have HC := Lib.hid fun (w5 : World) (h5 : Below wr.heap.size wr w5) => vcommitted_calls _ b vs w5 (hst.out.1.below h5)
      have HD := Lib.hid fun (w5 : World) (h5 : Below wr.heap.size wr w5) => vdanger_calls _ b vs w5 (hst.out.1.below h5) (inv_vrun Vw.inv0 _) (HT.out.below (hb.out.trans (h5.mono hb.out.size)))
      rw [skew_row] at HS
      rw [skew_com] at HC
      rw [skew_dang] at HD
      have HS2 := Lib.hid (HS.out.mono (R' := fun e w' => e = .returned (.tuple #[.bool false, .slice none 0 0]) ∧ Below wr.heap.size wr w') (fun e w' ⟨hb, hh⟩ => by
        rcases hh with ⟨_, h2⟩ | ⟨out, v', h2, _⟩
        · exact ⟨h2, hb⟩
        · cases h2))
      clear HS hst
      go_wp2_with fail
      (with_reducible refine HS2.out.mono ?_)
      rintro e w5 ⟨rfl, hb5⟩
      have HC2 := Lib.hid (HC.out w5 hb5)
      clear HC HS2
      go_wp2_with fail
      (with_reducible refine HC2.out.mono ?_)
      rintro e w6 ⟨rfl, hb6⟩
      have hb6' := hb5.trans (hb6.mono hb5.size)
      have HD2 := Lib.hid (HD.out w6 hb6')
      have HBF := Lib.hid (hb.out.trans (hb6'.mono hb.out.size))
      clear HC2 HD hb5 hb6 hb6' hb
      go_wp2_with fail
      (with_reducible refine HD2.out.mono ?_)
      rintro e w7 ⟨rfl, hb7⟩
      have HBG := Lib.hid (HBF.out.trans (hb7.mono HBF.out.size))
      clear HD2 hb7
      go_wp2_with fail
      go_ret
      exact ⟨rfl, HBG.out⟩
end Go.Proofs.YtkindaadadggoaaDoor
