/- The walk of TopFold: at every input it returns true. Conditions: none beyond the table's. -/
import Derived.Test.YtoedgncbgkdmoaaDoorTopFM
import Derived.Test.YtoedgncbgkdmoaaDoorFSwaps
import Derived.Test.YtoedgncbgkdmoaaDoorExtW
import Derived.Test.YtoedgncbgkdmoaaDoorRanks
import Derived.Test.YtoedgncbgkdmoaaDoorCore
namespace Go.Proofs.YtoedgncbgkdmoaaDoor
open Go.RowKit

/-- what the law needs of a word, in plain words -/
structure TopFacts (m t n0 rw rk ls : List Nat) : Prop where
  lr : rw.length = n0.length
  lk : rk.length = n0.length
  row : ∀ i, i < n0.length → rw.getD i 0 < n0.length
  rank : ∀ i, i < n0.length → rk.getD i 0 < ls.length
  bit : ∀ i, i < n0.length → (ls.getD (rk.getD i 0) 0).testBit (n0.getD i 0) = true
  lt : ∀ i, i < n0.length → rk.getD i 0 < 24
  most : ∀ i, i < n0.length → Fld.longTo (Fld.stay m t) (i + 1) = max (Fld.longTo (Fld.stay m t) i) (rk.getD i 0 + 1)
  all : ls.length = Fld.longTo (Fld.stay m t) n0.length
  lo : ∀ i, i ≤ n0.length → Fld.longTo (Fld.stay m t) i ≤ 24
theorem top_facts {m t : List Nat} (hg : Fld.Good m) (hl : t.length ≤ 12) : TopFacts m t t (Odr.firstRow (Fld.ahead m t)) (Odr.lof (Fld.ahead m t).length (Odr.rk (Odr.closed (Fld.ahead m t)))) (Fld.steps m t) := by
  have hv := Fld.valid_ahead (m := m) hl
  obtain ⟨⟨r1, r2, r3⟩, r4⟩ := Odr.firstRow_row hv
  have hla := Fld.length_ahead m t
  have hrk : ∀ i, i < t.length → (Odr.lof (Fld.ahead m t).length (Odr.rk (Odr.closed (Fld.ahead m t)))).getD i 0 = Fld.rkAt (Fld.stay m t) i := fun i hi => by
    rw [hla, Odr.getD_lof _ hi, Fld.rk_ahead hl i hi]
  have hlen := Fld.length_steps (w := t) hg
  have hlo : ∀ i, Fld.longTo (Fld.stay m t) i ≤ i := fun i => by
    induction i with
    | zero => exact Nat.le_refl _
    | succ i ih =>
      have := Fld.rkAt_le (Fld.stay m t) i
      rw [Fld.longTo]
      omega
  refine ⟨by rw [r4, hla], by rw [Odr.length_lof, hla], fun i hi => ?_, fun i hi => ?_, fun i hi => ?_, fun i hi => ?_, fun i hi => ?_, hlen, fun i hi => ?_⟩
  · rw [List.getD_eq_getElem?_getD, List.getElem?_eq_getElem (by omega)]
    have := (r2 _).1 (List.getElem_mem (by omega : i < (Odr.firstRow (Fld.ahead m t)).length))
    rw [hla] at this
    exact this
  · rw [hrk i hi, hlen]
    exact Fld.rkAt_lt_longTo hi
  · rw [hrk i hi]
    have h := ((Fld.steps_ranks (w := t) hg t.length (Nat.le_refl _)).2.1 (Fld.rkAt (Fld.stay m t) i) (t.getD i 0)).2 ⟨i, hi, rfl, rfl⟩
    rw [List.take_length] at h
    exact h
  · rw [hrk i hi]
    have := Fld.rkAt_le (Fld.stay m t) i
    omega
  · rw [hrk i hi]; rfl
  · have := hlo i; omega
theorem same_spell {m t : List Nat} (hg : Fld.Good m) (ht : ∀ x ∈ t, x < m.length) (hl : t.length ≤ 12) :
    decide (Fld.steps m (Fld.spell t (Odr.firstRow (Fld.ahead m t))) = Fld.steps m t) = true ∧ (Fld.spell t (Odr.firstRow (Fld.ahead m t))).length = t.length ∧ ∀ x ∈ Fld.spell t (Odr.firstRow (Fld.ahead m t)), x < m.length := by
  have hv := Fld.valid_ahead (m := m) hl
  obtain ⟨hrow, r4⟩ := Odr.firstRow_row hv
  rw [Fld.length_ahead] at hrow r4
  have hmem : ∀ x ∈ Fld.spell t (Odr.firstRow (Fld.ahead m t)), x < m.length := by
    intro x hx
    obtain ⟨p, hp, rfl⟩ := List.mem_map.1 hx
    have hp' := (hrow.2.1 p).1 hp
    rw [List.getD_eq_getElem?_getD, List.getElem?_eq_getElem hp']
    exact ht _ (List.getElem_mem hp')
  exact ⟨decide_eq_true ((Fld.steps_eq_iff hg hmem ht).2 (Fld.spell_alike hg hrow)), by unfold Fld.spell; rw [List.length_map, r4], hmem⟩
theorem spell_take {t r : List Nat} {i : Nat} (hi : i < r.length) : Fld.spell t (r.take (i + 1)) = Fld.spell t (r.take i) ++ [t.getD (r.getD i 0) 0] := by
  rw [Fld.take_succ_getD r hi]
  simp [Fld.spell]

set_option maxRecDepth 100000 in
set_option maxHeartbeats 4000000 in
theorem topf_calls (l p : List Int) (f v : Value) (w : World) (hf : Ints w w.heap.size f l) (hv : Ints w w.heap.size v p) (hT : Tab w) :
    Calls Tryd.prog 8 #[f, v] w fun e w' => e = .returned (.bool true) ∧ Below w.heap.size w w' := by
  have hg : Fld.Good [2, 1] := (Fld.goodB_iff (by decide) (by unfold Odr.Fits; decide)).1 (by decide)
  have hs : Fld.steps [2, 1] [1, 0] = [3] := by decide +kernel
  obtain ⟨wa, hwa, sa, hba, la⟩ := layl w [2, 1] (by decide)
  obtain ⟨wb, hwb, sb, hbb, lb⟩ := layl wa [1, 0] (by decide)
  have hb2 := hba.trans (hbb.mono hba.size)
  have hst := Lib.hid (fsteps_ok [2, 1] [1, 0] _ _ wb (la.later hbb) lb hg (by decide) (by decide) (hT.below hb2))
  rw [hs] at hst
  simp only [List.map_cons, List.map_nil] at hwa hwb
  have HWA := Lib.hid hwa
  have HWB := Lib.hid hwb
  have SA := Lib.hid sa
  have HT := Lib.hid hT
  have HB2 := Lib.hid hb2
  have HF := Lib.hid hf
  have HV := Lib.hid hv
  obtain ⟨Av, cv, rfl⟩ := Rd.val hv
  clear hwa hwb la lb sb hba hbb hT hg hs hb2 sa hf hv
  go_enter Tryd.func8, Tryd.ntmps8
  go_wp2_with fail
  rw [HWA.out, ← SA.out, HWB.out]
  refine hst.out.mono ?_
  rintro e w1 ⟨v1, rfl, hown, hb1⟩
  have hb3 := HB2.out.trans (hb1.mono HB2.out.size)
  obtain ⟨wf, hwf, sf, hbf, lf⟩ := layl w1 [3] (by decide)
  have hj := Lib.hid (ints_calls v1 _ _ _ wf.heap.size wf (Nat.le_refl _) (hown.kept hbf).ints lf)
  rw [show decide (zs [3] = [3]) = true from by decide] at hj
  simp only [List.map_cons, List.map_nil] at hwf
  have HWF := Lib.hid hwf
  have HB3 := Lib.hid (hb3.trans (hbf.mono hb3.size))
  clear hst hwf lf hb1 hb3 hbf sf hown
  go_wp2_with fail
  rw [HWF.out]
  refine hj.out.mono ?_
  rintro e w2 ⟨rfl, hb2⟩
  have HB4 := Lib.hid (HB3.out.trans (hb2.mono HB3.out.size))
  clear hj hb2 HB3 HWF HWA HWB SA HB2
  by_cases hcode : wordCode l p = 0
  · obtain ⟨m, t, rfl, rfl, hg, hl, ht⟩ := wordCode_zero hcode
    have HG := Lib.hid hg
    have HTT := Lib.hid ht
    simp only [length_zs] at HF HV ⊢
    have h1 := Lib.hid (fahead_ok m t f _ w2 (HF.out.later HB4.out) (HV.out.later HB4.out) hg hl ht (HT.out.below HB4.out))
    clear hcode hg ht
    go_wp2_with fail
    (with_reducible refine h1.out.mono ?_)
    rintro e w3 ⟨v3, rfl, hown3, hb3⟩
    have HB5 := Lib.hid (HB4.out.trans (hb3.mono HB4.out.size))
    have HA := Lib.hid hown3.ints
    obtain ⟨A3, c3, rfl⟩ := Rd.val hown3.ints
    rw [length_zs, Fld.length_ahead] at HA ⊢
    have h2 := Lib.hid (fsteps_ok m t f _ w3 (HF.out.later HB5.out) (HV.out.later HB5.out) HG.out hl HTT.out (HT.out.below HB5.out))
    clear h1 hown3 hb3 HB4
    go_wp2_with fail
    (with_reducible refine h2.out.mono ?_)
    rintro e w4 ⟨v4, rfl, hown4, hb4⟩
    have HB6 := Lib.hid (HB5.out.trans (hb4.mono HB5.out.size))
    have HA4 := Lib.hid (HA.out.later hb4)
    have HL4 := Lib.hid hown4.ints
    obtain ⟨A4, c4, rfl⟩ := Rd.val hown4.ints
    rw [length_zs] at HL4 ⊢
    clear h2 hown4 hb4 HB5 HA
    by_cases h12 : 12 < t.length
    · have t1 : decide ((12 : Int) < (t.length : Int)) = true := by simp; omega
      go_wp2_with fail
      go_ret
      exact ⟨rfl, HB6.out⟩
    · have t1 : decide ((12 : Int) < (t.length : Int)) = false := by simp; omega
      have hl12 : t.length ≤ 12 := by omega
      clear h12 hl
      have hva := Fld.valid_ahead (m := m) hl12
      have HVA := Lib.hid hva
      have FA := top_facts HG.out hl12
      have SS := Lib.hid (same_spell HG.out HTT.out hl12)
      have HLA := Lib.hid (Fld.length_ahead m t)
      rw [HLA.out] at FA
      have hc := Lib.hid (check_valid (Fld.ahead m t) _ w4 HA4.out hva)
      have tne : ((t.length : Int) != (t.length : Int)) = false := by simp
      clear hva
      go_wp2_with (first | go_at_call 24; (with_reducible refine hc.out.mono ?_); rintro e w5 ⟨rfl, hb5⟩)
      have HB7 := Lib.hid (HB6.out.trans (hb5.mono HB6.out.size))
      have HA5 := Lib.hid (HA4.out.later hb5)
      have HL5 := Lib.hid (HL4.out.later hb5)
      have hr := Lib.hid (ranks_ok (Fld.ahead m t) _ w5 HA5.out HVA.out (HT.out.below HB7.out))
      rw [HLA.out] at hr
      clear hc hb5 HA4 HL4 HB6
      go_wp2_with fail
      (with_reducible refine hr.out.mono ?_)
      rintro e w6 ⟨v6, rfl, hown6, hb6⟩
      have HB8 := Lib.hid (HB7.out.trans (hb6.mono HB7.out.size))
      have HA6 := Lib.hid (HA5.out.later hb6)
      have HL6 := Lib.hid (HL5.out.later hb6)
      have HR6 := Lib.hid hown6.ints
      obtain ⟨A6, c6, rfl⟩ := Rd.val hown6.ints
      rw [length_zs, FA.lk] at HR6 ⊢
      have hi := Lib.hid (first_ok (Fld.ahead m t) _ w6 HA6.out HVA.out (HT.out.below HB8.out))
      clear hr hb6 hown6 HA5 HL5 HB7
      go_wp2_with fail
      (with_reducible refine hi.out.mono ?_)
      rintro e w7 ⟨v7, rfl, hown7, hb7⟩
      have HB9 := Lib.hid (HB8.out.trans (hb7.mono HB8.out.size))
      have HL7 := Lib.hid (HL6.out.later hb7)
      have HR7 := Lib.hid (HR6.out.later hb7)
      have HW7 := Lib.hid hown7.ints
      obtain ⟨A7, c7, rfl⟩ := Rd.val hown7.ints
      rw [length_zs, FA.lr] at HW7 ⊢
      clear hi hb7 hown7 HA6 HL6 HR6 HB8 HVA
      have HFA := Lib.hid FA
      have HV7 := Lib.hid (HV.out.later HB9.out)
      generalize Odr.lof t.length (Odr.rk (Odr.closed (Fld.ahead m t))) = rk at *
      generalize Odr.firstRow (Fld.ahead m t) = ro at *
      generalize hLS : Fld.steps m t = ls at *
      have HLS := Lib.hid hLS
      clear hLS FA
      go_wp2_with fail
      clear t1
      go_loopw [15, 16, 17] (fun mo u iv wr => ∃ i : Nat, i ≤ t.length ∧ iv = nv i ∧ mo = nv (Fld.longTo (Fld.stay m t) i) ∧ Own wr w7.heap.size u (zs (Fld.spell t (ro.take i))) ∧ Below w7.heap.size w7 wr) (fun _ _ iv _ => t.length - (intOf iv).toNat)
      case atStart => exact ⟨0, Nat.zero_le _, rfl, rfl, Own.nil _ _, Below.refl _ _⟩
      case round =>
        obtain ⟨i, hi, rfl, rfl, hu, hb⟩ := hrel
        have FA := HFA.out
        by_cases hil : i < t.length
        · obtain ⟨b1, o1, d1, he, _, g1⟩ := Ints.atN (Rd.below HW7.out hb) (k := i) (by rw [FA.lr]; exact hil)
          rw [FA.lr] at he
          cases he
          obtain ⟨b2, o2, d2, he, _, g2⟩ := Ints.atN (Rd.below HR7.out hb) (k := i) (by rw [FA.lk]; exact hil)
          rw [FA.lk] at he
          cases he
          obtain ⟨b3, o3, d3, he, _, g3⟩ := Ints.atN (Rd.below HL7.out hb) (FA.rank i hil)
          cases he
          obtain ⟨b4, o4, d4, he, _, g4⟩ := Ints.atN (Rd.below HV7.out hb) hil
          cases he
          obtain ⟨b5, o5, d5, he, _, g5⟩ := Ints.atN (Rd.below HV7.out hb) (FA.row i hil)
          cases he
          have f1 := FA.row i hil
          have f2 := FA.rank i hil
          have f3 := FA.bit i hil
          have f4 := FA.lt i hil
          have f5 := HTT.out (t.getD i 0) (by rw [List.getD_eq_getElem?_getD, List.getElem?_eq_getElem hil]; exact List.getElem_mem hil)
          have f6 := Lib.hid (FA.most i hil)
          have f7 := FA.lo i (by omega)
          have f8 := Lib.hid (spell_take (t := t) (r := ro) (i := i) (by rw [FA.lr]; exact hil))
          have fl : ls.getD (rk.getD i 0) 0 < 4096 := by
            rw [← HLS.out]
            exact fits12 (l := m) (by have := HG.out.1; omega) (Fld.Foata.lt (Fld.foata_steps HG.out HTT.out) _)
          generalize ro.getD i 0 = r at *
          generalize ls.getD (rk.getD i 0) 0 = lq at *
          generalize rk.getD i 0 = q at *
          generalize t.getD i 0 = x at *
          generalize t.getD r 0 = y at *
          generalize hM : Fld.longTo (Fld.stay m t) i = M at *
          have HB := Lib.hid hb
          have HU := Lib.hid hu
          have hul : (zs (Fld.spell t (ro.take i))).length = i := by
            rw [length_zs]; unfold Fld.spell; rw [List.length_map, List.length_take, FA.lr]; omega
          have HUL := Lib.hid hul
          clear hM hul FA
          have k1 : (i : Int) < (t.length : Int) := by omega
          have k0 : (0 : Int) ≤ (i : Int) := by omega
          have k2 : (q : Int) < (ls.length : Int) := by omega
          have k3 : (0 : Int) ≤ (q : Int) := by omega
          have k4 : (r : Int) < (t.length : Int) := by omega
          have k5 : (0 : Int) ≤ (r : Int) := by omega
          have s1 : IntKind.i64.wrap ((q : Int) + 1) = (q : Int) + 1 := IntWalk.i64_in _ (by constructor <;> omega)
          have t2 : decide ((r : Int) < 0) = false := by simp
          have t3 : decide (t.length ≤ r) = false := by simp; omega
          have t4 : decide ((q : Int) < 0) = false := by simp
          have t5 : decide (ls.length ≤ q) = false := by simp; omega
          have hB := Lib.hid fun (N : Nat) (w5 : World) => bitq lq x N w5 fl (by have := HG.out.1; omega)
          rw [f3] at hB
          clear f3 hb hu
          by_cases hmq : M < q + 1
          · have t6 : decide ((M : Int) < (q : Int) + 1) = true := by simp; omega
            have HM := Lib.hid (show Fld.longTo (Fld.stay m t) (i + 1) = q + 1 by rw [f6.out]; omega)
            clear hmq
            go_wp2_with fail
            go_quiet ((go_at_call 11; exact hB.out _ _))
            have hoX := HU.out.drewN nq
            have hbX := drn HB.out nq
            have gr : (wr.drewN nq).cell? ⟨b1, o1 + i, none⟩ = some (nv r) := g1
            have gy : (wr.drewN nq).cell? ⟨b4, o4 + r, none⟩ = some (nv y) := g5
            clear g1 g2 g3 g4 g5 hB s1
            generalize wr.drewN nq = wX at *
            have hbs := hbX.size
            go_wp2_with (at_builtin; refine append_int rfl _ _ rfl w7.heap.size _ (zs (Fld.spell t (ro.take i))) rfl (Own.alloc hoX _) wX.heap.size rfl (y : Int) (by simp) (by rw [HUL.out]; omega) (by simp; omega) ?_; intro v' w6 hown6 hb6 _)
            have HE := Lib.hid (show Own w6 w7.heap.size v' (zs (Fld.spell t (ro.take (i + 1)))) by rw [f8.out]; simpa [zs] using hown6)
            have HB6' := Lib.hid (show Below w7.heap.size w7 w6 from (hbX.alloc hbX.size _).trans hb6)
            clear hown6 hb6 hbX hoX
            go_wp2_with fail
            go_roundw
            case rel => exact ⟨i + 1, by omega, by go_num, by rw [HM.out]; go_num, HE.out, HB6'.out⟩
            case measure => simp [intOf]; omega
          · have t6 : decide ((M : Int) < (q : Int) + 1) = false := by simp; omega
            have HM := Lib.hid (show Fld.longTo (Fld.stay m t) (i + 1) = M by rw [f6.out]; omega)
            clear hmq
            go_wp2_with fail
            go_quiet ((go_at_call 11; exact hB.out _ _))
            have hoX := HU.out.drewN nq
            have hbX := drn HB.out nq
            have gr : (wr.drewN nq).cell? ⟨b1, o1 + i, none⟩ = some (nv r) := g1
            have gy : (wr.drewN nq).cell? ⟨b4, o4 + r, none⟩ = some (nv y) := g5
            clear g1 g2 g3 g4 g5 hB s1
            generalize wr.drewN nq = wX at *
            have hbs := hbX.size
            go_wp2_with (at_builtin; refine append_int rfl _ _ rfl w7.heap.size _ (zs (Fld.spell t (ro.take i))) rfl (Own.alloc hoX _) wX.heap.size rfl (y : Int) (by simp) (by rw [HUL.out]; omega) (by simp; omega) ?_; intro v' w6 hown6 hb6 _)
            have HE := Lib.hid (show Own w6 w7.heap.size v' (zs (Fld.spell t (ro.take (i + 1)))) by rw [f8.out]; simpa [zs] using hown6)
            have HB6' := Lib.hid (show Below w7.heap.size w7 w6 from (hbX.alloc hbX.size _).trans hb6)
            clear hown6 hb6 hbX hoX
            go_wp2_with fail
            go_roundw
            case rel => exact ⟨i + 1, by omega, by go_num, by rw [HM.out], HE.out, HB6'.out⟩
            case measure => simp [intOf]; omega
        · obtain rfl : i = t.length := by omega
          have HB10 := Lib.hid (HB9.out.trans (hb.mono HB9.out.size))
          have HUU := Lib.hid hu.ints
          have hro : ro.take t.length = ro := by rw [← FA.lr, List.take_length]
          rw [hro] at HUU
          have hal := Lib.hid FA.all
          rw [← hal.out]
          have hsm := Lib.hid (same_ok m _ t f _ _ wr (HF.out.later HB10.out) HUU.out (HV.out.later HB10.out) HG.out (by rw [SS.out.2.1]; omega) SS.out.2.2 (by omega) HTT.out (HT.out.below HB10.out))
          rw [HLS.out] at hsm
          rw [SS.out.1] at hsm
          clear hb hu hro hal FA
          go_wp2_with fail
          (with_reducible refine hsm.out.mono ?_)
          rintro e w8 ⟨rfl, hb8⟩
          have HB11 := Lib.hid (HB10.out.trans (hb8.mono HB10.out.size))
          clear hsm hb8
          go_wp2_with fail
          go_ret
          exact ⟨rfl, HB11.out⟩
  · have h1 := Lib.hid (fahead_err l p f _ w2 (HF.out.later HB4.out) (HV.out.later HB4.out) hcode (HT.out.below HB4.out))
    go_wp2_with fail
    (with_reducible refine h1.out.mono ?_)
    rintro e w3 ⟨rfl, hb3⟩
    have HB5 := Lib.hid (HB4.out.trans (hb3.mono HB4.out.size))
    have h2 := Lib.hid (fsteps_err l p f _ w3 (HF.out.later HB5.out) (HV.out.later HB5.out) hcode (HT.out.below HB5.out))
    clear h1 hb3 HB4 hcode
    go_wp2_with fail
    (with_reducible refine h2.out.mono ?_)
    rintro e w4 ⟨rfl, hb4⟩
    have HB6 := Lib.hid (HB5.out.trans (hb4.mono HB5.out.size))
    clear h2 hb4 HB5
    go_wp2_with fail
    go_ret
    exact ⟨rfl, HB6.out⟩
end Go.Proofs.YtoedgncbgkdmoaaDoor
