/- The walk of FoldLeast: at every input it returns true. Conditions: none beyond the table's. -/
import Derived.Test.YtoedgncbgkdmoaaDoorFLeast
import Derived.Test.YtoedgncbgkdmoaaDoorCore
namespace Go.Proofs.YtoedgncbgkdmoaaDoor
open Go.RowKit

set_option maxRecDepth 100000 in
set_option maxHeartbeats 1000000 in
theorem fleast_err (l p : List Int) (f v u : Value) (w : World) (hf : Ints w w.heap.size f l) (hv : Ints w w.heap.size v p) (hne : wordCode l p ≠ 0) (hT : Tab w) :
    Calls Tryd.prog 6 #[f, v, u] w fun e w' => e = .returned (.bool true) ∧ Below w.heap.size w w' := by
  have hfact := Lib.hid (foldFact_calls w hT)
  have HS := Lib.hid hne
  have HF := Lib.hid hf
  have HV := Lib.hid hv
  clear hne hf hv
  go_enter Tryd.func6, Tryd.ntmps6
  go_wp2_with fail
  refine hfact.out.mono ?_
  rintro e w1 ⟨rfl, hb1⟩
  have hs := Lib.hid (least_err l p f v w1 (HF.out.later hb1) (HV.out.later hb1) HS.out (hT.below hb1))
  clear hfact
  go_wp2_with fail
  refine hs.out.mono ?_
  rintro e w2 ⟨rfl, hb2⟩
  clear hs
  go_wp2_with fail
  go_ret
  exact ⟨rfl, hb1.trans (hb2.mono hb1.size)⟩
theorem getD_mem {s : List Nat} {i n : Nat} (h : ∀ x ∈ s, x < n) (hi : i < s.length) : s.getD i 0 < n := h _ (by rw [List.getD_eq_getElem?_getD, List.getElem?_eq_getElem hi]; exact List.getElem_mem hi)
set_option maxRecDepth 100000 in
set_option maxHeartbeats 8000000 in
theorem fleast_ok (m t : List Nat) (q : List Int) (f v u : Value) (w : World) (hf : Ints w w.heap.size f (zs m)) (hv : Ints w w.heap.size v (zs t)) (hu : Ints w w.heap.size u q) (hg : Fld.Good m) (hl : t.length ≤ 24) (ht : ∀ x ∈ t, x < m.length)
    (hqq : Hid (sameCode (zs m) q (zs t) ≠ 0 ∨ ∃ s, q = zs s ∧ s.length ≤ 24 ∧ ∀ x ∈ s, x < m.length)) (hT : Tab w) :
    Calls Tryd.prog 6 #[f, v, u] w fun e w' => e = .returned (.bool true) ∧ Below w.heap.size w w' := by
  have hfact := Lib.hid (foldFact_calls w hT)
  have HF := Lib.hid hf
  have HV := Lib.hid hv
  have HU := Lib.hid hu
  have HG := Lib.hid hg
  have HT := Lib.hid ht
  have HTB := Lib.hid hT
  have hn := hg.1
  obtain ⟨hle1, hle2, hle3⟩ := Fld.least_spec hg _ t rfl ht
  have HSL := Lib.hid (Fld.steps_least hg ht)
  have HSO := Lib.hid (Fld.least_sorted hg _ t rfl ht)
  have HLM := Lib.hid hle2
  have HLE := Lib.hid hle1
  obtain ⟨Af, cf, rfl⟩ := Rd.val hf
  obtain ⟨Av, cv, rfl⟩ := Rd.val hv
  obtain ⟨Au, cu, rfl⟩ := Rd.val hu
  simp only [length_zs] at HF HV ⊢
  clear hf hv hu hg ht hT hle1 hle2 hle3
  go_enter Tryd.func6, Tryd.ntmps6
  go_wp2_with fail
  refine hfact.out.mono ?_
  rintro e w1 ⟨rfl, hb1⟩
  have hs := Lib.hid (least_ok m t _ _ w1 (HF.out.later hb1) (HV.out.later hb1) HG.out hl HT.out (HTB.out.below hb1))
  clear hfact
  go_wp2_with fail
  (with_reducible refine hs.out.mono ?_)
  rintro e w2 ⟨v2, rfl, hown2, hb2⟩
  have HB2 := Lib.hid (hb1.trans (hb2.mono hb1.size))
  have HI2 := Lib.hid hown2.ints
  obtain ⟨A2, c2, rfl⟩ := Rd.val HI2.out
  rw [length_zs, HLE.out] at HI2 ⊢
  clear hs hown2 hb1 hb2
  have hsm := Lib.hid (same_ok m (Fld.least m t) t _ _ _ w2 (HF.out.later HB2.out) HI2.out (HV.out.later HB2.out) HG.out (by have := HLE.out; omega) HLM.out hl HT.out (HTB.out.below HB2.out))
  rw [show decide (Fld.steps m (Fld.least m t) = Fld.steps m t) = true by rw [HSL.out]; simp] at hsm
  have tne : ((t.length : Int) != (t.length : Int)) = false := by simp
  go_wp2_with fail
  (with_reducible refine hsm.out.mono ?_)
  rintro e w3 ⟨rfl, hb3⟩
  have HB3 := Lib.hid (HB2.out.trans (hb3.mono HB2.out.size))
  have HI3 := Lib.hid (HI2.out.later hb3)
  clear hsm hb3 HI2 HB2
  go_wp2_with fail
  clear tne
  go_loopw [12] (fun iv wr => ∃ i n : Nat, 1 ≤ i ∧ i ≤ max 1 t.length ∧ iv = nv i ∧ wr = w3.drewN n) (fun iv _ => t.length - (intOf iv).toNat)
  case atStart => exact ⟨1, 0, by omega, by omega, rfl, rfl⟩
  case round =>
    obtain ⟨i, n, hi1, hi2, rfl, rfl⟩ := hrel
    by_cases hil : i < t.length
    · skip
      obtain ⟨b2, o2, d2, he, _, hc1⟩ := Ints.atN HI3.out (k := i) (by rw [HLE.out]; exact hil)
      rw [HLE.out] at he
      cases he
      obtain ⟨b2', o2', d2', he, _, hc0⟩ := Ints.atN HI3.out (k := i - 1) (by rw [HLE.out]; omega)
      rw [HLE.out] at he
      cases he
      have ha := getD_mem HLM.out (i := i - 1) (by rw [HLE.out]; omega)
      have hb := getD_mem HLM.out (i := i) (by rw [HLE.out]; omega)
      obtain ⟨bf, of, df, he, _, hcf⟩ := Ints.atN (Rd.below HF.out HB3.out) ha
      cases he
      have hf64 : m.getD ((Fld.least m t).getD (i - 1) 0) 0 < 4096 := fits12 (l := m) (by omega) (HG.out.2.1.getD _)
      have hso := Lib.hid (HSO.out (i - 1) (by rw [HLE.out]; omega))
      rw [show i - 1 + 1 = i by omega] at hso
      have hrl := Lib.hid (show Odr.rel m ((Fld.least m t).getD (i - 1) 0) ((Fld.least m t).getD i 0) = (m.getD ((Fld.least m t).getD (i - 1) 0) 0).testBit ((Fld.least m t).getD i 0) from rfl)
      rw [hrl.out] at hso
      clear hrl
      generalize (Fld.least m t).getD (i - 1) 0 = a at *
      generalize (Fld.least m t).getD i 0 = b at *
      generalize m.getD a 0 = fa at *
      have e1 : IntKind.i64.wrap ((i : Int) - 1) = (i : Int) - 1 := IntWalk.i64_in _ (by constructor <;> omega)
      have e2 : (0 : Int) ≤ (i : Int) - 1 := by omega
      have e2' : (1 : Int) ≤ (i : Int) := by omega
      have e3 : ((i : Int) - 1).toNat = i - 1 := by omega
      have e4 : (i : Int) - 1 < (t.length : Int) := by omega
      have k1 : (i : Int) < (t.length : Int) := by omega
      have k4 : (0 : Int) ≤ (i : Int) := by omega
      have a1 : (a : Int) < (m.length : Int) := by omega
      have a2 : (0 : Int) ≤ (a : Int) := by omega
      by_cases hab : b < a
      · have t1 : decide (b < a) = true := by simpa using hab
        have hfb : fa.testBit b = false := by
          by_cases h : fa.testBit b = true
          · have := hso.out h; omega
          · simpa using h
        have hB := Lib.hid fun (N y : Nat) (w5 : World) => (bit12 fa b (w5.drewN (N + y)) hf64 (by omega)).mono (R' := fun e w'' => e = .returned (.bool (fa.testBit b)) ∧ ∃ m, w'' = w5.drewN (N + m)) fun _ _ ⟨x, z⟩ => ⟨x, y, z.symm⟩
        rw [hfb] at hB
        clear hfb hso hab
        go_wp2_with fail
        go_quiet ((go_at_call 11; exact hB.out _ _ _))
        clear e1 e2 e2' e3 e4
        go_wp2_with fail
        go_roundw
        case rel => exact ⟨i + 1, _, by omega, by omega, by go_num, rfl⟩
        case measure => simp [intOf]; omega
      · have t1 : decide (b < a) = false := by simpa using hab
        clear hso hab
        go_wp2_with fail
        go_quiet (fail)
        clear e1 e2 e2' e3 e4
        go_wp2_with fail
        go_roundw
        case rel => exact ⟨i + 1, _, by omega, by omega, by go_num, rfl⟩
        case measure => simp [intOf]; omega
    · have HB4 := Lib.hid (drn HB3.out n)
      have HI4 := Lib.hid (show Ints (w3.drewN n) (w3.drewN n).heap.size (.slice A2 t.length c2) (zs (Fld.least m t)) from HI3.out)
      have t0 : decide ((i : Int) < (t.length : Int)) = false := by simp; omega
      generalize w3.drewN n = w4 at *
      clear HI3 HB3 hi1 hi2
      have tne : ((t.length : Int) != (t.length : Int)) = false := by simp
      have t0' : ¬ i < t.length := by omega
      clear hil
      rcases hqq.out with hne | ⟨s, rfl, hs24, hsm⟩
      · have hse := Lib.hid (same_err (zs m) q (zs t) _ _ _ w4 (HF.out.later HB4.out) (HU.out.later HB4.out) (HV.out.later HB4.out) hne (HTB.out.below HB4.out))
        clear hne
        go_wp2_with fail
        (with_reducible refine hse.out.mono ?_)
        rintro e w5 ⟨rfl, hb5⟩
        have HB5 := Lib.hid (HB4.out.trans (hb5.mono HB4.out.size))
        clear hse hb5
        go_wp2_with fail
        go_ret
        exact ⟨rfl, HB5.out⟩
      · rw [length_zs] at *
        have hse := Lib.hid (same_ok m s t _ _ _ w4 (HF.out.later HB4.out) (HU.out.later HB4.out) (HV.out.later HB4.out) HG.out hs24 hsm hl HT.out (HTB.out.below HB4.out))
        have HSM := Lib.hid hsm
        by_cases hst : Fld.steps m s = Fld.steps m t
        · have hal := (Fld.steps_eq_iff HG.out HSM.out HT.out).1 hst
          have HLS := Lib.hid (Fld.alike_length HG.out s t HSM.out HT.out hal)
          have HLL := Lib.hid (Fld.least_alike HG.out _ s t rfl HSM.out HT.out hal)
          have HFI := Lib.hid (Fld.least_first HG.out _ s rfl HSM.out)
          rw [HLL.out] at HFI
          rw [decide_eq_true hst] at hse
          have HU4 := Lib.hid (HU.out.later HB4.out)
          rw [HLS.out] at hse HU4 ⊢
          clear hst hal hsm
          go_wp2_with fail
          (with_reducible refine hse.out.mono ?_)
          rintro e w5 ⟨rfl, hb5⟩
          have HB5 := Lib.hid (HB4.out.trans (hb5.mono HB4.out.size))
          have HI5 := Lib.hid (HI4.out.later hb5)
          have hl2 := Lib.hid (least_ok m s _ _ w5 (HF.out.later HB5.out) (HU4.out.later hb5) HG.out hs24 HSM.out (HTB.out.below HB5.out))
          rw [HLL.out] at hl2
          have HB45 := Lib.hid hb5
          clear hse hb5 HB4 HI4
          go_wp2_with fail
          (with_reducible refine hl2.out.mono ?_)
          rintro e w6 ⟨v6, rfl, hown6, hb6⟩
          have HB6 := Lib.hid (HB5.out.trans (hb6.mono HB5.out.size))
          have HI6 := Lib.hid (HI5.out.later hb6)
          have HBU := Lib.hid (show Below w4.heap.size w4 w6 from HB45.out.trans (hb6.mono HB45.out.size))
          have hin := Lib.hid (ints_calls v6 (.slice A2 t.length c2) _ _ w6.heap.size w6 (Nat.le_refl _) hown6.ints HI6.out)
          rw [decide_eq_true rfl] at hin
          obtain ⟨A6, c6, rfl⟩ := Rd.val hown6.ints
          have hl6 : (zs (Fld.least m t)).length = t.length := by rw [length_zs, HLE.out]
          rw [hl6] at hin ⊢
          clear hl6
          clear hl2 hown6 hb6 HB5 HI5
          go_wp2_with (go_at_call 12; (with_reducible refine hin.out.mono ?_); rintro e w7 ⟨rfl, hb7⟩)
          have HB7 := Lib.hid (HB6.out.trans (hb7.mono HB6.out.size))
          have HI7 := Lib.hid (HI6.out.later hb7)
          have HU7 := Lib.hid (HU4.out.below (w' := w7) (HBU.out.trans (hb7.mono HBU.out.size)) |>.more (Nat.le_trans HBU.out.size hb7.size))
          clear hin hb7 HI6 HU4 HB6 HBU t0 t0' tne
          go_loopw [17] (fun iv wr => ∃ i n : Nat, i ≤ t.length ∧ iv = nv i ∧ Hid (∀ j, j < i → (Fld.least m t).getD j 0 = s.getD j 0) ∧ wr = w7.drewN n) (fun iv _ => t.length - (intOf iv).toNat)
          case atStart => exact ⟨0, 0, Nat.zero_le _, rfl, Lib.hid (fun j hj => by omega), rfl⟩
          case round =>
            obtain ⟨i, n, hi, rfl, hpre, rfl⟩ := hrel
            by_cases hil : i < t.length
            · obtain ⟨b2, o2, d2, he, _, hc1⟩ := Ints.atN HI7.out (k := i) (by rw [HLE.out]; exact hil)
              rw [HLE.out] at he
              cases he
              obtain ⟨b3, o3, d3, he, _, hc2⟩ := Ints.atN HU7.out (k := i) (by rw [HLS.out]; exact hil)
              rw [HLS.out] at he
              cases he
              have hfi := Lib.hid (HFI.out i (by rw [HLS.out]; exact hil) hpre.out)
              have HPN := Lib.hid fun (h : (Fld.least m t).getD i 0 = s.getD i 0) => (show ∀ j, j < i + 1 → (Fld.least m t).getD j 0 = s.getD j 0 from fun j hj => by
                by_cases hji : j < i
                · exact hpre.out j hji
                · obtain rfl : j = i := by omega
                  exact h)
              generalize (Fld.least m t).getD i 0 = a at *
              generalize s.getD i 0 = b at *
              by_cases hab : a = b
              · have t1 : ((a : Int) != (b : Int)) = false := by simp [hab]
                have HPN2 := Lib.hid (HPN.out hab)
                clear HPN hab hfi
                go_wp2_with fail
                go_quiet (fail)
                go_wp2_with fail
                go_roundw
                case rel => exact ⟨i + 1, _, by omega, by go_num, HPN2, rfl⟩
                case measure => simp [intOf]; omega
              · have t1 : ((a : Int) != (b : Int)) = true := by simp; omega
                have t2 : decide (a < b) = true := by have := hfi.out; simp; omega
                clear HPN hab hfi
                go_wp2_with fail
                go_quiet (fail)
                go_wp2_with fail
                go_quiet (fail)
                go_wp2_with fail
                go_ret
                exact ⟨rfl, drn (drn (drn HB7.out _) _) _⟩
            · go_wp2_with fail
              go_ret
              exact ⟨rfl, drn HB7.out n⟩
        · rw [decide_eq_false hst] at hse
          clear hst hsm
          go_wp2_with fail
          (with_reducible refine hse.out.mono ?_)
          rintro e w5 ⟨rfl, hb5⟩
          have HB5 := Lib.hid (HB4.out.trans (hb5.mono HB4.out.size))
          clear hse hb5
          go_wp2_with fail
          go_ret
          exact ⟨rfl, HB5.out⟩
theorem fleast_calls (l p q : List Int) (f v u : Value) (w : World) (hf : Ints w w.heap.size f l) (hv : Ints w w.heap.size v p) (hu : Ints w w.heap.size u q) (hT : Tab w) :
    Calls Tryd.prog 6 #[f, v, u] w fun e w' => e = .returned (.bool true) ∧ Below w.heap.size w w' := by
  by_cases h : wordCode l p = 0
  · obtain ⟨m, t, rfl, rfl, hg, hl, ht⟩ := wordCode_zero h
    refine fleast_ok m t q f v u w hf hv hu hg hl ht ?_ hT
    by_cases hs : sameCode (zs m) q (zs t) = 0
    · refine .inr ?_
      have hq0 : wordCode (zs m) q = 0 := by
        by_cases hq : wordCode (zs m) q = 0
        · exact hq
        · unfold sameCode at hs
          rw [if_pos hq] at hs
          exact hs
      obtain ⟨m', s, e1, e2, _, h2, h3⟩ := wordCode_zero hq0
      obtain rfl := zs_inj e1
      exact ⟨s, e2, h2, h3⟩
    · exact .inl hs
  · exact fleast_err l p f v u w hf hv h hT
end Go.Proofs.YtoedgncbgkdmoaaDoor
