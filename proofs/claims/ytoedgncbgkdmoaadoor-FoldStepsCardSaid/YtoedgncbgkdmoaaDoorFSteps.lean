/- The walk of FoldSteps: at every input it returns true. Conditions: none beyond the table's. -/
import Derived.Test.YtoedgncbgkdmoaaDoorFSwaps
import Derived.Test.YtoedgncbgkdmoaaDoorFoldA
namespace Go.Proofs.YtoedgncbgkdmoaaDoor
open Go.RowKit

namespace Fld
open Odr
/-- is a letter of a step tied to one, of the first n, of the step ahead? -/
def tiedTo (m l : List Nat) (k x : Nat) : Nat → Bool
  | 0 => decide (k = 0)
  | y + 1 => tiedTo m l k x y || (decide (0 < k) && (rel l (k - 1) y && !rel m x y))
theorem tiedTo_of {m l : List Nat} {k x y n : Nat} (h1 : rel l k y = true) (h2 : rel m x y = false) (hy : y < n) : tiedTo m l (k + 1) x n = true := by
  induction n with
  | zero => omega
  | succ n ih =>
    rw [tiedTo]
    by_cases e : y = n
    · subst e
      rw [Nat.add_sub_cancel, h1, h2]; simp
    · rw [ih (by omega)]; rfl
theorem tiedTo_zero (m l : List Nat) (x n : Nat) : tiedTo m l 0 x n = true := by
  induction n with
  | zero => rfl
  | succ n ih => rw [tiedTo, ih]; rfl
theorem Foata.tied {m l : List Nat} (h : Foata m l) {k x : Nat} (hx : rel l k x = true) : tiedTo m l k x m.length = true := by
  cases k with
  | zero => exact tiedTo_zero m l x _
  | succ k =>
    obtain ⟨y, hy, hf⟩ := h.2.2.2 k x hx
    exact tiedTo_of hy hf (h.1 k y hy)
/-- the letters below n of a step -/
def letsTo (x n : Nat) : List Nat := (List.range n).filter x.testBit
theorem letsTo_succ (x n : Nat) : letsTo x (n + 1) = letsTo x n ++ (if x.testBit n = true then [n] else []) := by
  unfold letsTo
  rw [List.range_succ, List.filter_append]
  congr 1
  rw [List.filter_cons]
  rfl
theorem length_letsTo (x n : Nat) : (letsTo x n).length ≤ n := by
  unfold letsTo
  have := List.length_filter_le x.testBit (List.range n)
  rwa [List.length_range] at this
theorem length_flat (n : Nat) (l : List Nat) : (flat n l).length ≤ n * l.length := by
  unfold flat
  induction l with
  | nil => simp
  | cons x l ih =>
    rw [List.flatMap_cons, List.length_append, List.length_cons]
    have := length_letsTo x n
    unfold letsTo at this
    unfold lets
    rw [Nat.mul_succ]
    unfold lets at ih
    omega
theorem flat_step (n : Nat) (l : List Nat) {k : Nat} (hk : k < l.length) : flat n (l.take (k + 1)) = flat n (l.take k) ++ letsTo (l.getD k 0) n := by
  rw [take_succ_getD l hk, flat_snoc]
  rfl
/-- ranks, one more than they are, while they are found -/
def rcells (R : Nat → Nat → Bool) (n j v : Nat) : List Nat := (List.range n).map fun p => if p < j then rkAt R p + 1 else if p = j then v else 0
theorem length_rcells (R : Nat → Nat → Bool) (n j v : Nat) : (rcells R n j v).length = n := by simp [rcells]
theorem getD_rcells (R : Nat → Nat → Bool) {n j v p : Nat} (hp : p < n) : (rcells R n j v).getD p 0 = if p < j then rkAt R p + 1 else if p = j then v else 0 := by
  unfold rcells
  rw [List.getD_eq_getElem?_getD, List.getElem?_map, List.getElem?_range hp]
  rfl
theorem rcells_zero (R : Nat → Nat → Bool) (n : Nat) : rcells R n 0 0 = List.replicate n 0 := by
  apply List.ext_getElem (by simp [rcells])
  intro i h1 h2
  simp [rcells]
theorem ext_getD {l m : List Nat} (h : l.length = m.length) (h' : ∀ i, i < l.length → l.getD i 0 = m.getD i 0) : l = m := by
  apply List.ext_getElem h
  intro i h1 h2
  have := h' i h1
  rw [List.getD_eq_getElem?_getD, List.getD_eq_getElem?_getD, List.getElem?_eq_getElem h1, List.getElem?_eq_getElem h2] at this
  exact this
theorem getD_set (l : List Nat) (i j x : Nat) : (l.set i x).getD j 0 = if i = j ∧ i < l.length then x else l.getD j 0 := by
  rw [List.getD_eq_getElem?_getD, List.getD_eq_getElem?_getD, List.getElem?_set]
  by_cases h : i = j
  · subst h
    by_cases hl : i < l.length
    · simp [hl]
    · simp [hl]
  · simp [h]
theorem rcells_set (R : Nat → Nat → Bool) (n j v u : Nat) : (rcells R n j v).set j u = rcells R n j u := by
  refine ext_getD (by rw [List.length_set, length_rcells, length_rcells]) fun i hi => ?_
  rw [List.length_set, length_rcells] at hi
  rw [getD_set, length_rcells, getD_rcells R hi, getD_rcells R hi]
  by_cases e : j = i
  · subst e; simp [hi]
  · rw [if_neg (fun h => e h.1)]
    by_cases h : i < j
    · rw [if_pos h, if_pos h]
    · rw [if_neg h, if_neg h, if_neg (fun h => e h.symm), if_neg (fun h => e h.symm)]
theorem rcells_next (R : Nat → Nat → Bool) (n j : Nat) : rcells R n j (rkAt R j + 1) = rcells R n (j + 1) 0 := by
  unfold rcells
  apply List.map_congr_left
  intro p _
  by_cases h : p < j
  · rw [if_pos h, if_pos (by omega)]
  · rw [if_neg h]
    by_cases e : p = j
    · subst e; rw [if_pos rfl, if_pos (by omega)]
    · rw [if_neg e, if_neg (by omega)]; split <;> rfl
end Fld

theorem bitgq (s i n : Nat) (w : World) (hs : s < 2 ^ 63) (hi : i < 2 ^ 62) : Calls Tryd.prog 11 #[nv s, nv i] (w.drewN n) fun e w'' => e = .returned (.bool (s.testBit i)) ∧ ∃ m, w'' = w.drewN m :=
  Calls.quiet_of_same ((bit_calls s i (w.drewN n) hs hi).mono fun _ _ ⟨a, b⟩ => ⟨a, b.symm⟩)
set_option maxRecDepth 100000 in
set_option maxHeartbeats 1000000 in
theorem steps_err (l p : List Int) (f v : Value) (w : World) (hf : Ints w w.heap.size f l) (hv : Ints w w.heap.size v p) (hne : wordCode l p ≠ 0) (hT : Tab w) :
    Calls Tryd.prog 5 #[f, v] w fun e w' => e = .returned (.bool true) ∧ Below w.heap.size w w' := by
  have hfact := Lib.hid (foldFact_calls w hT)
  have HS := Lib.hid hne
  have HF := Lib.hid hf
  have HV := Lib.hid hv
  clear hne hf hv
  go_enter Tryd.func5, Tryd.ntmps5
  go_wp2_with fail
  refine hfact.out.mono ?_
  rintro e w1 ⟨rfl, hb1⟩
  have hs := Lib.hid (fsteps_err l p f v w1 (HF.out.later hb1) (HV.out.later hb1) HS.out (hT.below hb1))
  clear hfact
  go_wp2_with fail
  refine hs.out.mono ?_
  rintro e w2 ⟨rfl, hb2⟩
  have hb12 := hb1.trans (hb2.mono hb1.size)
  have ha := Lib.hid (fahead_err l p f v w2 (HF.out.later hb12) (HV.out.later hb12) HS.out (hT.below hb12))
  clear hs
  go_wp2_with fail
  refine ha.out.mono ?_
  rintro e w3 ⟨rfl, hb3⟩
  clear ha
  go_wp2_with fail
  go_ret
  exact ⟨rfl, hb12.trans (hb3.mono hb12.size)⟩

set_option maxRecDepth 100000 in
set_option maxHeartbeats 60000000 in
theorem steps_ok (m t : List Nat) (f v : Value) (w : World) (hf : Ints w w.heap.size f (zs m)) (hv : Ints w w.heap.size v (zs t)) (hg : Fld.Good m) (hl : t.length ≤ 24) (ht : ∀ x ∈ t, x < m.length) (hT : Tab w) :
    Calls Tryd.prog 5 #[f, v] w fun e w' => e = .returned (.bool true) ∧ Below w.heap.size w w' := by
  have hfact := Lib.hid (foldFact_calls w hT)
  have hlen := Fld.length_steps (w := t) hg
  have HFO := Lib.hid (Fld.foata_steps hg ht)
  have hsf := Lib.hid (Fld.steps_flat hg ht)
  have HF := Lib.hid hf
  have HV := Lib.hid hv
  have HG := Lib.hid hg
  have HT := Lib.hid ht
  have HTB := Lib.hid hT
  have hn := hg.1
  obtain ⟨Af, capf, rfl⟩ := Rd.val hf
  obtain ⟨Av, capv, rfl⟩ := Rd.val hv
  simp only [length_zs] at HF HV ⊢
  clear hf hv hg ht hT
  go_enter Tryd.func5, Tryd.ntmps5
  go_wp2_with fail
  refine hfact.out.mono ?_
  rintro e w1 ⟨rfl, hb1⟩
  have hs := Lib.hid (fsteps_ok m t _ _ w1 (HF.out.later hb1) (HV.out.later hb1) HG.out hl HT.out (HTB.out.below hb1))
  clear hfact
  go_wp2_with fail
  (with_reducible refine hs.out.mono ?_)
  rintro e w2 ⟨v2, rfl, hown2, hb2⟩
  have hb12 := hb1.trans (hb2.mono hb1.size)
  have ha := Lib.hid (fahead_ok m t _ _ w2 (HF.out.later hb12) (HV.out.later hb12) HG.out hl HT.out (HTB.out.below hb12))
  clear hs hb1
  go_wp2_with fail
  (with_reducible refine ha.out.mono ?_)
  rintro e w3 ⟨v3, rfl, hown3, hb3⟩
  have hbb := hb12.trans (hb3.mono hb12.size)
  have HI2 := Lib.hid (hown2.ints.later hb3)
  have HI3 := Lib.hid hown3.ints
  clear ha hb12 hown2 hown3 hb2 hb3
  obtain ⟨A2, c2, rfl⟩ := Rd.val HI2.out
  obtain ⟨A3, c3, rfl⟩ := Rd.val HI3.out
  simp only [length_zs, Fld.length_ahead] at HI2 HI3 ⊢
  have hl24 : (Fld.steps m t).length ≤ 24 := by
    have : ∀ j, Fld.longTo (Fld.stay m t) j ≤ j := by
      intro j
      induction j with
      | zero => exact Nat.le_refl _
      | succ j ih =>
        rw [Fld.longTo]
        have := Fld.rkAt_le (Fld.stay m t) j
        omega
    have := this t.length
    omega
  have HLEN := Lib.hid hlen
  clear hlen
  obtain ⟨l, hle⟩ : ∃ l, l = Fld.steps m t := ⟨_, rfl⟩
  rw [← hle] at HI2 hl24 HLEN HFO hsf ⊢
  have HLE := Lib.hid hle
  clear hle
  go_wp2_with fail
  go_loopw [10, 11] (fun o i wr => ∃ k : Nat, k ≤ l.length ∧ i = nv k ∧ Own wr w3.heap.size o (zs (Fld.flat m.length (l.take k))) ∧ Below w3.heap.size w3 wr) (fun _ i _ => l.length - (intOf i).toNat)
  case atStart => exact ⟨0, Nat.zero_le _, rfl, Own.nil _ _, Below.refl _ _⟩
  case round =>
    obtain ⟨k, hk, rfl, hown, hb⟩ := hrel
    by_cases hkl : k < l.length
    · obtain ⟨wo, rfl⟩ : ∃ wo : World, wo = wr := ⟨_, rfl⟩
      obtain ⟨b2, o2, d2, he, _, hc2⟩ := Ints.atN (Rd.below HI2.out hb) hkl
      cases he
      have hlk := HFO.out.lt k
      have hlk0 := HFO.out.pos hkl
      have h26 : 2 ^ m.length ≤ 2 ^ 6 := Nat.pow_le_pow_right (by omega) hn
      obtain ⟨lk, hlke⟩ : ∃ lk, lk = l.getD k 0 := ⟨_, rfl⟩
      rw [← hlke] at hc2 hlk hlk0
      have HLK := Lib.hid hlke
      have hlk64 : lk < 64 := by omega
      have hd1 : decide ((lk : Int) < 1) = false := by simp; omega
      have hd2 : decide ((63 : Int) < (lk : Int)) = false := by simp; omega
      have hfk := Lib.hid (Fld.length_flat m.length (l.take k))
      have hfl : (Fld.flat m.length (l.take k)).length ≤ 6 * 24 := by
        have h1 := hfk.out
        rw [List.length_take] at h1
        have h2 : m.length * min k l.length ≤ 6 * 24 := Nat.mul_le_mul hn (by omega)
        omega
      have hnx := Lib.hid (Fld.flat_step m.length l hkl)
      clear hlke hlk h26
      go_wp2_with fail
      clear hd1 hd2 hlk0
      go_loopw [10, 12] (fun o i wr => ∃ x : Nat, x ≤ m.length ∧ i = nv x ∧ Own wr w3.heap.size o (zs (Fld.flat m.length (l.take k) ++ Fld.letsTo lk x)) ∧ Below w3.heap.size w3 wr) (fun _ i _ => m.length - (intOf i).toNat)
      case atStart => exact ⟨0, Nat.zero_le _, rfl, by simpa [Fld.letsTo] using hown, hb⟩
      case round =>
        clear hown hb hc2
        obtain ⟨x, hx, rfl, hown, hb⟩ := hrel
        have hbs := hb.size
        by_cases hxl : x < m.length
        · obtain ⟨b2', o2', d2', he, hB2, hc2⟩ := Ints.atN (Rd.below HI2.out hb) hkl
          cases he
          rw [← HLK.out] at hc2
          have hsn := Lib.hid (Fld.letsTo_succ lk x)
          have hll := Fld.length_letsTo lk x
          by_cases hbit : lk.testBit x = true
          · have hs2 := Lib.hid (show Fld.flat m.length (l.take k) ++ Fld.letsTo lk (x + 1) = (Fld.flat m.length (l.take k) ++ Fld.letsTo lk x) ++ [x] by rw [hsn.out, if_pos hbit, List.append_assoc])
            have hfl2 : (Fld.flat m.length (l.take k) ++ Fld.letsTo lk x).length ≤ 200 := by rw [List.length_append]; omega
            have htd := Lib.hid (HFO.out.tied (k := k) (x := x) (by unfold Odr.rel; rw [← HLK.out]; exact hbit))
            have hin := Lib.hid (fun y (h1 : lk.testBit y = true) (h2 : y ≠ x) => HFO.out.2.2.1 k x y (by unfold Odr.rel; rw [← HLK.out]; exact hbit) (by unfold Odr.rel; rw [← HLK.out]; exact h1) (fun e => h2 e.symm))
            generalize hU : Fld.flat m.length (l.take k) ++ Fld.letsTo lk x = U at *
            clear hU
            obtain ⟨w5, rfl⟩ : ∃ w5 : World, w5 = wr := ⟨_, rfl⟩
            go_wp2_with (first | (go_at_call 11; refine (bit12 _ _ _ (by omega) (by omega)).mono ?_; rintro e w' ⟨rfl, rfl⟩) | (at_builtin; refine append_int rfl _ _ rfl w3.heap.size _ (zs U) rfl (Own.alloc hown _) w5.heap.size rfl (x : Int) (by simp) (by rw [length_zs]; omega) (by simp; omega) ?_; intro v' w6 hown6 hb6 _))
            have hb7 := (hb.alloc hbs (.cells #[nv x] 3)).trans hb6
            have HO6 := Lib.hid (show Own w6 w3.heap.size v' (zs (Fld.flat m.length (l.take k) ++ Fld.letsTo lk (x + 1))) by rw [hs2.out]; simpa [zs] using hown6)
            have HB7 := Lib.hid hb7
            obtain ⟨b3, o3, d3, he, _, hcf⟩ := Ints.atN (Rd.below HF.out (hbb.trans (hb7.mono hbb.size))) hxl
            cases he
            have hc2' := (hb7.cell (p := ⟨b2, o2 + k, none⟩) hB2)
            have hc2w := (hb.cell (p := ⟨b2, o2 + k, none⟩) hB2)
            rw [hc2] at hc2w
            rw [← hc2w] at hc2'
            have hfx := HG.out.2.1.getD x
            have hfx64 : m.getD x 0 < 4096 := fits12 (l := m) (by omega) hfx
            have hrf := Lib.hid (fun y => (show Odr.rel m x y = (m.getD x 0).testBit y from rfl))
            generalize m.getD x 0 = fx at *
            have hlp : ∃ lp : Nat, lp = l.getD (k - 1) 0 ∧ lp < 4096 ∧ (0 < k → w6.cell? ⟨b2, o2 + (k - 1), none⟩ = some (nv lp)) := by
              refine ⟨_, rfl, ?_, fun h0 => ?_⟩
              · have h1 := HFO.out.lt (k - 1)
                have h2 : 2 ^ m.length ≤ 2 ^ 6 := Nat.pow_le_pow_right (by omega) hn
                omega
              · obtain ⟨b4, o4, d4, he, _, hc4⟩ := Ints.atN (Rd.below HI2.out hb7) (k := k - 1) (by omega)
                cases he
                exact hc4
            obtain ⟨lp, hlpe, hlp12, hcp⟩ := hlp
            have HLP := Lib.hid hlpe
            have HCP := Lib.hid hcp
            clear hown hown6 hb6 hb hsn hs2 hbs hfl2 hbit hb7 hlpe hcp hfx hc2w hc2
            go_loop [13, 14] (fun td yv => ∃ (y : Nat) (b : Bool), y ≤ m.length ∧ yv = nv y ∧ td = .bool b ∧ Hid (b = Fld.tiedTo m l k x y)) (fun _ y => m.length - (intOf y).toNat)
            case atStart => exact ⟨0, ((k : Int) == 0), Nat.zero_le _, rfl, rfl, Lib.hid (by rw [Fld.tiedTo, Bool.eq_iff_iff]; simp)⟩
            case round =>
              obtain ⟨y, tb, hy, rfl, rfl, htb⟩ := hrel
              by_cases hyl : y < m.length
              · have hnt := Lib.hid (show Fld.tiedTo m l k x (y + 1) = (tb || (decide (0 < k) && (lp.testBit y && !fx.testBit y))) by rw [Fld.tiedTo, ← htb.out, hrf.out y, HLP.out]; rfl)
                have hA : (((y : Int) != (x : Int)) = false) ∨ (((y : Int) != (x : Int)) = true ∧ lk.testBit y = false) ∨ (((y : Int) != (x : Int)) = true ∧ lk.testBit y = true ∧ fx.testBit y = true) := by
                  by_cases h : y = x
                  · exact .inl (by simp; omega)
                  · cases h2 : lk.testBit y
                    · exact .inr (.inl ⟨by simp; omega, rfl⟩)
                    · exact .inr (.inr ⟨by simp; omega, rfl, by rw [← hrf.out y]; exact hin.out y h2 h⟩)
                have hB : (tb = true ∧ Hid (Fld.tiedTo m l k x (y + 1) = true)) ∨ (tb = false ∧ (decide ((0 : Int) < (k : Int)) = false ∧ decide (0 < k) = false) ∧ Hid (Fld.tiedTo m l k x (y + 1) = false)) ∨
                    (tb = false ∧ 0 < k ∧ lp.testBit y = false ∧ Hid (Fld.tiedTo m l k x (y + 1) = false)) ∨ (tb = false ∧ 0 < k ∧ lp.testBit y = true ∧ fx.testBit y = true ∧ Hid (Fld.tiedTo m l k x (y + 1) = false)) ∨ (tb = false ∧ 0 < k ∧ lp.testBit y = true ∧ fx.testBit y = false ∧ Hid (Fld.tiedTo m l k x (y + 1) = true)) := by
                  rw [hnt.out]
                  cases tb
                  · by_cases h : k = 0
                    · exact .inr (.inl ⟨rfl, ⟨by simp; omega, by simp; omega⟩, Lib.hid (by simp [h])⟩)
                    · cases h2 : lp.testBit y
                      · exact .inr (.inr (.inl ⟨rfl, by omega, rfl, Lib.hid (by simp)⟩))
                      · cases h3 : fx.testBit y
                        · exact .inr (.inr (.inr (.inr ⟨rfl, by omega, rfl, rfl, Lib.hid (by simp; omega)⟩)))
                        · exact .inr (.inr (.inr (.inl ⟨rfl, by omega, rfl, rfl, Lib.hid (by simp)⟩)))
                  · exact .inl ⟨rfl, Lib.hid rfl⟩
                clear htb hnt
                rcases hA with hA | ⟨hA, hA2⟩ | ⟨hA, hA2, hA3⟩
                all_goals rcases hB with ⟨rfl, hT⟩ | ⟨rfl, ⟨hk0, hk1⟩, hT⟩ | ⟨rfl, hk0, hB2, hT⟩ | ⟨rfl, hk0, hB2, hF, hT⟩ | ⟨rfl, hk0, hB2, hF, hT⟩
                all_goals first | (exact absurd (hA3.symm.trans hF) (by decide)) | skip
                all_goals first | (have hcp := HCP.out hk0) | skip
                all_goals
                  go_wp2_with (go_at_call 11; refine (bit12 _ _ _ (by omega) (by omega)).mono ?_; rintro e w' ⟨rfl, rfl⟩)
                  go_round
                  case rel => exact ⟨y + 1, _, by omega, by go_num, rfl, Lib.hid hT.out.symm⟩
                  case measure => simp [intOf]; omega
              · obtain rfl : y = m.length := by omega
                clear hyl
                have hbt : tb = true := htb.out.trans htd.out
                subst hbt
                clear htb
                go_wp2_with fail
                go_roundw
                case rel => exact ⟨x + 1, by omega, by go_num, HO6.out, HB7.out⟩
                case measure => simp [intOf]; omega
          · have hbit' : lk.testBit x = false := by simpa using hbit
            have hs2 := Lib.hid (show Fld.letsTo lk (x + 1) = Fld.letsTo lk x by rw [hsn.out, hbit']; simp)
            clear hbit hsn
            go_wp2_with (go_at_call 11; refine (bit12 _ _ _ (by omega) (by omega)).mono ?_; rintro e w' ⟨rfl, rfl⟩)
            go_roundw
            case rel => exact ⟨x + 1, by omega, by go_num, by rw [hs2.out]; exact hown, hb⟩
            case measure => simp [intOf]; omega
        · obtain rfl : x = m.length := by omega
          clear hxl
          have e := hnx.out
          rw [← HLK.out] at e
          rw [← e] at hown
          clear e
          go_wp2_with fail
          go_roundw
          case rel => exact ⟨k + 1, by omega, by go_num, hown, hb⟩
          case measure => simp [intOf]; omega
    · obtain rfl : k = l.length := by omega
      rw [List.take_length] at hown
      clear hkl
      have hlf : (Fld.flat m.length l).length = t.length := by
        have h1 := (Fld.steps_eq_iff HG.out Fld.mem_flat HT.out).1 (by rw [hsf.out, ← HLE.out])
        exact Fld.alike_length HG.out _ _ Fld.mem_flat HT.out h1
      have hi := hown.ints
      obtain ⟨Au, cu, rfl⟩ := Rd.val hi
      have hb3 := hbb.trans (hb.mono hbb.size)
      have hsm := Lib.hid (same_ok m (Fld.flat m.length l) t _ _ _ wr (HF.out.later hb3) hi (HV.out.later hb3) HG.out (by omega) Fld.mem_flat hl HT.out (HTB.out.below hb3))
      rw [show decide (Fld.steps m (Fld.flat m.length l) = Fld.steps m t) = true by rw [hsf.out, ← HLE.out]; simp] at hsm
      have HB3 := Lib.hid hb3
      have HI3' := Lib.hid (HI3.out.later hb)
      clear hown hi hb hb3 hlf
      rw [length_zs] at hsm ⊢
      go_wp2_with fail
      (with_reducible refine hsm.out.mono ?_)
      rintro e w7 ⟨rfl, hb7⟩
      have hb8 := HB3.out.trans (hb7.mono HB3.out.size)
      have HA := Lib.hid (HI3'.out.later hb7)
      clear hsm hb7
      have hbs8 := hb8.size
      go_wp2_with (at_make; refine make_ints rfl _ _ rfl w7.heap.size t.length rfl rfl (by omega) (Nat.le_refl _) ?_; intro w8 hown8 hb9)
      have hown0 : Own w8 w7.heap.size (.slice (some ⟨w7.heap.size, 0, none⟩) t.length t.length) (zs (Fld.rcells (Fld.stay m t) t.length 0 0)) := by
        rw [Fld.rcells_zero]
        simpa [zs] using hown8
      have HB8 := Lib.hid hb8
      clear hown8 hb8 hbs8
      generalize hgg : w7.heap.size = g at *
      have HGG := Lib.hid hgg
      clear hgg
      go_loopw [17, 19] (fun lg iv wr => ∃ j : Nat, j ≤ t.length ∧ iv = nv j ∧ lg = nv (Fld.longTo (Fld.stay m t) j) ∧ Own wr g (.slice (some ⟨g, 0, none⟩) t.length t.length) (zs (Fld.rcells (Fld.stay m t) t.length j 0)) ∧ Below g w7 wr) (fun _ iv _ => t.length - (intOf iv).toNat)
      case atStart => exact ⟨0, Nat.zero_le _, rfl, rfl, hown0, hb9⟩
      case round =>
        clear hown0 hb9
        obtain ⟨j, hj, rfl, rfl, hown, hb⟩ := hrel
        by_cases hjl : j < t.length
        · obtain ⟨wo, rfl⟩ : ∃ wo : World, wo = wr := ⟨_, rfl⟩
          obtain ⟨gb, gs, gc, gf, gst⟩ := Own.lit hown
          have gj := gc j (by rw [length_zs, Fld.length_rcells]; exact hjl)
          rw [zs_getElem, Fld.getD_rcells _ hjl, if_neg (by omega), if_pos rfl] at gj
          have gfj := gf j
          have HO1 := Lib.hid (show Own (wo.setCell ⟨g, j, none⟩ (.int .i64 1)) g (.slice (some ⟨g, 0, none⟩) t.length t.length) (zs (Fld.rcells (Fld.stay m t) t.length j (Fld.rankTo (Fld.stay m t) (Fld.ranks (Fld.stay m t) j) j 0 + 1))) by
            have h := gst j ((1 : Nat) : Int)
            rw [zs_set, Fld.rcells_set] at h
            exact h)
          have HB1 := Lib.hid (hb.setCell (p := ⟨g, j, none⟩) gb (.int .i64 1))
          have hlb : Fld.longTo (Fld.stay m t) j ≤ 24 := by
            have : ∀ j, Fld.longTo (Fld.stay m t) j ≤ j := by
              intro j
              induction j with
              | zero => exact Nat.le_refl _
              | succ j ih =>
                rw [Fld.longTo]
                have := Fld.rkAt_le (Fld.stay m t) j
                omega
            have := this j
            omega
          have hln := Lib.hid (show Fld.longTo (Fld.stay m t) (j + 1) = max (Fld.longTo (Fld.stay m t) j) (Fld.rkAt (Fld.stay m t) j + 1) from rfl)
          have hrk := Fld.rkAt_le (Fld.stay m t) j
          generalize Fld.longTo (Fld.stay m t) j = lg at *
          clear gc gf gst hown hb
          go_wp2_with fail
          clear gj gfj
          go_loopw [20] (fun iv wr => ∃ i : Nat, i ≤ j ∧ iv = nv i ∧ Own wr g (.slice (some ⟨g, 0, none⟩) t.length t.length) (zs (Fld.rcells (Fld.stay m t) t.length j (Fld.rankTo (Fld.stay m t) (Fld.ranks (Fld.stay m t) j) j i + 1))) ∧ Below g w7 wr) (fun iv _ => j - (intOf iv).toNat)
          case atStart => exact ⟨0, Nat.zero_le _, rfl, HO1.out, HB1.out⟩
          case round =>
            clear HO1 HB1
            obtain ⟨i, hi, rfl, hown, hb⟩ := hrel
            obtain ⟨gb, gs, gc, gf, gst⟩ := Own.lit hown
            by_cases hij : i < j
            · obtain ⟨b4, o4, d4, he, _, hca⟩ := Ints.atN (Rd.below HA.out hb) (k := i) (by rw [Fld.length_ahead]; omega)
              rw [Fld.length_ahead] at he
              cases he
              have hal := (Fld.fits_ahead m t).getD i
              rw [Fld.length_ahead] at hal
              have h24 : 2 ^ t.length ≤ 2 ^ 24 := Nat.pow_le_pow_right (by omega) hl
              have hrel := Lib.hid (show ((Fld.ahead m t).getD i 0).testBit j = Fld.stay m t i j by
                have h := Fld.rel_ahead m t i j
                unfold Odr.rel at h
                rw [Bool.eq_iff_iff, h]
                exact ⟨fun h => h.2.2, fun h => ⟨hij, hjl, h⟩⟩)
              have ha63 : (Fld.ahead m t).getD i 0 < 2 ^ 25 := by omega
              clear hal h24
              generalize (Fld.ahead m t).getD i 0 = av at *
              have gi := gc i (by rw [length_zs, Fld.length_rcells]; omega)
              rw [zs_getElem, Fld.getD_rcells _ (by omega), if_pos hij] at gi
              have gj := gc j (by rw [length_zs, Fld.length_rcells]; exact hjl)
              rw [zs_getElem, Fld.getD_rcells _ hjl, if_neg (by omega), if_pos rfl] at gj
              have gfj := gf j
              have hri := Fld.rkAt_le (Fld.stay m t) i
              have hrj : Fld.rankTo (Fld.stay m t) (Fld.ranks (Fld.stay m t) j) j i ≤ 24 := by
                rcases Fld.rankTo_at (Fld.stay m t) (Fld.ranks (Fld.stay m t) j) j i with h | ⟨p, hp, _, h⟩
                · omega
                · rw [Fld.getD_ranks _ (by omega)] at h
                  have := Fld.rkAt_le (Fld.stay m t) p
                  omega
              have hsu := Lib.hid (show Fld.rankTo (Fld.stay m t) (Fld.ranks (Fld.stay m t) j) j (i + 1) + 1 = if Fld.stay m t i j = true ∧ Fld.rankTo (Fld.stay m t) (Fld.ranks (Fld.stay m t) j) j i + 1 < Fld.rkAt (Fld.stay m t) i + 1 + 1 then Fld.rkAt (Fld.stay m t) i + 1 + 1 else Fld.rankTo (Fld.stay m t) (Fld.ranks (Fld.stay m t) j) j i + 1 by
                rw [Fld.rankTo, Fld.getD_ranks _ hij]
                by_cases h : Fld.stay m t i j = true ∧ Fld.rankTo (Fld.stay m t) (Fld.ranks (Fld.stay m t) j) j i < Fld.rkAt (Fld.stay m t) i + 1
                · rw [if_pos h, if_pos ⟨h.1, by omega⟩]
                · rw [if_neg h, if_neg (fun hh => h ⟨hh.1, by omega⟩)])
              have hset := Lib.hid (fun n u => show Own ((wr.drewN n).setCell ⟨g, j, none⟩ (.int .i64 ((u : Nat) : Int))) g (.slice (some ⟨g, 0, none⟩) t.length t.length) (zs (Fld.rcells (Fld.stay m t) t.length j u)) by
                have h := (Own.lit (Own.drewN hown n)).2.2.2.2 j (u : Int)
                rw [zs_set, Fld.rcells_set] at h
                exact h)
              have HO := Lib.hid hown
              have HB := Lib.hid hb
              have hri' : Fld.rkAt (Fld.stay m t) i + 1 ≤ 25 := by omega
              have hrj' : Fld.rankTo (Fld.stay m t) (Fld.ranks (Fld.stay m t) j) j i + 1 ≤ 25 := by omega
              clear gc gf gst hown hb hri hrj
              generalize Fld.rkAt (Fld.stay m t) i + 1 = ri at *
              generalize Fld.rankTo (Fld.stay m t) (Fld.ranks (Fld.stay m t) j) j i + 1 = rj at *
              have hBq := Lib.hid fun n w5 => bitgq av j n w5 (by omega) (by omega)
              have hi1 : (i : Int) < (t.length : Int) := by omega
              have hj1 : (j : Int) < (t.length : Int) := by omega
              have hi2 : i < t.length := by omega
              have hi0 : (0 : Int) ≤ (i : Int) := by omega
              have hj0 : (0 : Int) ≤ (j : Int) := by omega
              have e1 : IntKind.i64.wrap ((ri : Int) + 1) = (ri : Int) + 1 := IntWalk.i64_in _ (by constructor <;> omega)
              rw [← hrel.out] at hsu
              by_cases hbit : av.testBit j = true
              · rw [hbit] at hBq
                by_cases hlt : rj < ri + 1
                · have hd1 : decide ((rj : Int) < (ri : Int) + 1) = true := by clear e1; simp; omega
                  have hsu2 := Lib.hid (hsu.out.trans (if_pos ⟨hbit, hlt⟩))
                  clear hsu hlt
                  go_wp2_with fail
                  go_quiet ((go_at_call 11; exact hBq.out _ _))
                  clear e1
                  go_wp2_with fail
                  go_roundw
                  case rel => exact ⟨i + 1, by omega, by go_num, by rw [hsu2.out]; have h := hset.out nq (ri + 1); rw [show ((ri + 1 : Nat) : Int) = (ri : Int) + 1 from rfl] at h; exact h, (drn HB.out _).setCell (p := ⟨g, j, none⟩) gb _⟩
                  case measure => simp [intOf]; omega
                · have hd1 : decide ((rj : Int) < (ri : Int) + 1) = false := by clear e1; simp; omega
                  have hsu2 := Lib.hid (hsu.out.trans (if_neg (fun h => hlt h.2)))
                  clear hsu hlt
                  go_wp2_with fail
                  go_quiet ((go_at_call 11; exact hBq.out _ _))
                  clear e1
                  go_wp2_with fail
                  go_roundw
                  case rel => exact ⟨i + 1, by omega, by go_num, by rw [hsu2.out]; exact Own.drewN HO.out nq, drn HB.out nq⟩
                  case measure => simp [intOf]; omega
              · have hbit' : av.testBit j = false := by simpa using hbit
                have hsu2 := Lib.hid (hsu.out.trans (if_neg (fun h => hbit h.1)))
                rw [hbit'] at hBq
                clear hsu hbit hbit' hrel
                go_wp2_with fail
                go_quiet ((go_at_call 11; exact hBq.out _ _))
                clear e1
                go_wp2_with fail
                go_roundw
                case rel => exact ⟨i + 1, by omega, by go_num, by rw [hsu2.out]; exact Own.drewN HO.out nq, drn HB.out nq⟩
                case measure => simp [intOf]; omega
            · obtain rfl : i = j := by omega
              have hrr : Fld.rankTo (Fld.stay m t) (Fld.ranks (Fld.stay m t) i) i i = Fld.rkAt (Fld.stay m t) i := rfl
              rw [hrr] at hown gc
              have gj := gc i (by rw [length_zs, Fld.length_rcells]; exact hjl)
              rw [zs_getElem, Fld.getD_rcells _ hjl, if_neg (by omega), if_pos rfl] at gj
              rw [Fld.rcells_next] at hown
              have HO := Lib.hid hown
              clear gc gf gst hown hij hrr
              have hrk' : Fld.rkAt (Fld.stay m t) i + 1 ≤ 25 := by omega
              clear hrk
              generalize Fld.rkAt (Fld.stay m t) i + 1 = rr at *
              by_cases hgt : lg < rr
              · have hd : decide ((lg : Int) < (rr : Int)) = true := by simp; omega
                have hln2 := Lib.hid (hln.out.trans (show max lg rr = rr by omega))
                clear hln
                go_wp2_with fail
                go_roundw
                case rel => exact ⟨i + 1, by omega, by go_num, by rw [hln2.out], HO.out, hb⟩
                case measure => simp [intOf]; omega
              · have hd : decide (lg < rr) = false := by simp; omega
                have hln2 := Lib.hid (hln.out.trans (show max lg rr = lg by omega))
                clear hln hgt
                go_wp2_with fail
                go_roundw
                case rel => exact ⟨i + 1, by omega, by go_num, by rw [hln2.out], HO.out, hb⟩
                case measure => simp [intOf]; omega
        · obtain rfl : j = t.length := by omega
          have hfin := Lib.hid (show ((l.length : Int) == ((Fld.longTo (Fld.stay m t) t.length : Nat) : Int)) = true by rw [HLEN.out]; simp)
          have hfin' := hfin.out
          have HB9 := Lib.hid (HB8.out.trans (hb.mono (by have h1 := HB8.out.size; have h2 := HGG.out; omega)))
          clear hown hb hjl
          generalize Fld.longTo (Fld.stay m t) t.length = lg at *
          go_wp2_with fail
          go_ret
          exact ⟨by simp, HB9.out⟩
theorem fstepslaw_calls (l p : List Int) (f v : Value) (w : World) (hf : Ints w w.heap.size f l) (hv : Ints w w.heap.size v p) (hT : Tab w) :
    Calls Tryd.prog 5 #[f, v] w fun e w' => e = .returned (.bool true) ∧ Below w.heap.size w w' := by
  by_cases h : wordCode l p = 0
  · obtain ⟨m, t, rfl, rfl, hg, hl, ht⟩ := wordCode_zero h
    exact steps_ok m t f v w hf hv hg hl ht hT
  · exact steps_err l p f v w hf hv h hT
end Go.Proofs.YtoedgncbgkdmoaaDoor
