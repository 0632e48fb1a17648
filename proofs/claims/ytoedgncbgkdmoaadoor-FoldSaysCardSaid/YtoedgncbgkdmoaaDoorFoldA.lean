/- Contracts of package fold: Ahead. Conditions: each contract's own premises. -/
import Derived.Test.YtoedgncbgkdmoaaDoorFoldQ
namespace Go.Proofs.YtoedgncbgkdmoaaDoor
open Go.RowKit

namespace Fld
open Odr
def astep (m t : List Nat) (i j : Nat) (l : List Nat) : List Nat := if stay m t i j = true then more l i j else l
def ainner (m t : List Nat) (j : Nat) : Nat → List Nat → List Nat
  | 0, l => l
  | i + 1, l => astep m t i j (ainner m t j i l)
def aouter (m t : List Nat) : Nat → List Nat
  | 0 => List.replicate t.length 0
  | j + 1 => ainner m t j j (aouter m t j)
/-- of each letter of a word those behind it that must stay behind it -/
def ahead (m t : List Nat) : List Nat := aouter m t t.length
theorem length_ainner (m t : List Nat) (j i : Nat) (l : List Nat) : (ainner m t j i l).length = l.length := by
  induction i with
  | zero => rfl
  | succ i ih =>
    rw [ainner, astep]
    split
    · rw [length_more, ih]
    · exact ih
theorem length_aouter (m t : List Nat) (j : Nat) : (aouter m t j).length = t.length := by
  induction j with
  | zero => simp [aouter]
  | succ j ih => rw [aouter, length_ainner, ih]
theorem length_ahead (m t : List Nat) : (ahead m t).length = t.length := length_aouter m t _
theorem Fits.ainner {m t l : List Nat} (h : Odr.Fits l) (hl : l.length = t.length) {j : Nat} (hj : j < t.length) (i : Nat) : Odr.Fits (Fld.ainner m t j i l) := by
  induction i with
  | zero => exact h
  | succ i ih =>
    rw [Fld.ainner, astep]
    split
    · exact ih.more (by rw [length_ainner, hl]; exact hj)
    · exact ih
theorem Fits.aouter (m t : List Nat) (j : Nat) (hj : j ≤ t.length) : Odr.Fits (Fld.aouter m t j) := by
  induction j with
  | zero =>
    intro x hx
    have := List.eq_of_mem_replicate hx
    subst this
    exact Nat.two_pow_pos _
  | succ j ih => exact Fits.ainner (ih (by omega)) (length_aouter m t j) (by omega) j
theorem rel_ainner (m t : List Nat) {j : Nat} {l : List Nat} (i : Nat) (hi : i ≤ l.length) (x y : Nat) :
    rel (ainner m t j i l) x y = true ↔ rel l x y = true ∨ (x < i ∧ y = j ∧ stay m t x j = true) := by
  induction i with
  | zero => simp [ainner]
  | succ i ih =>
    rw [ainner, astep]
    split
    · rename_i hs
      rw [rel_more (by rw [length_ainner]; omega), Bool.or_eq_true, ih (by omega)]
      simp only [Bool.and_eq_true, decide_eq_true_eq]
      constructor
      · rintro ((h | ⟨h1, h2, h3⟩) | ⟨rfl, rfl⟩)
        · exact .inl h
        · exact .inr ⟨by omega, h2, h3⟩
        · exact .inr ⟨by omega, rfl, hs⟩
      · rintro (h | ⟨h1, h2, h3⟩)
        · exact .inl (.inl h)
        · by_cases e : x < i
          · exact .inl (.inr ⟨e, h2, h3⟩)
          · exact .inr ⟨by omega, h2⟩
    · rename_i hs
      rw [ih (by omega)]
      constructor
      · rintro (h | ⟨h1, h2, h3⟩)
        · exact .inl h
        · exact .inr ⟨by omega, h2, h3⟩
      · rintro (h | ⟨h1, h2, h3⟩)
        · exact .inl h
        · by_cases e : x < i
          · exact .inr ⟨e, h2, h3⟩
          · obtain rfl : x = i := by omega
            exact absurd h3 hs
theorem rel_aouter (m t : List Nat) (j : Nat) (hj : j ≤ t.length) (x y : Nat) : rel (aouter m t j) x y = true ↔ x < y ∧ y < j ∧ stay m t x y = true := by
  induction j with
  | zero =>
    constructor
    · intro h
      exfalso
      unfold rel aouter at h
      rw [List.getD_eq_getElem?_getD, List.getElem?_replicate] at h
      split at h <;> simp at h
    · rintro ⟨_, h, _⟩; omega
  | succ j ih =>
    rw [aouter, rel_ainner m t j (by rw [length_aouter]; omega), ih (by omega)]
    constructor
    · rintro (⟨h1, h2, h3⟩ | ⟨h1, rfl, h3⟩)
      · exact ⟨h1, by omega, h3⟩
      · exact ⟨h1, by omega, h3⟩
    · rintro ⟨h1, h2, h3⟩
      by_cases e : y < j
      · exact .inl ⟨h1, e, h3⟩
      · obtain rfl : y = j := by omega
        exact .inr ⟨h1, rfl, h3⟩
theorem rel_ahead (m t : List Nat) (x y : Nat) : rel (ahead m t) x y = true ↔ x < y ∧ y < t.length ∧ stay m t x y = true := rel_aouter m t _ (Nat.le_refl _) x y
theorem fits_ahead (m t : List Nat) : Odr.Fits (ahead m t) := Fits.aouter m t _ (Nat.le_refl _)
end Fld

theorem fahead_err (l p : List Int) (v u : Value) (w : World) (hv : Ints w w.heap.size v l) (hu : Ints w w.heap.size u p) (hne : wordCode l p ≠ 0) (hT : Tab w) :
    Calls Tryd.prog 14 #[v, u] w fun e w' => e = .returned (.tuple #[.slice none 0 0, .iface 43 (nv (wordCode l p))]) ∧ Below w.heap.size w w' := by
  have hchk := Lib.hid (word_err l p v u w hv hu hne hT)
  clear hne hv hu
  go_enter Tryd.func14, Tryd.ntmps14
  go_wp2_with fail
  refine hchk.out.mono ?_
  rintro e w1 ⟨rfl, hb1⟩
  clear hchk
  go_wp2_with fail
  go_ret2
  exact ⟨rfl, hb1⟩

theorem hasq (s i n : Nat) (w : World) (hs : s < 4096) (hi : i < 64) : Calls Tryd.prog 29 #[nv s, nv i] (w.drewN n) fun e w'' => e = .returned (.bool (s.testBit i)) ∧ ∃ m, w'' = w.drewN m :=
  Calls.quiet_of_same ((has12 s i (w.drewN n) hs hi).mono fun _ _ ⟨a, b⟩ => ⟨a, b.symm⟩)

set_option maxHeartbeats 4000000 in
theorem fahead_ok (m t : List Nat) (v u : Value) (w : World) (hv : Ints w w.heap.size v (zs m)) (hu : Ints w w.heap.size u (zs t)) (hg : Fld.Good m) (hl : t.length ≤ 24) (ht : ∀ x ∈ t, x < m.length) (hT : Tab w) :
    Calls Tryd.prog 14 #[v, u] w fun e w' => ∃ v', e = .returned (.tuple #[v', .nilIface]) ∧ Own w' w.heap.size v' (zs (Fld.ahead m t)) ∧ Below w.heap.size w w' := by
  have hchk := Lib.hid (word_ok m t v u w hv hu hg hl ht hT)
  have HT := Lib.hid ht
  have HG := Lib.hid hg
  have hn := hg.1
  obtain ⟨A, cap, rfl⟩ := Rd.val hv
  obtain ⟨A', cap', rfl⟩ := Rd.val hu
  simp only [length_zs] at *
  have HU := Lib.hid hu
  have HV := Lib.hid hv
  clear ht hg hu hv
  go_enter Tryd.func14, Tryd.ntmps14
  go_wp2_with fail
  refine hchk.out.mono ?_
  rintro e w1 ⟨rfl, hb1⟩
  clear hchk
  have hbs1 := hb1.size
  go_wp2_with (at_make; refine make_ints rfl _ _ rfl w.heap.size t.length rfl rfl (by omega) hbs1 ?_; intro w2 hown hb2)
  have hb2' : Below w.heap.size w w2 := hb1.trans (hb2.mono hbs1)
  have hown0 : Own w2 w.heap.size (.slice (some ⟨w1.heap.size, 0, none⟩) t.length t.length) (zs (Fld.aouter m t 0)) := by
    have e : zs (Fld.aouter m t 0) = List.replicate t.length 0 := by simp [zs, Fld.aouter]
    rw [e]; exact hown
  clear hown hb2 hb1 hbs1
  generalize w1.heap.size = g at *
  go_loopw [21] (fun i wr => ∃ j : Nat, j ≤ t.length ∧ i = nv j ∧ Own wr w.heap.size (.slice (some ⟨g, 0, none⟩) t.length t.length) (zs (Fld.aouter m t j)) ∧ Below w.heap.size w wr) (fun i _ => t.length - (intOf i).toNat)
  case atStart => exact ⟨0, Nat.zero_le _, rfl, hown0, hb2'⟩
  case round =>
    clear hown0 hb2'
    obtain ⟨j, hj, rfl, hown, hb⟩ := hrel
    by_cases hjl : j < t.length
    · obtain ⟨wo, rfl⟩ : ∃ wo : World, wo = wr := ⟨_, rfl⟩
      have hxj := HT.out (t.getD j 0) (by rw [List.getD_eq_getElem?_getD, List.getElem?_eq_getElem hjl]; exact List.getElem_mem hjl)
      go_wp2_with fail
      go_loopw [25] (fun i wr => ∃ k : Nat, k ≤ j ∧ i = nv k ∧ Own wr w.heap.size (.slice (some ⟨g, 0, none⟩) t.length t.length) (zs (Fld.ainner m t j k (Fld.aouter m t j))) ∧ Below w.heap.size w wr) (fun i _ => j - (intOf i).toNat)
      case atStart => exact ⟨0, Nat.zero_le _, rfl, hown, hb⟩
      case round =>
        clear hown hb
        obtain ⟨k, hk, rfl, hown, hb⟩ := hrel
        have hbs := hb.size
        by_cases hkj : k < j
        · obtain ⟨b0, off, c0, he, _, hc0⟩ := Ints.atN (Rd.below HU.out hb) hjl
          cases he
          obtain ⟨b0', off', c0', he, _, hc1⟩ := Ints.atN (Rd.below HU.out hb) (k := k) (by omega)
          cases he
          have hxk := HT.out (t.getD k 0) (by rw [List.getD_eq_getElem?_getD, List.getElem?_eq_getElem (by omega : k < t.length)]; exact List.getElem_mem _)
          obtain ⟨b1, off1, c1, he, _, hc2⟩ := Ints.atN (Rd.below HV.out hb) hxk
          cases he
          have hf64 : m.getD (t.getD k 0) 0 < 4096 := fits12 (l := m) (by omega) (HG.out.2.1.getD _)
          have hst := Lib.hid (show Fld.stay m t k j = !(m.getD (t.getD k 0) 0).testBit (t.getD j 0) from rfl)
          have hin := Lib.hid (show Fld.ainner m t j (k + 1) (Fld.aouter m t j) = Fld.astep m t k j (Fld.ainner m t j k (Fld.aouter m t j)) from rfl)
          have hlen := Lib.hid (show (Fld.ainner m t j k (Fld.aouter m t j)).length = t.length by rw [Fld.length_ainner, Fld.length_aouter])
          have hfit := (Fld.Fits.ainner (m := m) (Fld.Fits.aouter m t j (by omega)) (Fld.length_aouter m t j) hjl k).getD k
          rw [hlen.out] at hfit
          have h24 : 2 ^ t.length ≤ 2 ^ 24 := Nat.pow_le_pow_right (by omega) hl
          have hy63 : (Fld.ainner m t j k (Fld.aouter m t j)).getD k 0 < 2 ^ 25 := by omega
          clear hfit h24
          generalize hL : Fld.ainner m t j k (Fld.aouter m t j) = L at *
          clear hL
          generalize m.getD (t.getD k 0) 0 = fa at *
          generalize t.getD k 0 = xk at *
          generalize hxe : t.getD j 0 = xj at *
          clear hxe
          by_cases hbit : fa.testBit xj = true
          · have hE := Lib.hid (show Fld.ainner m t j (k + 1) (Fld.aouter m t j) = L by rw [hin.out, Fld.astep, if_neg (by rw [hst.out, hbit]; simp)])
            have HO := Lib.hid hown
            have HB := Lib.hid hb
            clear hown hb hin hst
            go_wp2_with fail
            go_quiet ((go_at_call 29; exact hasq _ _ _ _ hf64 (by omega)))
            go_wp2_with fail
            go_roundw
            case rel => exact ⟨k + 1, by omega, by go_num, by rw [hE.out]; exact HO.out, drn HB.out _⟩
            case measure => simp [intOf]; omega
          · have hbit' : fa.testBit xj = false := by simpa using hbit
            have hE := Lib.hid (show Fld.ainner m t j (k + 1) (Fld.aouter m t j) = Odr.more L k j by rw [hin.out, Fld.astep, if_pos (by rw [hst.out, hbit']; rfl)])
            clear hbit
            obtain ⟨gb, gs, gc, gf, gst⟩ := Own.lit hown
            have gk := gc k (by rw [length_zs, hlen.out]; omega)
            rw [zs_getElem] at gk
            have gfk := gf k
            have GST := Lib.hid gst
            have hM := Lib.hid (show Odr.more L k j = L.set k (L.getD k 0 ||| 2 ^ j) from rfl)
            generalize L.getD k 0 = y at *
            have HB := Lib.hid hb
            clear hown hb hin hst gc gf gst
            go_wp2_with fail
            go_quiet ((go_at_call 29; exact hasq _ _ _ _ hf64 (by omega)))
            obtain ⟨W, hW⟩ : ∃ W, W = wr.drewN nq := ⟨_, rfl⟩
            have gk' : W.cell? ⟨g, k, none⟩ = some (nv y) := by rw [hW]; exact gk
            have gfk' : W.frozen? ⟨g, k, none⟩ = false := by rw [hW]; exact gfk
            have FIN := Lib.hid (show Own (W.setCell ⟨g, k, none⟩ (.int .i64 ((y ||| 2 ^ j : Nat) : Int))) w.heap.size (.slice (some ⟨g, 0, none⟩) t.length t.length) (zs (Fld.ainner m t j (k + 1) (Fld.aouter m t j))) by
              have h := GST.out k ((y ||| 2 ^ j : Nat) : Int)
              rw [zs_set] at h
              rw [hE.out, hM.out, hW]
              exact h)
            have FB := Lib.hid (show Below w.heap.size w W by rw [hW]; exact drn HB.out _)
            rw [← hW]
            have hsh := Lib.hid (bits_or_shl y j (by omega) (by omega))
            clear hW gk gfk GST HB
            go_wp2_with fail
            go_region
            go_wp2_with fail
            go_roundw
            case rel => exact ⟨k + 1, by omega, by go_num, by rw [hsh.out]; exact FIN.out.drew, (FB.out.setCell (p := ⟨g, k, none⟩) gb _).drew⟩
            case measure => simp [intOf]; omega
        · obtain rfl : k = j := by omega
          clear hkj
          go_wp2_with fail
          go_roundw
          case rel => exact ⟨k + 1, by omega, by go_num, hown, hb⟩
          case measure => simp [intOf]; omega
    · obtain rfl : j = t.length := by omega
      clear hjl
      go_wp2_with fail
      go_ret2
      exact ⟨_, rfl, hown, hb⟩
end Go.Proofs.YtoedgncbgkdmoaaDoor
