/- The walk of FoldPairs: at every input it returns true. Conditions: none beyond the table's. -/
import Derived.Test.YtoedgncbgkdmoaaDoorFSwaps
namespace Go.Proofs.YtoedgncbgkdmoaaDoor
open Go.RowKit

namespace Fld
def pairB (m s t : List Nat) (a b : Nat) : Bool := Odr.rel m a b || decide (proj s a b = proj t a b)
def rowB (m s t : List Nat) (a n : Nat) : Bool := (List.range n).all fun b => pairB m s t a b
def allB (m s t : List Nat) (n : Nat) : Bool := (List.range n).all fun a => rowB m s t a (a + 1)
theorem rowB_succ (m s t : List Nat) (a n : Nat) : rowB m s t a (n + 1) = (rowB m s t a n && pairB m s t a n) := by simp [rowB, List.range_succ, List.all_append]
theorem allB_succ (m s t : List Nat) (n : Nat) : allB m s t (n + 1) = (allB m s t n && rowB m s t n (n + 1)) := by simp [allB, List.range_succ (n := n), List.all_append]
theorem allB_iff {m s t : List Nat} (hg : Good m) : allB m s t m.length = true ↔ Alike m s t := by
  have key : ∀ a b, pairB m s t a b = true ↔ (Odr.rel m a b = false → proj s a b = proj t a b) := by
    intro a b
    unfold pairB
    cases Odr.rel m a b <;> simp
  unfold allB rowB
  simp only [List.all_eq_true, List.mem_range, key]
  constructor
  · intro h a b ha hb hd
    by_cases hab : b ≤ a
    · exact h a ha b (by omega) hd
    · have hd' : Odr.rel m b a = false := by
        cases hr : Odr.rel m b a
        · rfl
        · rw [hg.2.2.2 _ _ hr] at hd; cases hd
      rw [proj_comm s, proj_comm t]
      exact h b hb a (by omega) hd'
  · intro h a ha b hb hd
    exact h a b ha (by omega) hd
theorem proj_take_succ (s : List Nat) {k : Nat} (hk : k < s.length) (a b : Nat) : proj (s.take (k + 1)) a b = proj (s.take k) a b ++ (if s.getD k 0 = a ∨ s.getD k 0 = b then [s.getD k 0] else []) := by
  rw [take_succ_getD s hk, proj_append]
  congr 1
  split
  · rename_i h; rw [proj_cons_in h]; rfl
  · rename_i h; rw [proj_cons_out (fun e => h (.inl e)) (fun e => h (.inr e))]; rfl
end Fld

theorem pairs_err (l p q : List Int) (f v u : Value) (w : World) (hf : Ints w w.heap.size f l) (hv : Ints w w.heap.size v p) (hu : Ints w w.heap.size u q) (hne : sameCode l p q ≠ 0) (hT : Tab w) :
    Calls Tryd.prog 4 #[f, v, u] w fun e w' => e = .returned (.bool true) ∧ Below w.heap.size w w' := by
  have hfact := Lib.hid (foldFact_calls w hT)
  have HS := Lib.hid hne
  have HF := Lib.hid hf
  have HV := Lib.hid hv
  have HU := Lib.hid hu
  clear hne hf hv hu
  go_enter Tryd.func4, Tryd.ntmps4
  go_wp2_with fail
  refine hfact.out.mono ?_
  rintro e w1 ⟨rfl, hb1⟩
  have hs := Lib.hid (same_err l p q f v u w1 (HF.out.later hb1) (HV.out.later hb1) (HU.out.later hb1) HS.out (hT.below hb1))
  clear hfact
  go_wp2_with fail
  refine hs.out.mono ?_
  rintro e w2 ⟨rfl, hb2⟩
  clear hs
  go_wp2_with fail
  go_ret
  exact ⟨rfl, hb1.trans (hb2.mono hb1.size)⟩

set_option maxRecDepth 100000 in
set_option maxHeartbeats 8000000 in
theorem pairs_ok (m s t : List Nat) (f v u : Value) (w : World) (hf : Ints w w.heap.size f (zs m)) (hv : Ints w w.heap.size v (zs s)) (hu : Ints w w.heap.size u (zs t)) (hg : Fld.Good m)
    (hl1 : s.length ≤ 24) (ht1 : ∀ x ∈ s, x < m.length) (hl : t.length ≤ 24) (ht : ∀ x ∈ t, x < m.length) (hT : Tab w) :
    Calls Tryd.prog 4 #[f, v, u] w fun e w' => e = .returned (.bool true) ∧ Below w.heap.size w w' := by
  have hfact := Lib.hid (foldFact_calls w hT)
  have hres := Lib.hid (show decide (Fld.steps m s = Fld.steps m t) = Fld.allB m s t m.length by
    rw [Bool.eq_iff_iff, decide_eq_true_eq, Fld.allB_iff hg]
    exact Fld.steps_eq_iff hg ht1 ht)
  have HF := Lib.hid hf
  have HV := Lib.hid hv
  have HU := Lib.hid hu
  have HG := Lib.hid hg
  have HT1 := Lib.hid ht1
  have HT := Lib.hid ht
  have HTB := Lib.hid hT
  have hn := hg.1
  obtain ⟨Af, capf, rfl⟩ := Rd.val hf
  obtain ⟨Av, capv, rfl⟩ := Rd.val hv
  obtain ⟨Au, capu, rfl⟩ := Rd.val hu
  simp only [length_zs] at HF HV HU ⊢
  clear hf hv hu hg ht ht1 hT
  go_enter Tryd.func4, Tryd.ntmps4
  go_wp2_with fail
  refine hfact.out.mono ?_
  rintro e w1 ⟨rfl, hb1⟩
  have hs := Lib.hid (same_ok m s t _ _ _ w1 (HF.out.later hb1) (HV.out.later hb1) (HU.out.later hb1) HG.out hl1 HT1.out hl HT.out (HTB.out.below hb1))
  rw [hres.out] at hs
  clear hfact
  go_wp2_with fail
  (with_reducible refine hs.out.mono ?_)
  rintro e w2 ⟨rfl, hb2⟩
  have hbb := hb1.trans (hb2.mono hb1.size)
  clear hs hb1 hb2
  go_wp2_with fail
  go_loopw [10, 11] (fun c i wr => ∃ (a : Nat) (x : Bool), a ≤ m.length ∧ i = nv a ∧ c = .bool x ∧ Hid (x = Fld.allB m s t a) ∧ Below w.heap.size w wr) (fun _ i _ => m.length - (intOf i).toNat)
  case atStart => exact ⟨0, true, Nat.zero_le _, rfl, rfl, Lib.hid rfl, hbb⟩
  case round =>
    clear hbb
    obtain ⟨a, x, ha, rfl, rfl, hx, hb⟩ := hrel
    by_cases hal : a < m.length
    · obtain ⟨wo, rfl⟩ : ∃ wo : World, wo = wr := ⟨_, rfl⟩
      go_wp2_with fail
      go_loopw [10, 12] (fun c i wr => ∃ (b : Nat) (y : Bool), b ≤ a + 1 ∧ i = nv b ∧ c = .bool y ∧ Hid (y = (x && Fld.rowB m s t a b)) ∧ Below w.heap.size w wr) (fun _ i _ => a + 1 - (intOf i).toNat)
      case atStart => exact ⟨0, x, Nat.zero_le _, rfl, rfl, Lib.hid (by simp [Fld.rowB]), hb⟩
      case round =>
        clear hb
        obtain ⟨b, y, hb1, rfl, rfl, hy, hb⟩ := hrel
        by_cases hbl : b ≤ a
        · obtain ⟨b0, off, c0, he, _, hc⟩ := Ints.atN (Rd.below HF.out hb) hal
          cases he
          have hf64 : m.getD a 0 < 4096 := fits12 (l := m) (by omega) (HG.out.2.1.getD a)
          have hr := Lib.hid (show Odr.rel m a b = (m.getD a 0).testBit b from rfl)
          generalize m.getD a 0 = fa at *
          have hys := Lib.hid (show (x && Fld.rowB m s t a (b + 1)) = (y && Fld.pairB m s t a b) by rw [Fld.rowB_succ, hy.out, Bool.and_assoc])
          by_cases hbit : fa.testBit b = true
          · have hp := Lib.hid (show Fld.pairB m s t a b = true by unfold Fld.pairB; rw [hr.out, hbit]; rfl)
            go_wp2_with (go_at_call 11; refine (bit12 _ _ _ hf64 (by omega)).mono ?_; rintro e w' ⟨rfl, rfl⟩)
            go_roundw
            case rel => exact ⟨b + 1, y, by omega, by go_num, rfl, Lib.hid (by rw [hys.out, hp.out, Bool.and_true]), hb⟩
            case measure => simp [intOf]; omega
          · have hbit' : fa.testBit b = false := by simpa using hbit
            have hp := Lib.hid (show Fld.pairB m s t a b = decide (Fld.proj s a b = Fld.proj t a b) by unfold Fld.pairB; rw [hr.out, hbit']; rfl)
            clear hbit
            have hbs := hb.size
            obtain ⟨w4, rfl⟩ : ∃ w4 : World, w4 = wr := ⟨_, rfl⟩
            have HB := Lib.hid hb
            go_wp2_with (go_at_call 11; refine (bit12 _ _ _ hf64 (by omega)).mono ?_; rintro e w' ⟨rfl, rfl⟩)
            go_loopw [13, 15] (fun o i wr => ∃ k : Nat, k ≤ s.length ∧ i = nv k ∧ Own wr w4.heap.size o (zs (Fld.proj (s.take k) a b)) ∧ Below w4.heap.size w4 wr) (fun _ i _ => s.length - (intOf i).toNat)
            case atStart => exact ⟨0, Nat.zero_le _, rfl, Own.nil _ _, Below.refl _ _⟩
            case round =>
              obtain ⟨k, hk, rfl, hown, hb5⟩ := hrel
              have hbs5 := hb5.size
              obtain ⟨w5, rfl⟩ : ∃ w5 : World, w5 = wr := ⟨_, rfl⟩
              by_cases hkl : k < s.length
              · obtain ⟨b1, off1, c1, he, _, hc1⟩ := Ints.atN (Rd.below HV.out (HB.out.trans (hb5.mono hbs))) hkl
                cases he
                have hsn := Lib.hid (Fld.proj_take_succ s hkl a b)
                have hpl : (Fld.proj (s.take k) a b).length ≤ 24 := by
                  have := Fld.proj_length_le (s.take k) a b
                  rw [List.length_take] at this
                  omega
                generalize s.getD k 0 = z at *
                by_cases hin : z = a ∨ z = b
                · rw [if_pos hin] at hsn
                  have hcs : ((z : Int) == (a : Int)) = true ∨ (((z : Int) == (a : Int)) = false ∧ ((z : Int) == (b : Int)) = true) := by
                    by_cases h : z = a
                    · exact .inl (by simp; omega)
                    · exact .inr ⟨by simp; omega, by simp; omega⟩
                  clear hin
                  rcases hcs with hz | ⟨hz, hz2⟩
                  all_goals
                    go_wp2_with (at_builtin; refine append_int rfl _ _ rfl w4.heap.size _ (zs (Fld.proj (s.take k) a b)) rfl (Own.alloc hown _) w5.heap.size rfl (z : Int) (by simp) (by rw [length_zs]; omega) (by simp; omega) ?_; intro v' w6 hown6 hb6 _)
                    go_roundw
                    case rel => exact ⟨k + 1, by omega, by go_num, by rw [hsn.out]; simpa [zs] using hown6, (hb5.alloc hbs5 _).trans hb6⟩
                    case measure => simp [intOf]; omega
                · rw [if_neg hin, List.append_nil] at hsn
                  have hz : ((z : Int) == (a : Int)) = false := by simp; omega
                  have hz2 : ((z : Int) == (b : Int)) = false := by simp; omega
                  clear hin
                  go_wp2_with fail
                  go_roundw
                  case rel => exact ⟨k + 1, by omega, by go_num, by rw [hsn.out]; exact hown, hb5⟩
                  case measure => simp [intOf]; omega
              · obtain rfl : k = s.length := by omega
                rw [List.take_length] at hown
                clear hkl
                have HB6 := Lib.hid (HB.out.trans (hb5.mono hbs))
                have hbs6 := HB6.out.size
                have HO := Lib.hid hown
                clear hown hb5
                go_wp2_with fail
                go_loopw [14, 16] (fun o i wr => ∃ k : Nat, k ≤ t.length ∧ i = nv k ∧ Own wr w5.heap.size o (zs (Fld.proj (t.take k) a b)) ∧ Below w5.heap.size w5 wr) (fun _ i _ => t.length - (intOf i).toNat)
                case atStart => exact ⟨0, Nat.zero_le _, rfl, Own.nil _ _, Below.refl _ _⟩
                case round =>
                  obtain ⟨k, hk, rfl, hown, hb5⟩ := hrel
                  have hbs5 := hb5.size
                  obtain ⟨w7, rfl⟩ : ∃ w7 : World, w7 = wr := ⟨_, rfl⟩
                  by_cases hkl : k < t.length
                  · obtain ⟨b1, off1, c1, he, _, hc1⟩ := Ints.atN (Rd.below HU.out (HB6.out.trans (hb5.mono hbs6))) hkl
                    cases he
                    have hsn := Lib.hid (Fld.proj_take_succ t hkl a b)
                    have hpl : (Fld.proj (t.take k) a b).length ≤ 24 := by
                      have := Fld.proj_length_le (t.take k) a b
                      rw [List.length_take] at this
                      omega
                    generalize t.getD k 0 = z at *
                    by_cases hin : z = a ∨ z = b
                    · rw [if_pos hin] at hsn
                      have hcs : ((z : Int) == (a : Int)) = true ∨ (((z : Int) == (a : Int)) = false ∧ ((z : Int) == (b : Int)) = true) := by
                        by_cases h : z = a
                        · exact .inl (by simp; omega)
                        · exact .inr ⟨by simp; omega, by simp; omega⟩
                      clear hin
                      rcases hcs with hz | ⟨hz, hz2⟩
                      all_goals
                        go_wp2_with (at_builtin; refine append_int rfl _ _ rfl w5.heap.size _ (zs (Fld.proj (t.take k) a b)) rfl (Own.alloc hown _) w7.heap.size rfl (z : Int) (by simp) (by rw [length_zs]; omega) (by simp; omega) ?_; intro v' w6 hown6 hb6 _)
                        go_roundw
                        case rel => exact ⟨k + 1, by omega, by go_num, by rw [hsn.out]; simpa [zs] using hown6, (hb5.alloc hbs5 _).trans hb6⟩
                        case measure => simp [intOf]; omega
                    · rw [if_neg hin, List.append_nil] at hsn
                      have hz : ((z : Int) == (a : Int)) = false := by simp; omega
                      have hz2 : ((z : Int) == (b : Int)) = false := by simp; omega
                      clear hin
                      go_wp2_with fail
                      go_roundw
                      case rel => exact ⟨k + 1, by omega, by go_num, by rw [hsn.out]; exact hown, hb5⟩
                      case measure => simp [intOf]; omega
                  · obtain rfl : k = t.length := by omega
                    rw [List.take_length] at hown
                    clear hkl
                    have HB7 := Lib.hid (HB6.out.trans (hb5.mono hbs6))
                    have hic := Lib.hid (fun vx vy => ints_calls vx vy (zs (Fld.proj s a b)) (zs (Fld.proj t a b)) w7.heap.size w7 (Nat.le_refl _))
                    rw [decide_zs, ← hp.out] at hic
                    have hox := Lib.hid (HO.out.kept hb5).ints
                    have hoy := Lib.hid hown.ints
                    clear hown hb5
                    cases y with
                    | true =>
                      go_wp2_with fail
                      (with_reducible refine (hic.out _ _ hox.out hoy.out).mono ?_)
                      rintro e w8 ⟨rfl, hb8⟩
                      have hb9 := HB7.out.trans (hb8.mono HB7.out.size)
                      clear hb8 hic
                      go_wp2_with fail
                      go_roundw
                      case rel => exact ⟨b + 1, _, by omega, by go_num, rfl, Lib.hid (by rw [hys.out]; rfl), hb9⟩
                      case measure => simp [intOf]; omega
                    | false =>
                      go_wp2_with fail
                      go_roundw
                      case rel => exact ⟨b + 1, false, by omega, by go_num, rfl, Lib.hid (by rw [hys.out]; rfl), HB7.out⟩
                      case measure => simp [intOf]; omega
        · obtain rfl : b = a + 1 := by omega
          clear hbl
          have hxs := Lib.hid (show Fld.allB m s t (a + 1) = y by rw [Fld.allB_succ, hy.out, hx.out])
          go_wp2_with fail
          go_roundw
          case rel => exact ⟨a + 1, y, by omega, by go_num, rfl, Lib.hid hxs.out.symm, hb⟩
          case measure => simp [intOf]; omega
    · obtain rfl : a = m.length := by omega
      clear hal
      have hxx := Lib.hid (show (Fld.allB m s t m.length == x) = true by rw [hx.out]; simp)
      have hxx' := hxx.out
      go_wp2_with fail
      go_ret
      exact ⟨by simp, hb⟩
theorem fpairs_calls (l p q : List Int) (f v u : Value) (w : World) (hf : Ints w w.heap.size f l) (hv : Ints w w.heap.size v p) (hu : Ints w w.heap.size u q) (hT : Tab w) :
    Calls Tryd.prog 4 #[f, v, u] w fun e w' => e = .returned (.bool true) ∧ Below w.heap.size w w' := by
  by_cases h : sameCode l p q = 0
  · have h1 : wordCode l p = 0 := by
      unfold sameCode at h
      by_cases h1 : wordCode l p = 0
      · exact h1
      · rw [if_pos h1] at h; exact absurd h h1
    have h2 : wordCode l q = 0 := by
      unfold sameCode at h
      rwa [if_neg (by simpa using h1)] at h
    obtain ⟨m, s, rfl, rfl, hg, hl1, ht1⟩ := wordCode_zero h1
    obtain ⟨m', t, e, rfl, _, hl, ht⟩ := wordCode_zero h2
    have := zs_inj e
    subst this
    exact pairs_ok m s t f v u w hf hv hu hg hl1 ht1 hl ht hT
  · exact pairs_err l p q f v u w hf hv hu h hT
end Go.Proofs.YtoedgncbgkdmoaaDoor
