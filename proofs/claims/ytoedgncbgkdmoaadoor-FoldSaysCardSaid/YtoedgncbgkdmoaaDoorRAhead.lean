/- Contracts of the reference for words: stays, Ahead, Only, Same. Conditions: each contract's own premises. -/
import Derived.Test.YtoedgncbgkdmoaaDoorRFree
import Derived.Test.YtoedgncbgkdmoaaDoorFPairs
namespace Go.Proofs.YtoedgncbgkdmoaaDoor
open Go.RowKit

theorem getD_memF {s : List Nat} {i n : Nat} (h : ∀ x ∈ s, x < n) (hi : i < s.length) : s.getD i 0 < n := h _ (by rw [List.getD_eq_getElem?_getD, List.getElem?_eq_getElem hi]; exact List.getElem_mem hi)
set_option maxHeartbeats 1000000 in
theorem rstays_calls (m t : List Nat) (v u : Value) (i j : Nat) (B : Nat) (w : World) (hv : Ints w B v (zs m)) (hu : Ints w B u (zs t)) (hg : Fld.Good m) (ht : ∀ x ∈ t, x < m.length) (hij : i < j) (hj : j < t.length) :
    Calls Tryd.prog 37 #[v, u, nv i, nv j] w fun e w' => e = .returned (.bool (Fld.stay m t i j)) ∧ ∃ n, w' = w.drewN n := by
  have hx := getD_memF ht (i := i) (by omega)
  have hy := getD_memF ht (i := j) hj
  obtain ⟨b1, o1, d1, rfl, _, g1⟩ := Ints.atN hu (k := i) (by omega)
  obtain ⟨b2, o2, d2, he, _, g2⟩ := Ints.atN hu hj
  cases he
  obtain ⟨b3, o3, d3, rfl, _, g3⟩ := Ints.atN hv hx
  have hf64 : m.getD (t.getD i 0) 0 < 4096 := fits12 (l := m) (by have := hg.1; omega) (hg.2.1.getD _)
  have hst := Lib.hid (show Fld.stay m t i j = !(m.getD (t.getD i 0) 0).testBit (t.getD j 0) from rfl)
  have hn := hg.1
  have hul := Rd.le hu
  unfold maxLen at hul
  rw [length_zs] at hul
  clear hv hu hg ht
  generalize m.getD (t.getD i 0) 0 = f at *
  generalize t.getD i 0 = x at *
  generalize t.getD j 0 = y at *
  generalize Fld.stay m t i j = s at *
  have k1 : (i : Int) < (j : Int) := by omega
  have k2 : decide (i < j) = true := by simpa using hij
  have k3 : (i : Int) < (t.length : Int) := by omega
  have k4 : (j : Int) < (t.length : Int) := by omega
  have k5 : (x : Int) < (m.length : Int) := by omega
  have k6 : (0 : Int) ≤ (i : Int) := by omega
  have k7 : (0 : Int) ≤ (j : Int) := by omega
  have k8 : (0 : Int) ≤ (x : Int) := by omega
  have hB := Lib.hid fun (N : Nat) (w5 : World) => bitq f y N w5 hf64 (by omega)
  generalize f.testBit y = b at *
  obtain rfl := hst.out
  clear hst hij hj hx hy
  go_enter Tryd.func37, Tryd.ntmps37
  go_wp2_with fail
  go_quiet ((go_at_call 11; exact hB.out _ _))
  go_wp2_with fail
  go_ret
  exact ⟨rfl, _, rfl⟩
set_option maxHeartbeats 2000000 in
theorem rahead_calls (m t : List Nat) (v u : Value) (w : World) (hv : Ints w w.heap.size v (zs m)) (hu : Ints w w.heap.size u (zs t)) (hg : Fld.Good m) (hl : t.length ≤ 24) (ht : ∀ x ∈ t, x < m.length) :
    Calls Tryd.prog 22 #[v, u] w fun e w' => ∃ v', e = .returned v' ∧ Own w' w.heap.size v' (zs (Fld.ahead m t)) ∧ Below w.heap.size w w' := by
  have HF := Lib.hid hv
  have HV := Lib.hid hu
  have HG := Lib.hid hg
  have HT := Lib.hid ht
  obtain ⟨Av, cv, rfl⟩ := Rd.val hu
  have HLA := Lib.hid (Fld.length_ahead m t)
  have HTK := Lib.hid fun k (hk : k < t.length) => (show (Fld.ahead m t).take (k + 1) = (Fld.ahead m t).take k ++ [Fld.aset m t k (t.length - (k + 1))] by
    rw [Fld.take_succ_getD _ (by rw [Fld.length_ahead]; exact hk), Fld.aset_ahead hk])
  have hlz : (zs t).length = t.length := length_zs t
  rw [hlz] at HV ⊢
  clear hv hu hg ht hlz
  go_enter Tryd.func22, Tryd.ntmps22
  go_wp2_with fail
  go_loopw [5, 6] (fun o i wr => ∃ k : Nat, k ≤ t.length ∧ i = nv k ∧ Own wr w.heap.size o (zs ((Fld.ahead m t).take k)) ∧ Below w.heap.size w wr) (fun _ i _ => t.length - (intOf i).toNat)
  case atStart => exact ⟨0, Nat.zero_le _, rfl, Own.nil _ _, Below.refl _ _⟩
  case round =>
    obtain ⟨k, hk, rfl, hown, hb⟩ := hrel
    obtain ⟨wo, rfl⟩ : ∃ wo : World, wo = wr := ⟨_, rfl⟩
    by_cases hkl : k < t.length
    · obtain ⟨Ao, co, rfl⟩ := Rd.val hown.ints
      have hol : (zs ((Fld.ahead m t).take k)).length = k := by rw [length_zs, List.length_take, HLA.out]; omega
      rw [hol] at hown ⊢
      have HO := Lib.hid hown
      have HB := Lib.hid hb
      clear hown hb
      go_wp2_with fail
      go_loopw [7, 8] (fun s j wr => ∃ p n : Nat, k + 1 + p ≤ t.length ∧ j = nv (k + 1 + p) ∧ s = nv (Fld.aset m t k p) ∧ wr = wo.drewN n) (fun _ j _ => t.length - (intOf j).toNat)
      case atStart => exact ⟨0, 0, by omega, by go_num, rfl, rfl⟩
      case round =>
        obtain ⟨p, n, hp, rfl, rfl, rfl⟩ := hrel
        by_cases hpl : k + 1 + p < t.length
        · have hS := Lib.hid (rstays_calls m t v _ k (k + 1 + p) w.heap.size (wo.drewN n) (Rd.below HF.out (drn HB.out n)) (Rd.below HV.out (drn HB.out n)) HG.out HT.out (by omega) hpl)
          have hset := Lib.hid (show Fld.aset m t k (p + 1) = if Fld.stay m t k (k + 1 + p) = true then Fld.aset m t k p + 2 ^ (k + 1 + p) else Fld.aset m t k p from rfl)
          have hlt := Fld.aset_lt m t k p
          have h24 : 2 ^ (k + 1 + p) ≤ 2 ^ 24 := Nat.pow_le_pow_right (by omega) (by omega)
          have hP := Lib.hid fun w5 => pow2_calls (k + 1 + p) w5 (by omega)
          generalize Fld.aset m t k p = s at *
          cases hst : Fld.stay m t k (k + 1 + p) with
          | false =>
            rw [hst] at hS hset
            clear hst
            go_wp2_with fail
            (with_reducible refine hS.out.mono ?_)
            rintro e w5 ⟨rfl, n2, rfl⟩
            clear hS
            go_wp2_with fail
            go_roundw
            case rel => exact ⟨p + 1, _, by omega, by go_num, by rw [hset.out]; rfl, rfl⟩
            case measure => simp [intOf]; omega
          | true =>
            rw [hst] at hS hset
            clear hst
            generalize hq : 2 ^ (k + 1 + p) = q at *
            clear hq
            go_wp2_with fail
            (with_reducible refine hS.out.mono ?_)
            rintro e w5 ⟨rfl, n2, rfl⟩
            clear hS
            go_wp2_with fail
            refine (hP.out _).mono ?_
            rintro e w5 ⟨rfl, rfl⟩
            clear hP
            go_wp2_with fail
            go_roundw
            case rel => exact ⟨p + 1, _, by omega, by go_num, by rw [hset.out, if_pos trivial]; go_num, rfl⟩
            case measure => simp [intOf]; omega
        · obtain rfl : p = t.length - (k + 1) := by omega
          have HTKk := Lib.hid (HTK.out k hkl)
          have hoX := HO.out.drewN n
          have hbX := drn HB.out n
          generalize wo.drewN n = wX at *
          generalize Fld.aset m t k (t.length - (k + 1)) = s at *
          have hbs := hbX.size
          clear hp
          go_wp2_with (at_builtin; refine append_int rfl _ _ rfl w.heap.size _ (zs ((Fld.ahead m t).take k)) rfl (Own.alloc hoX _) wX.heap.size rfl (s : Int) (by simp) (by rw [hol]; omega) (by simp; omega) ?_; intro v' w6 hown6 hb6 _)
          go_roundw
          case rel => exact ⟨k + 1, by omega, by go_num, by rw [HTKk.out]; simpa [zs] using hown6, (hbX.alloc hbX.size _).trans hb6⟩
          case measure => simp [intOf]; omega
    · obtain rfl : k = t.length := by omega
      have hfin : (Fld.ahead m t).take t.length = Fld.ahead m t := by rw [← HLA.out, List.take_length]
      rw [hfin] at hown
      clear hfin hkl
      go_wp2_with fail
      go_ret
      exact ⟨_, rfl, hown, hb⟩
set_option maxHeartbeats 1000000 in
theorem ronly_calls (t : List Nat) (u : Value) (a b : Nat) (w : World) (hu : Ints w w.heap.size u (zs t)) (hl : t.length ≤ 24) :
    Calls Tryd.prog 41 #[u, nv a, nv b] w fun e w' => ∃ v', e = .returned v' ∧ Own w' w.heap.size v' (zs (Fld.proj t a b)) ∧ Below w.heap.size w w' := by
  have HV := Lib.hid hu
  obtain ⟨Av, cv, rfl⟩ := Rd.val hu
  have hlz : (zs t).length = t.length := length_zs t
  rw [hlz] at HV ⊢
  clear hu hlz
  go_enter Tryd.func41, Tryd.ntmps41
  go_wp2_with fail
  go_loopw [7, 8] (fun o i wr => ∃ k : Nat, k ≤ t.length ∧ i = nv k ∧ Own wr w.heap.size o (zs (Fld.proj (t.take k) a b)) ∧ Below w.heap.size w wr) (fun _ i _ => t.length - (intOf i).toNat)
  case atStart => exact ⟨0, Nat.zero_le _, rfl, Own.nil _ _, Below.refl _ _⟩
  case round =>
    obtain ⟨k, hk, rfl, hown, hb⟩ := hrel
    have hbs := hb.size
    obtain ⟨wo, rfl⟩ : ∃ wo : World, wo = wr := ⟨_, rfl⟩
    by_cases hkl : k < t.length
    · obtain ⟨b1, off1, c1, he, _, hc1⟩ := Ints.atN (Rd.below HV.out hb) hkl
      cases he
      have hsn := Lib.hid (Fld.proj_take_succ t hkl a b)
      have hpl : (Fld.proj (t.take k) a b).length ≤ 24 := by
        have := Fld.proj_length_le (t.take k) a b
        rw [List.length_take] at this
        omega
      generalize t.getD k 0 = z at *
      by_cases hin : z = a ∨ z = b
      · rw [if_pos hin] at hsn
        have hcs : ((z : Int) == (a : Int)) = true ∨ (((z : Int) == (a : Int)) = false ∧ ((z : Int) == (b : Int)) = true) := by
          by_cases h : z = a
          · exact .inl (by simp; omega)
          · exact .inr ⟨by simp; omega, by simp; omega⟩
        clear hin
        rcases hcs with hz | ⟨hz, hz2⟩
        all_goals
          go_wp2_with (at_builtin; refine append_int rfl _ _ rfl w.heap.size _ (zs (Fld.proj (t.take k) a b)) rfl (Own.alloc hown _) wo.heap.size rfl (z : Int) (by simp) (by rw [length_zs]; omega) (by simp; omega) ?_; intro v' w6 hown6 hb6 _)
          go_roundw
          case rel => exact ⟨k + 1, by omega, by go_num, by rw [hsn.out]; simpa [zs] using hown6, (hb.alloc hbs _).trans hb6⟩
          case measure => simp [intOf]; omega
      · rw [if_neg hin, List.append_nil] at hsn
        have hz : ((z : Int) == (a : Int)) = false := by simp; omega
        have hz2 : ((z : Int) == (b : Int)) = false := by simp; omega
        clear hin
        go_wp2_with fail
        go_roundw
        case rel => exact ⟨k + 1, by omega, by go_num, by rw [hsn.out]; exact hown, hb⟩
        case measure => simp [intOf]; omega
    · obtain rfl : k = t.length := by omega
      rw [List.take_length] at hown
      clear hkl
      go_wp2_with fail
      go_ret
      exact ⟨_, rfl, hown, hb⟩
/-- what the inner loop asks of two letters -/
def Fld.twoOk (m s t : List Nat) (a b : Nat) : Bool := Odr.rel m a b || decide (Fld.proj s a b = Fld.proj t a b)
theorem Fld.alikeB_of {m s t : List Nat} (h : ∀ a, a < m.length → ∀ b, b ≤ a → Fld.twoOk m s t a b = true) : Fld.alikeB m s t = true := by
  unfold Fld.alikeB
  simp only [List.all_eq_true, List.mem_range]
  exact fun a ha b hb => h a ha b (by omega)
theorem Fld.alikeB_not {m s t : List Nat} {a b : Nat} (ha : a < m.length) (hb : b ≤ a) (h : Fld.twoOk m s t a b = false) : Fld.alikeB m s t = false := by
  cases hg : Fld.alikeB m s t
  · rfl
  · unfold Fld.alikeB at hg
    simp only [List.all_eq_true, List.mem_range] at hg
    have := hg a ha b (by omega)
    unfold Fld.twoOk at h
    rw [h] at this; cases this
set_option maxHeartbeats 2000000 in
theorem rsame_words (m s t : List Nat) (f v u : Value) (w : World) (hf : Ints w w.heap.size f (zs m)) (hv : Ints w w.heap.size v (zs s)) (hu : Ints w w.heap.size u (zs t)) (hg : Fld.Good m) (hl1 : s.length ≤ 24) (hl : t.length ≤ 24) :
    Calls Tryd.prog 23 #[f, v, u] w fun e w' => e = .returned (.bool (Fld.alikeB m s t)) ∧ Below w.heap.size w w' := by
  have HF := Lib.hid hf
  have HV := Lib.hid hv
  have HU := Lib.hid hu
  have HG := Lib.hid hg
  have hn := hg.1
  obtain ⟨Af, cf, rfl⟩ := Rd.val hf
  have hlz : (zs m).length = m.length := length_zs m
  rw [hlz] at HF ⊢
  clear hf hv hu hg hlz
  go_enter Tryd.func23, Tryd.ntmps23
  go_wp2_with fail
  go_loopw [7] (fun i wr => ∃ a : Nat, a ≤ m.length ∧ i = nv a ∧ Hid (∀ x, x < a → ∀ b, b ≤ x → Fld.twoOk m s t x b = true) ∧ Below w.heap.size w wr) (fun i _ => m.length - (intOf i).toNat)
  case atStart => exact ⟨0, Nat.zero_le _, rfl, Lib.hid fun x hx => absurd hx (by omega), Below.refl _ _⟩
  case round =>
    obtain ⟨a, ha, rfl, hall, hb⟩ := hrel
    obtain ⟨wo, rfl⟩ : ∃ wo : World, wo = wr := ⟨_, rfl⟩
    by_cases ham : a < m.length
    · go_wp2_with fail
      go_loopw [8] (fun i wr => ∃ b : Nat, b ≤ a + 1 ∧ i = nv b ∧ Hid (∀ y, y < b → Fld.twoOk m s t a y = true) ∧ Below w.heap.size w wr) (fun i _ => a + 1 - (intOf i).toNat)
      case atStart => exact ⟨0, Nat.zero_le _, rfl, Lib.hid fun x hx => absurd hx (by omega), hb⟩
      case round =>
        clear hb
        obtain ⟨b, hb1, rfl, hin, hb⟩ := hrel
        obtain ⟨w4, rfl⟩ : ∃ w4 : World, w4 = wr := ⟨_, rfl⟩
        have HB := Lib.hid hb
        by_cases hbl : b ≤ a
        · obtain ⟨b0, off, c0, he, _, hc⟩ := Ints.atN (Rd.below HF.out hb) ham
          cases he
          have hf64 : m.getD a 0 < 4096 := fits12 (l := m) (by omega) (HG.out.2.1.getD a)
          have hB := Lib.hid (bit12 (m.getD a 0) b w4 hf64 (by omega))
          rw [show (m.getD a 0).testBit b = Odr.rel m a b from rfl] at hB
          have HP := Lib.hid (show Fld.twoOk m s t a b = (Odr.rel m a b || decide (Fld.proj s a b = Fld.proj t a b)) from rfl)
          have HY := Lib.hid fun (h : Fld.twoOk m s t a b = true) => (show ∀ y, y < b + 1 → Fld.twoOk m s t a y = true from fun y hy => by
            rcases Nat.lt_or_ge y b with h' | h'
            · exact hin.out y h'
            · obtain rfl : y = b := by omega
              exact h)
          have HN := Lib.hid fun (h : Fld.twoOk m s t a b = false) => Fld.alikeB_not ham hbl h
          generalize m.getD a 0 = fa at *
          have hbs := hb.size
          cases hbit : Odr.rel m a b with
          | true =>
            rw [hbit] at hB HP
            have HY' := Lib.hid (HY.out (by rw [HP.out]; rfl))
            clear hbit HY HN HP
            go_wp2_with fail
            refine hB.out.mono ?_
            rintro e w' ⟨rfl, rfl⟩
            clear hB
            go_wp2_with fail
            go_roundw
            case rel => exact ⟨b + 1, by omega, by go_num, HY', HB.out⟩
            case measure => simp [intOf]; omega
          | false =>
            rw [hbit, Bool.false_or] at HP
            rw [hbit] at hB
            have ho1 := Lib.hid (ronly_calls s v a b w4 (HV.out.later HB.out) hl1)
            clear hbit hb
            go_wp2_with fail
            refine hB.out.mono ?_
            rintro e w' ⟨rfl, rfl⟩
            clear hB
            go_wp2_with fail
            (with_reducible refine ho1.out.mono ?_)
            rintro e w5 ⟨v5, rfl, hown5, hb5⟩
            have HB5 := Lib.hid (HB.out.trans (hb5.mono HB.out.size))
            have ho2 := Lib.hid (ronly_calls t u a b w5 (HU.out.later HB5.out) hl)
            have HO5 := Lib.hid hown5.ints
            clear ho1 hown5 hb5
            go_wp2_with fail
            (with_reducible refine ho2.out.mono ?_)
            rintro e w6 ⟨v6, rfl, hown6, hb6⟩
            have HB6 := Lib.hid (HB5.out.trans (hb6.mono HB5.out.size))
            have HO6 := Lib.hid (HO5.out.later hb6)
            have hsm := Lib.hid (rsame_calls v5 v6 _ _ w6.heap.size w6 (Nat.le_refl _) HO6.out hown6.ints)
            rw [decide_zs, ← HP.out] at hsm
            clear ho2 hown6 hb6 HP
            cases h2 : Fld.twoOk m s t a b with
            | true =>
              rw [h2] at hsm
              have HY' := Lib.hid (HY.out h2)
              clear HY HN h2
              go_wp2_with fail
              (with_reducible refine hsm.out.mono ?_)
              rintro e w7 ⟨rfl, hb7⟩
              have HB7 := Lib.hid (HB6.out.trans (hb7.mono HB6.out.size))
              clear hsm hb7
              go_wp2_with fail
              go_roundw
              case rel => exact ⟨b + 1, by omega, by go_num, HY', HB7.out⟩
              case measure => simp [intOf]; omega
            | false =>
              rw [h2] at hsm
              have HN' := Lib.hid (HN.out h2)
              clear HY HN h2
              go_wp2_with fail
              (with_reducible refine hsm.out.mono ?_)
              rintro e w7 ⟨rfl, hb7⟩
              have HB7 := Lib.hid (HB6.out.trans (hb7.mono HB6.out.size))
              clear hsm hb7
              go_wp2_with fail
              go_ret
              exact ⟨congrArg (fun x : Bool => Ending.returned (.bool x)) HN'.out.symm, HB7.out⟩
        · obtain rfl : b = a + 1 := by omega
          have HAL := Lib.hid (show ∀ x, x < a + 1 → ∀ b, b ≤ x → Fld.twoOk m s t x b = true from fun x hx b hb => by
            rcases Nat.lt_or_ge x a with h' | h'
            · exact hall.out x h' b hb
            · obtain rfl : x = a := by omega
              exact hin.out b (by omega))
          clear hall hin hb hbl
          go_wp2_with fail
          go_roundw
          case rel => exact ⟨a + 1, by omega, by go_num, HAL, HB.out⟩
          case measure => simp [intOf]; omega
    · obtain rfl : a = m.length := by omega
      have HE := Lib.hid (Fld.alikeB_of hall.out)
      clear hall ham
      go_wp2_with fail
      go_ret
      exact ⟨congrArg (fun x : Bool => Ending.returned (.bool x)) HE.out.symm, hb⟩
end Go.Proofs.YtoedgncbgkdmoaaDoor
