/- Contracts of the reference for words: in, Mask, With, same, Free, Word. Conditions: each contract's own premises. -/
import Derived.Test.YtoedgncbgkdmoaaDoorFSwaps
import Derived.Test.YtoedgncbgkdmoaaDoorFSayM
namespace Go.Proofs.YtoedgncbgkdmoaaDoor
open Go.RowKit

theorem rin_calls (n lo hi : Int) (w : World) : Calls Tryd.prog 36 #[.int .i64 n, .int .i64 lo, .int .i64 hi] w fun e w' => e = .returned (.bool (decide (lo ≤ n ∧ n ≤ hi))) ∧ w = w' := by
  have HD := Lib.hid (show decide (lo ≤ n ∧ n ≤ hi) = (decide (lo ≤ n) && decide (n ≤ hi)) from Bool.decide_and _ _)
  generalize decide (lo ≤ n ∧ n ≤ hi) = d at *
  by_cases h1 : lo ≤ n
  · by_cases h2 : n ≤ hi
    · have t1 : decide (lo ≤ n) = true := by simpa using h1
      have t2 : decide (n ≤ hi) = true := by simpa using h2
      obtain rfl : d = true := HD.out.trans (by simp [t1, t2])
      clear HD h1 h2
      go_enter Tryd.func36, Tryd.ntmps36
      go_wp2_with fail
      go_ret
      exact ⟨rfl, rfl⟩
    · have t1 : decide (lo ≤ n) = true := by simpa using h1
      have t2 : decide (n ≤ hi) = false := by simpa using h2
      obtain rfl : d = false := HD.out.trans (by simp [t1, t2])
      clear HD h1 h2
      go_enter Tryd.func36, Tryd.ntmps36
      go_wp2_with fail
      go_ret
      exact ⟨rfl, rfl⟩
  · have t1 : decide (lo ≤ n) = false := by simpa using h1
    obtain rfl : d = false := HD.out.trans (by simp [t1])
    clear HD h1
    go_enter Tryd.func36, Tryd.ntmps36
    go_wp2_with fail
    go_ret
    exact ⟨rfl, rfl⟩
theorem rmask_calls (s : Int) (n : Nat) (w : World) (hn : n ≤ 12) : Calls Tryd.prog 35 #[.int .i64 s, nv n] w fun e w' => e = .returned (.bool (decide (0 ≤ s ∧ s < 2 ^ n))) ∧ w = w' := by
  by_cases h0 : 0 ≤ s
  · have hP := Lib.hid (pow2_calls n w (by omega))
    have hc : ((2 ^ n : Nat) : Int) = (2 : Int) ^ n := by rw [Int.natCast_pow]; rfl
    have HC := Lib.hid (show decide (s < ((2 ^ n : Nat) : Int)) = decide (0 ≤ s ∧ s < 2 ^ n) by rw [hc]; simp [h0])
    clear hc
    go_enter Tryd.func35, Tryd.ntmps35
    go_wp2_with fail
    refine hP.out.mono ?_
    rintro e w' ⟨rfl, rfl⟩
    clear hP
    go_wp2_with fail
    go_ret
    exact ⟨by rw [← HC.out]; rfl, rfl⟩
  · have hd : decide (0 ≤ s) = false := by simpa using h0
    have HC := Lib.hid (show decide (0 ≤ s ∧ s < 2 ^ n) = false by simp; omega)
    clear h0
    go_enter Tryd.func35, Tryd.ntmps35
    go_wp2_with fail
    go_ret
    exact ⟨by rw [HC.out]; simp, rfl⟩
theorem rwith_calls (s i : Nat) (w : World) (hs : s < 4096) (hi : i < 12) : Calls Tryd.prog 38 #[nv s, nv i] w fun e w' => e = .returned (nv (s ||| 2 ^ i)) ∧ w = w' := by
  have hB := Lib.hid (bit12 s i w hs (by omega))
  have hP := Lib.hid (pow2_calls i w (by omega))
  have h12 : 2 ^ i ≤ 2048 := show 2 ^ i ≤ 2 ^ 11 from Nat.pow_le_pow_right (by omega) (by omega)
  cases hbit : s.testBit i with
  | true =>
    rw [hbit] at hB
    have HO := Lib.hid (show s ||| 2 ^ i = s by
      apply Nat.eq_of_testBit_eq
      intro k
      rw [Nat.testBit_or, Odr.testBit_two_pow']
      by_cases h : i = k
      · subst h; simp [hbit]
      · simp [h])
    clear hbit
    go_enter Tryd.func38, Tryd.ntmps38
    go_wp2_with fail
    refine hB.out.mono ?_
    rintro e w' ⟨rfl, rfl⟩
    clear hB
    go_wp2_with fail
    go_ret
    exact ⟨by rw [HO.out]; rfl, rfl⟩
  | false =>
    rw [hbit] at hB
    have HO := Lib.hid (show s ||| 2 ^ i = s + 2 ^ i from Odr.or_bit hbit)
    clear hbit
    obtain ⟨y, hy⟩ : ∃ y, y = 2 ^ i := ⟨_, rfl⟩
    rw [← hy] at hP HO h12 ⊢
    clear hy
    go_enter Tryd.func38, Tryd.ntmps38
    go_wp2_with fail
    refine hB.out.mono ?_
    rintro e w' ⟨rfl, rfl⟩
    clear hB
    go_wp2_with fail
    refine hP.out.mono ?_
    rintro e w' ⟨rfl, rfl⟩
    clear hP
    go_wp2_with fail
    go_ret
    refine ⟨?_, rfl⟩
    rw [HO.out]
    show Ending.returned (.int .i64 ((s : Int) + (y : Int))) = Ending.returned (.int .i64 ((s + y : Nat) : Int))
    rw [Int.natCast_add]
theorem rsame_calls (v u : Value) (l m : List Int) (B : Nat) (w : World) (hB : B ≤ w.heap.size) (hv : Ints w B v l) (hu : Ints w B u m) :
    Calls Tryd.prog 40 #[v, u] w fun e w' => e = .returned (.bool (decide (l = m))) ∧ Below w.heap.size w w' := by
  obtain ⟨A, cap, rfl⟩ := Rd.val hv
  obtain ⟨A', cap', rfl⟩ := Rd.val hu
  have lv := Rd.le hv
  have lu := Rd.le hu
  unfold maxLen at lv lu
  by_cases hl : l.length = m.length
  · have hl' : ((l.length : Int) != (m.length : Int)) = false := by simp [hl]
    have HL := Lib.hid hl
    clear hl
    go_enter Tryd.func40, Tryd.ntmps40
    go_wp2
    go_loopw [5] (fun i wr => ∃ k : Nat, k ≤ l.length ∧ i = .int .i64 k ∧ Hid (∀ j, j < k → l[j]? = m[j]?) ∧ Below w.heap.size w wr) (fun i _ => l.length - (intOf i).toNat)
    case atStart => exact ⟨0, Nat.zero_le _, rfl, Lib.hid (fun j hj => absurd hj (by omega)), Below.refl _ _⟩
    case round =>
      obtain ⟨k, hk, rfl, heq, hb⟩ := hrel
      by_cases hlt : k < l.length
      · have hlt' : k < m.length := by have := HL.out; omega
        obtain ⟨b, off, c1, he, _, hc⟩ := Ints.at_ (Rd.below hv (hb.mono hB)) hlt
        cases he
        obtain ⟨b', off', c2, he, _, hc'⟩ := Ints.at_ (Rd.below hu (hb.mono hB)) hlt'
        cases he
        have e1 := List.getElem?_eq_getElem hlt
        have e2 := List.getElem?_eq_getElem hlt'
        generalize l[k] = x at *
        generalize m[k] = y at *
        have E1 := Lib.hid e1
        have E2 := Lib.hid e2
        clear e1 e2 hv hu
        by_cases hxy : x = y
        · subst hxy
          go_wp2
          go_quiet (fail)
          go_wp2
          go_roundw
          case rel => exact ⟨k + 1, by omega, by go_num, Lib.hid (fun j hj => by
            rcases Nat.lt_or_ge j k with h | h
            · exact heq.out j h
            · obtain rfl : j = k := by omega
              rw [E1.out, E2.out]), drn hb _⟩
          case measure => simp [intOf]; omega
        · have hne : (x != y) = true := by simp [hxy]
          have hn : ¬ l = m := by
            rintro rfl
            have := E1.out.symm.trans E2.out
            exact hxy (by injection this)
          have HN := Lib.hid hn
          clear hxy hn
          go_wp2
          go_quiet (fail)
          go_wp2
          go_ret
          exact ⟨by simp [HN.out], drn hb _⟩
      · have hge : l.length ≤ k := by omega
        clear hlt
        have heq' : l = m := by
          apply List.ext_getElem?
          intro j
          rcases Nat.lt_or_ge j k with h | h
          · exact heq.out j h
          · have := HL.out
            rw [List.getElem?_eq_none (by omega), List.getElem?_eq_none (by omega)]
        have HE := Lib.hid heq'
        clear heq'
        go_wp2
        go_ret
        exact ⟨by simp [HE.out], hb⟩
  · have hl' : ((l.length : Int) != (m.length : Int)) = true := by simp; omega
    have HL := Lib.hid hl
    clear hl
    go_enter Tryd.func40, Tryd.ntmps40
    go_wp2
    go_ret
    exact ⟨by simp; intro h; subst h; exact HL.out rfl, Below.refl _ _⟩
theorem freeCode_mask {l : List Int} (h : l.length ≤ 6) (hm : ¬ masksOk l) : freeCode l = 1 := by
  unfold freeCode; rw [if_neg (by omega), if_neg hm]
theorem freeCode_fits {m : List Nat} (h : m.length ≤ 6) (hf : Odr.Fits m) : freeCode (zs m) = if Fld.goodB m = true then 0 else 6 := by
  unfold freeCode
  rw [if_neg (by rw [length_zs]; omega), if_pos (masksOk_zs hf), zs_toNat]
/-- what the inner loop asks of a place -/
def Fld.pairOk (m : List Nat) (i j : Nat) : Bool := !Odr.rel m i j || Odr.rel m j i
theorem Fld.goodB_of {m : List Nat} (h : ∀ i, i < m.length → Odr.rel m i i = false ∧ ∀ j, j < m.length → Fld.pairOk m i j = true) : Fld.goodB m = true := by
  unfold Fld.goodB
  rw [List.all_eq_true]
  intro i hi
  obtain ⟨h1, h2⟩ := h i (List.mem_range.1 hi)
  rw [Bool.and_eq_true, List.all_eq_true]
  exact ⟨by rw [h1]; rfl, fun j hj => h2 j (List.mem_range.1 hj)⟩
theorem Fld.goodB_not {m : List Nat} {i j : Nat} (hi : i < m.length) (h : Odr.rel m i i = true ∨ (j < m.length ∧ Fld.pairOk m i j = false)) : Fld.goodB m = false := by
  cases hg : Fld.goodB m
  · rfl
  · exfalso
    unfold Fld.goodB at hg
    rw [List.all_eq_true] at hg
    have h1 := hg i (List.mem_range.2 hi)
    rw [Bool.and_eq_true, List.all_eq_true] at h1
    rcases h with h | ⟨hj, h⟩
    · rw [h] at h1; cases h1.1
    · have h2 := h1.2 j (List.mem_range.2 hj)
      unfold Fld.pairOk at h
      rw [h] at h2; cases h2
set_option maxHeartbeats 2000000 in
theorem rfree_calls (l : List Int) (v : Value) (w : World) (hr : Ints w w.heap.size v l) :
    Calls Tryd.prog 18 #[v] w fun e w' => e = .returned (nv (freeCode l)) ∧ w = w' := by
  obtain ⟨A, cap, rfl⟩ := Rd.val hr
  have hml := Rd.le hr
  unfold maxLen at hml
  by_cases h12 : 6 < l.length
  · have HO := Lib.hid (show freeCode l = 4 by unfold freeCode; rw [if_pos h12])
    clear hr
    go_enter Tryd.func18, Tryd.ntmps18
    go_wp2_with fail
    go_ret
    exact ⟨by rw [HO.out]; rfl, rfl⟩
  · have hle : l.length ≤ 6 := by omega
    have hd12 : decide (6 < l.length) = false := by simpa using h12
    clear h12
    go_enter Tryd.func18, Tryd.ntmps18
    go_wp2_with fail
    clear hd12
    go_loop [3] (fun i => ∃ k : Nat, k ≤ l.length ∧ i = nv k ∧ Hid (∀ j, j < k → ∀ x, l[j]? = some x → 0 ≤ x ∧ x < 2 ^ l.length)) (fun i => l.length - (intOf i).toNat)
    case atStart => exact ⟨0, Nat.zero_le _, rfl, Lib.hid fun j hj => absurd hj (by omega)⟩
    case round =>
      obtain ⟨k, hk, rfl, hall⟩ := hrel
      by_cases hkl : k < l.length
      · obtain ⟨b0, off, cap', he, _, hc⟩ := Ints.at_ hr hkl
        injection he with he1 he2 he3
        subst he1 he3
        clear he2
        have hx0 := List.getElem?_eq_getElem hkl
        obtain ⟨x, hx⟩ : ∃ x, x = l[k] := ⟨_, rfl⟩
        rw [← hx] at hc hx0
        have HX0 := Lib.hid hx0
        have hM := Lib.hid (rmask_calls x l.length w (by omega))
        have HRR := Lib.hid hr
        clear hx hx0 hr
        by_cases hok : 0 ≤ x ∧ x < 2 ^ l.length
        · rw [decide_eq_true hok] at hM
          have hall' := Lib.hid (show ∀ j, j < k + 1 → ∀ x, l[j]? = some x → 0 ≤ x ∧ x < 2 ^ l.length from fun j hj y hy => by
            rcases Nat.lt_or_ge j k with h | h
            · exact hall.out j h y hy
            · obtain rfl : j = k := by omega
              rw [HX0.out] at hy
              injection hy with hy
              subst hy
              exact hok)
          clear hok
          go_wp2_with fail
          refine hM.out.mono ?_
          rintro e w' ⟨rfl, rfl⟩
          clear hM
          go_wp2_with fail
          go_round
          case rel => exact ⟨k + 1, by omega, by go_num, hall'⟩
          case measure => simp [intOf]; omega
        · rw [decide_eq_false hok] at hM
          have HO := Lib.hid (show freeCode l = 1 from freeCode_mask hle fun h => hok (h x (List.mem_of_getElem? HX0.out)))
          clear hok
          go_wp2_with fail
          refine hM.out.mono ?_
          rintro e w' ⟨rfl, rfl⟩
          clear hM
          go_wp2_with fail
          go_ret
          exact ⟨by rw [HO.out]; rfl, rfl⟩
      · obtain rfl : k = l.length := by omega
        have hmk : masksOk l := fun x hx => by
          obtain ⟨i, hi, he⟩ := List.mem_iff_getElem.1 hx
          exact hall.out i hi x (by rw [List.getElem?_eq_getElem hi, he])
        obtain ⟨hz, hf⟩ := masks_nat hmk
        generalize l.map Int.toNat = m at *
        subst hz
        have hm6 : m.length ≤ 6 := by simpa using hle
        have HO := Lib.hid (freeCode_fits hm6 hf)
        have HFI := Lib.hid hf
        have HR := Lib.hid hr
        clear hall hmk hf hr hkl hk hle
        simp only [length_zs] at *
        go_wp2_with fail
        go_loop [4] (fun i => ∃ k : Nat, k ≤ m.length ∧ i = nv k ∧ Hid (∀ i, i < k → Odr.rel m i i = false ∧ ∀ j, j < m.length → Fld.pairOk m i j = true)) (fun i => m.length - (intOf i).toNat)
        case atStart => exact ⟨0, Nat.zero_le _, rfl, Lib.hid fun j hj => absurd hj (by omega)⟩
        case round =>
          obtain ⟨k, hk, rfl, hall⟩ := hrel
          by_cases hkm : k < m.length
          · obtain ⟨b0, off, cap', he, _, hc⟩ := Ints.atN HR.out hkm
            cases he
            have hx12 : m.getD k 0 < 4096 := fits12 (l := m) (by omega) (HFI.out.getD k)
            have hB := Lib.hid fun i (hi : i < 64) => bit12 (m.getD k 0) i w hx12 hi
            have hRL := Lib.hid fun i => (show (m.getD k 0).testBit i = Odr.rel m k i from rfl)
            generalize m.getD k 0 = x at *
            cases hbit : Odr.rel m k k with
            | true =>
              have hB0 := Lib.hid (hB.out k (by omega))
              rw [hRL.out k, hbit] at hB0
              have HO6 := Lib.hid (show freeCode (zs m) = 6 by rw [HO.out, if_neg]; rw [Fld.goodB_not hkm (j := 0) (.inl hbit)]; simp)
              clear hbit
              go_wp2_with fail
              refine hB0.out.mono ?_
              rintro e w' ⟨rfl, rfl⟩
              clear hB0
              go_wp2_with fail
              go_ret
              exact ⟨by rw [HO6.out]; rfl, rfl⟩
            | false =>
              have hB0 := Lib.hid (hB.out k (by omega))
              rw [hRL.out k, hbit] at hB0
              have HBK := Lib.hid hbit
              clear hbit
              go_wp2_with fail
              refine hB0.out.mono ?_
              rintro e w' ⟨rfl, rfl⟩
              clear hB0
              go_wp2_with fail
              go_loop [5] (fun i => ∃ j : Nat, j ≤ m.length ∧ i = nv j ∧ Hid (∀ i, i < j → Fld.pairOk m k i = true)) (fun i => m.length - (intOf i).toNat)
              case atStart => exact ⟨0, Nat.zero_le _, rfl, Lib.hid fun j hj => absurd hj (by omega)⟩
              case round =>
                obtain ⟨j, hj, rfl, hin⟩ := hrel
                by_cases hjm : j < m.length
                · obtain ⟨b1, off1, cap1, he, _, hc1⟩ := Ints.atN HR.out hjm
                  cases he
                  have hy12 : m.getD j 0 < 4096 := fits12 (l := m) (by omega) (HFI.out.getD j)
                  have hB1 := Lib.hid (bit12 (m.getD j 0) k w hy12 (by omega))
                  rw [show (m.getD j 0).testBit k = Odr.rel m j k from rfl] at hB1
                  have hB2 := Lib.hid (hB.out j (by omega))
                  rw [hRL.out j] at hB2
                  have HPO := Lib.hid (show Fld.pairOk m k j = (!Odr.rel m k j || Odr.rel m j k) from rfl)
                  have HN := Lib.hid fun (h : Fld.pairOk m k j = true) => (show ∀ i, i < j + 1 → Fld.pairOk m k i = true from fun i hi => by
                    rcases Nat.lt_or_ge i j with h' | h'
                    · exact hin.out i h'
                    · obtain rfl : i = j := by omega
                      exact h)
                  have HNO := Lib.hid fun (h : Fld.pairOk m k j = false) => (show freeCode (zs m) = 6 by rw [HO.out, if_neg]; rw [Fld.goodB_not hkm (j := j) (.inr ⟨hjm, h⟩)]; simp)
                  generalize m.getD j 0 = y at *
                  cases h1 : Odr.rel m k j with
                  | false =>
                    rw [h1] at hB2 HPO
                    have HN' := Lib.hid (HN.out (by rw [HPO.out]; rfl))
                    clear h1 HN HNO HPO
                    go_wp2_with fail
                    refine hB2.out.mono ?_
                    rintro e w' ⟨rfl, rfl⟩
                    clear hB2
                    go_wp2_with fail
                    go_round
                    case rel => exact ⟨j + 1, by omega, by go_num, HN'⟩
                    case measure => simp [intOf]; omega
                  | true =>
                    rw [h1] at hB2 HPO
                    cases h2 : Odr.rel m j k with
                    | true =>
                      rw [h2] at hB1 HPO
                      have HN' := Lib.hid (HN.out (by rw [HPO.out]; rfl))
                      clear h1 h2 HN HNO HPO
                      go_wp2_with fail
                      refine hB2.out.mono ?_
                      rintro e w' ⟨rfl, rfl⟩
                      clear hB2
                      go_wp2_with fail
                      refine hB1.out.mono ?_
                      rintro e w' ⟨rfl, rfl⟩
                      clear hB1
                      go_wp2_with fail
                      go_round
                      case rel => exact ⟨j + 1, by omega, by go_num, HN'⟩
                      case measure => simp [intOf]; omega
                    | false =>
                      rw [h2] at hB1 HPO
                      have HN' := Lib.hid (HNO.out (by rw [HPO.out]; rfl))
                      clear h1 h2 HN HNO HPO
                      go_wp2_with fail
                      refine hB2.out.mono ?_
                      rintro e w' ⟨rfl, rfl⟩
                      clear hB2
                      go_wp2_with fail
                      refine hB1.out.mono ?_
                      rintro e w' ⟨rfl, rfl⟩
                      clear hB1
                      go_wp2_with fail
                      go_ret
                      exact ⟨by rw [HN'.out]; rfl, rfl⟩
                · obtain rfl : j = m.length := by omega
                  have HAL := Lib.hid (show ∀ i, i < k + 1 → Odr.rel m i i = false ∧ ∀ j, j < m.length → Fld.pairOk m i j = true from fun i hi => by
                    rcases Nat.lt_or_ge i k with h' | h'
                    · exact hall.out i h'
                    · obtain rfl : i = k := by omega
                      exact ⟨HBK.out, hin.out⟩)
                  clear hall hin hjm
                  go_wp2_with fail
                  go_round
                  case rel => exact ⟨k + 1, by omega, by go_num, HAL⟩
                  case measure => simp [intOf]; omega
          · obtain rfl : k = m.length := by omega
            have HO0 := Lib.hid (show freeCode (zs m) = 0 by rw [HO.out, if_pos]; exact Fld.goodB_of hall.out)
            go_wp2_with fail
            go_ret
            exact ⟨by rw [HO0.out]; rfl, rfl⟩
/-- what the loop over the letters makes of the code -/
def letCode (n c : Nat) (u : List Int) (k : Nat) : Nat := if c ≠ 0 then c else if lettersOk n (u.take k) then 0 else 1
theorem letCode_zero (n c : Nat) (u : List Int) : letCode n c u 0 = c := by
  unfold letCode
  by_cases h : c = 0
  · subst h; simp [lettersOk]
  · rw [if_pos h]
theorem letCode_stay {n c : Nat} {u : List Int} {k : Nat} (h : letCode n c u k ≠ 0) (k' : Nat) (hk : k ≤ k') : letCode n c u k' = letCode n c u k := by
  unfold letCode at *
  by_cases h0 : c ≠ 0
  · rw [if_pos h0, if_pos h0]
  · rw [if_neg h0] at *
    rw [if_neg h0]
    by_cases h1 : lettersOk n (u.take k)
    · rw [if_pos h1] at h; exact absurd rfl h
    · rw [if_neg h1, if_neg fun h2 => h1 fun x hx => h2 x ((List.take_subset_take_left u hk) hx)]
theorem letCode_step {n c : Nat} {u : List Int} {k : Nat} (h : letCode n c u k = 0) (hk : k < u.length) : letCode n c u (k + 1) = if 0 ≤ u[k] ∧ u[k] < n then 0 else 1 := by
  unfold letCode at *
  by_cases h0 : c ≠ 0
  · rw [if_pos h0] at h; exact absurd h h0
  · rw [if_neg h0] at *
    by_cases h1 : lettersOk n (u.take k)
    · have hi : lettersOk n (u.take (k + 1)) ↔ 0 ≤ u[k] ∧ u[k] < n := by
        rw [List.take_succ_eq_append_getElem hk]
        constructor
        · intro h; exact h _ (List.mem_append_right _ (List.mem_singleton.2 rfl))
        · intro h x hx
          rcases List.mem_append.1 hx with hx | hx
          · exact h1 x hx
          · simp at hx; subst hx; exact h
      by_cases h2 : 0 ≤ u[k] ∧ u[k] < n
      · rw [if_pos h2, if_pos (hi.2 h2)]
      · rw [if_neg h2, if_neg fun h => h2 (hi.1 h)]
    · rw [if_neg h1] at h; cases h
set_option maxHeartbeats 2000000 in
theorem rword_calls (l u : List Int) (v x : Value) (w : World) (hv : Ints w w.heap.size v l) (hu : Ints w w.heap.size x u) :
    Calls Tryd.prog 19 #[v, x] w fun e w' => e = .returned (nv (wordCode l u)) ∧ w = w' := by
  have HFC := Lib.hid (rfree_calls l v w hv)
  obtain ⟨c, hc⟩ : ∃ c, c = if freeCode l = 0 ∧ 24 < u.length then 4 else freeCode l := ⟨_, rfl⟩
  have HW := Lib.hid (show wordCode l u = letCode l.length c u u.length by
    unfold wordCode letCode
    rw [List.take_length, hc]
    by_cases h0 : freeCode l = 0
    · by_cases h1 : 24 < u.length
      · simp [h0, h1]
      · simp [h0, h1]
    · simp [h0])
  have hc6 : 0 < c → l.length ≤ 6 ∨ c ≠ 0 := fun _ => by omega
  have hle : c = 0 → l.length ≤ 6 := fun h => by
    rw [hc] at h
    split at h
    · cases h
    · obtain ⟨m, rfl, hg⟩ := freeCode_zero h
      rw [length_zs]; exact hg.1
  obtain ⟨A, cap, rfl⟩ := Rd.val hv
  obtain ⟨A', cap', rfl⟩ := Rd.val hu
  have hul := Rd.le hu
  unfold maxLen at hul
  have HU := Lib.hid hu
  have HLE := Lib.hid hle
  have HC := Lib.hid hc
  clear hv hu hle hc6 hc
  have hcase : (((freeCode l : Nat) : Int) == 0) = false ∧ c = freeCode l ∨ (((freeCode l : Nat) : Int) == 0) = true ∧ decide ((24 : Int) < (u.length : Int)) = true ∧ c = 4 ∨ (((freeCode l : Nat) : Int) == 0) = true ∧ decide ((24 : Int) < (u.length : Int)) = false ∧ c = freeCode l := by
    rw [HC.out]
    by_cases h0 : freeCode l = 0
    · by_cases h1 : 24 < u.length
      · exact .inr (.inl ⟨by rw [h0]; rfl, by simp; omega, by rw [if_pos ⟨h0, h1⟩]⟩)
      · exact .inr (.inr ⟨by rw [h0]; rfl, by simp; omega, by rw [if_neg fun h => h1 h.2]⟩)
    · exact .inl ⟨by simp; omega, by rw [if_neg fun h => h0 h.1]⟩
  generalize freeCode l = fc at *
  generalize wordCode l u = wc at *
  generalize l.length = n at *
  go_enter Tryd.func19, Tryd.ntmps19
  go_wp2_with fail
  refine HFC.out.mono ?_
  rintro e w' ⟨rfl, rfl⟩
  clear HFC
  rcases hcase with ⟨t1, rfl⟩ | ⟨t1, t2, h4⟩ | ⟨t1, t2, rfl⟩
  all_goals
    first | (have H4 := Lib.hid h4; clear h4) | skip
    go_wp2_with fail
    first | clear t2 | skip
    clear t1
    go_loop [5, 6] (fun e i => ∃ k : Nat, k ≤ u.length ∧ i = nv k ∧ e = nv (letCode n c u k)) (fun _ i => u.length - (intOf i).toNat)
    case atStart => exact ⟨0, Nat.zero_le _, rfl, by first | exact (congrArg nv (letCode_zero _ _ _)).symm | (rw [letCode_zero, H4.out]; rfl)⟩
    case round =>
      obtain ⟨k, hk, rfl, rfl⟩ := hrel
      by_cases hkl : k < u.length
      · by_cases hd : letCode n c u k = 0
        · have hn6 := HLE.out (by
            unfold letCode at hd
            by_cases h0 : c ≠ 0
            · rw [if_pos h0] at hd; exact hd
            · simpa using h0)
          obtain ⟨b0, off, cap', he, _, hc⟩ := Ints.at_ HU.out hkl
          cases he
          have hst := Lib.hid (letCode_step hd hkl)
          have hd0 : ((letCode n c u k : Nat) : Int) == 0 := by rw [hd]; rfl
          generalize letCode n c u k = d at *
          generalize u[k] = x at *
          have hin := Lib.hid (rin_calls x 0 ((n : Int) - 1) w)
          have e1 : IntKind.i64.wrap ((n : Int) - 1) = (n : Int) - 1 := IntWalk.i64_in _ (by constructor <;> omega)
          have hde : d = 0 := hd
          clear hd
          by_cases hx : 0 ≤ x ∧ x ≤ (n : Int) - 1
          · rw [decide_eq_true hx] at hin
            have hst' := Lib.hid (show letCode n c u (k + 1) = d by rw [hst.out, if_pos (by omega), hde])
            clear hx hde hst
            go_wp2_with fail
            refine hin.out.mono ?_
            rintro e w' ⟨rfl, rfl⟩
            clear hin
            go_wp2_with fail
            go_round
            case rel => exact ⟨k + 1, by omega, by go_num, by rw [hst'.out]⟩
            case measure => simp [intOf]; omega
          · rw [decide_eq_false hx] at hin
            have hst' := Lib.hid (show letCode n c u (k + 1) = 1 by rw [hst.out, if_neg (by omega)])
            clear hx hde hst
            go_wp2_with fail
            refine hin.out.mono ?_
            rintro e w' ⟨rfl, rfl⟩
            clear hin
            go_wp2_with fail
            go_round
            case rel => exact ⟨k + 1, by omega, by go_num, by rw [hst'.out]; rfl⟩
            case measure => simp [intOf]; omega
        · have hend := Lib.hid (show wc = letCode n c u k by rw [HW.out, letCode_stay hd _ hk])
          have hd0 : (((letCode n c u k : Nat) : Int) == 0) = false := by simp; omega
          generalize letCode n c u k = d at *
          clear hd
          go_wp2_with fail
          go_ret
          exact ⟨congrArg (fun x : Nat => Ending.returned (nv x)) hend.out.symm, rfl⟩
      · obtain rfl : k = u.length := by omega
        have hend := HW.out
        clear hkl hk
        rw [← hend]
        go_wp2_with fail
        go_ret
        exact ⟨rfl, rfl⟩
end Go.Proofs.YtoedgncbgkdmoaaDoor
