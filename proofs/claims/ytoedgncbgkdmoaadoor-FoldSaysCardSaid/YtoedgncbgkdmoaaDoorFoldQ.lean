/- Contracts of package fold: Same. Conditions: each contract's own premises. -/
import Derived.Test.YtoedgncbgkdmoaaDoorFoldS
namespace Go.Proofs.YtoedgncbgkdmoaaDoor
open Go.RowKit

/-- the library's comparison of two slices -/
theorem equal_calls (v u : Value) (l m : List Int) (B : Nat) (w : World) (hB : B ≤ w.heap.size) (hv : Ints w B v l) (hu : Ints w B u m) :
    Calls Tryd.prog 27 #[v, u] w fun e w' => e = .returned (.bool (decide (l = m))) ∧ Below w.heap.size w w' := by
  obtain ⟨A, cap, rfl⟩ := Rd.val hv
  obtain ⟨A', cap', rfl⟩ := Rd.val hu
  have lv := Rd.le hv
  have lu := Rd.le hu
  unfold maxLen at lv lu
  by_cases hl : l.length = m.length
  · have hl' : ((l.length : Int) != (m.length : Int)) = false := by simp [hl]
    have HL := Lib.hid hl
    clear hl
    go_enter Tryd.func27, Tryd.ntmps27
    go_wp2
    go_loopw [13] (fun i wr => ∃ k : Nat, k ≤ l.length ∧ i = .int .i64 k ∧ Hid (∀ j, j < k → l[j]? = m[j]?) ∧ Below w.heap.size w wr) (fun i _ => l.length - (intOf i).toNat)
    case atStart => exact ⟨0, Nat.zero_le _, rfl, Lib.hid (fun j hj => absurd hj (by omega)), Below.refl _ _⟩
    case round =>
      obtain ⟨k, hk, rfl, heq, hb⟩ := hrel
      by_cases hlt : k < l.length
      · have hlt' : k < m.length := by have := HL.out; omega
        obtain ⟨b, off, c1, he, _, hc⟩ := Ints.at_ (Rd.below hv (hb.mono hB)) hlt
        cases he
        obtain ⟨b', off', c2, he, _, hc'⟩ := Ints.at_ (Rd.below hu (hb.mono hB)) hlt'
        cases he
        have e1 := List.getElem?_eq_getElem hlt
        have e2 := List.getElem?_eq_getElem hlt'
        generalize l[k] = x at *
        generalize m[k] = y at *
        have E1 := Lib.hid e1
        have E2 := Lib.hid e2
        clear e1 e2 hv hu
        by_cases hxy : x = y
        · subst hxy
          go_wp2
          go_quiet (fail)
          go_wp2
          go_roundw
          case rel => exact ⟨k + 1, by omega, by go_num, Lib.hid (fun j hj => by
            rcases Nat.lt_or_ge j k with h | h
            · exact heq.out j h
            · obtain rfl : j = k := by omega
              rw [E1.out, E2.out]), drn hb _⟩
          case measure => simp [intOf]; omega
        · have hne : (x != y) = true := by simp [hxy]
          have hn : ¬ l = m := by
            rintro rfl
            have := E1.out.symm.trans E2.out
            exact hxy (by injection this)
          have HN := Lib.hid hn
          clear hxy hn
          go_wp2
          go_quiet (fail)
          go_wp2
          go_ret
          exact ⟨by simp [HN.out], drn hb _⟩
      · have hge : l.length ≤ k := by omega
        clear hlt
        have heq' : l = m := by
          apply List.ext_getElem?
          intro j
          rcases Nat.lt_or_ge j k with h | h
          · exact heq.out j h
          · have := HL.out
            rw [List.getElem?_eq_none (by omega), List.getElem?_eq_none (by omega)]
        have HE := Lib.hid heq'
        clear heq'
        go_wp2
        go_ret
        exact ⟨by simp [HE.out], hb⟩
  · have hl' : ((l.length : Int) != (m.length : Int)) = true := by simp; omega
    have HL := Lib.hid hl
    clear hl
    go_enter Tryd.func27, Tryd.ntmps27
    go_wp2
    go_ret
    exact ⟨by simp; intro h; subst h; exact HL.out rfl, Below.refl _ _⟩

theorem zs_inj {a b : List Nat} (h : zs a = zs b) : a = b := by
  have := congrArg (List.map Int.toNat) h
  rwa [zs_toNat, zs_toNat] at this
theorem decide_zs (a b : List Nat) : decide (zs a = zs b) = decide (a = b) := decide_eq_decide.2 ⟨zs_inj, fun h => by rw [h]⟩

/-- what is wrong with two words -/
def sameCode (l p q : List Int) : Nat := if wordCode l p ≠ 0 then wordCode l p else wordCode l q

theorem same_err (l p q : List Int) (f v u : Value) (w : World) (hf : Ints w w.heap.size f l) (hv : Ints w w.heap.size v p) (hu : Ints w w.heap.size u q) (hne : sameCode l p q ≠ 0) (hT : Tab w) :
    Calls Tryd.prog 10 #[f, v, u] w fun e w' => e = .returned (.tuple #[.bool false, .iface 43 (nv (sameCode l p q))]) ∧ Below w.heap.size w w' := by
  unfold sameCode at hne ⊢
  by_cases h1 : wordCode l p = 0
  · rw [if_neg (by simpa using h1)] at hne ⊢
    obtain ⟨m, t, rfl, rfl, hg, hl, ht⟩ := wordCode_zero h1
    have hs1 := Lib.hid (fsteps_ok m t f v w hf hv hg hl ht hT)
    have hne' := Lib.hid hne
    have HF := Lib.hid hf
    have HU := Lib.hid hu
    clear hne h1 hf hu hv
    go_enter Tryd.func10, Tryd.ntmps10
    go_wp2_with fail
    refine hs1.out.mono ?_
    rintro e w1 ⟨v1, rfl, _, hb1⟩
    clear hs1
    have hs2 := Lib.hid (fsteps_err (zs m) q f u w1 ((Rd.below HF.out hb1).more hb1.size) ((Rd.below HU.out hb1).more hb1.size) hne'.out (hT.below hb1))
    go_wp2_with fail
    refine hs2.out.mono ?_
    rintro e w2 ⟨rfl, hb2⟩
    clear hs2
    go_wp2_with fail
    go_ret2
    exact ⟨rfl, hb1.trans (hb2.mono hb1.size)⟩
  · rw [if_pos h1]
    have hs1 := Lib.hid (fsteps_err l p f v w hf hv h1 hT)
    clear hne h1 hf hu hv
    go_enter Tryd.func10, Tryd.ntmps10
    go_wp2_with fail
    refine hs1.out.mono ?_
    rintro e w1 ⟨rfl, hb1⟩
    clear hs1
    go_wp2_with fail
    go_ret2
    exact ⟨rfl, hb1⟩

theorem same_ok (m s t : List Nat) (f v u : Value) (w : World) (hf : Ints w w.heap.size f (zs m)) (hv : Ints w w.heap.size v (zs s)) (hu : Ints w w.heap.size u (zs t)) (hg : Fld.Good m)
    (hl1 : s.length ≤ 24) (ht1 : ∀ x ∈ s, x < m.length) (hl : t.length ≤ 24) (ht : ∀ x ∈ t, x < m.length) (hT : Tab w) :
    Calls Tryd.prog 10 #[f, v, u] w fun e w' => e = .returned (.tuple #[.bool (decide (Fld.steps m s = Fld.steps m t)), .nilIface]) ∧ Below w.heap.size w w' := by
  have hs1 := Lib.hid (fsteps_ok m s f v w hf hv hg hl1 ht1 hT)
  have HF := Lib.hid hf
  have HU := Lib.hid hu
  have HT := Lib.hid ht
  have HG := Lib.hid hg
  clear hf hu hv ht ht1 hg hl1
  go_enter Tryd.func10, Tryd.ntmps10
  go_wp2_with fail
  refine hs1.out.mono ?_
  rintro e w1 ⟨v1, rfl, hown1, hb1⟩
  clear hs1
  have hs2 := Lib.hid (fsteps_ok m t f u w1 ((Rd.below HF.out hb1).more hb1.size) ((Rd.below HU.out hb1).more hb1.size) HG.out hl HT.out (hT.below hb1))
  go_wp2_with fail
  refine hs2.out.mono ?_
  rintro e w2 ⟨v2, rfl, hown2, hb2⟩
  clear hs2
  have hs3 := Lib.hid (equal_calls v1 v2 _ _ w2.heap.size w2 (Nat.le_refl _) (hown1.kept hb2).ints hown2.ints)
  rw [decide_zs] at hs3
  go_wp2_with fail
  refine hs3.out.mono ?_
  rintro e w3 ⟨rfl, hb3⟩
  clear hs3
  go_wp2_with fail
  go_ret2
  exact ⟨rfl, (hb1.trans (hb2.mono hb1.size)).trans (hb3.mono (Nat.le_trans hb1.size hb2.size))⟩
end Go.Proofs.YtoedgncbgkdmoaaDoor
