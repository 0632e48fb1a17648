/- The statements' own comparison of two lists of acts. Conditions: the contract's own premises. -/
import Derived.Test.YtkindaadadggoaaDoorEdges
import Derived.Laws.StructEq
namespace Go.Proofs.YtkindaadadggoaaDoor
open Go.RowKit

set_option maxHeartbeats 1000000 in
theorem acts_eq_calls (v u : Value) (l m : List Sch.N3) (B : Nat) (w : World) (hB : B ≤ w.heap.size) (hv : Acts w B v (Sch.zacts l)) (hu : Acts w B u (Sch.zacts m)) :
    Calls Tryd.prog 21 #[v, u] w fun e w' => e = .returned (.bool (decide (l = m))) ∧ Below w.heap.size w w' := by
  obtain ⟨A, cap, rfl⟩ := Rd.val hv
  obtain ⟨A', cap', rfl⟩ := Rd.val hu
  have lv := Rd.le hv
  have lu := Rd.le hu
  unfold maxLen at lv lu
  rw [Sch.length_zacts] at *
  by_cases hl : l.length = m.length
  · have hl' : ((l.length : Int) != (m.length : Int)) = false := by simp [hl]
    have HL := Lib.hid hl
    clear hl
    go_enter Tryd.func21, Tryd.ntmps21
    go_wp2
    go_loopw [5] (fun i wr => ∃ k : Nat, k ≤ l.length ∧ i = .int .i64 k ∧ Hid (∀ j, j < k → l[j]? = m[j]?) ∧ Below w.heap.size w wr) (fun i _ => l.length - (intOf i).toNat)
    case atStart => exact ⟨0, Nat.zero_le _, rfl, Lib.hid (fun j hj => absurd hj (by omega)), Below.refl _ _⟩
    case round =>
      obtain ⟨k, hk, rfl, heq, hb⟩ := hrel
      by_cases hlt : k < l.length
      · have hlt' : k < m.length := by have := HL.out; omega
        obtain ⟨b, off, c1, he, _, _, _, d0, d1, d2⟩ := Acts.atN (Rd.below hv (hb.mono hB)) hlt
        cases he
        obtain ⟨b', off', c2, he, _, _, _, f0, f1, f2⟩ := Acts.atN (Rd.below hu (hb.mono hB)) hlt'
        cases he
        have e1 : l[k]? = some (l.getD k Sch.d3) := by rw [List.getD_eq_getElem?_getD, List.getElem?_eq_getElem hlt]; rfl
        have e2 : m[k]? = some (m.getD k Sch.d3) := by rw [List.getD_eq_getElem?_getD, List.getElem?_eq_getElem hlt']; rfl
        generalize l.getD k Sch.d3 = x at *
        generalize m.getD k Sch.d3 = y at *
        have E1 := Lib.hid e1
        have E2 := Lib.hid e2
        clear e1 e2 hv hu
        obtain ⟨x0, x1, x2⟩ := x
        obtain ⟨y0, y1, y2⟩ := y
        simp only at d0 d1 d2 f0 f1 f2
        by_cases hxy : (x0, x1, x2) = (y0, y1, y2)
        · cases hxy
          have HS := Lib.hid (show ∀ j, j < k + 1 → l[j]? = m[j]? from fun j hj => by
            rcases Nat.lt_or_ge j k with h | h
            · exact heq.out j h
            · obtain rfl : j = k := by omega
              rw [E1.out, E2.out])
          go_wp2
          go_quiet (fail)
          go_wp2
          go_roundw
          case rel => exact ⟨k + 1, by omega, by go_num, HS, drn hb _⟩
          case measure => simp [intOf]; omega
        · have hn : ¬ l = m := by
            rintro rfl
            have := E1.out.symm.trans E2.out
            exact hxy (by injection this)
          have HN := Lib.hid hn
          have hw : ((x0 : Int) == (y0 : Int)) = false ∨ (x0 = y0 ∧ ((x1 : Int) == (y1 : Int)) = false) ∨ (x0 = y0 ∧ x1 = y1 ∧ ((x2 : Int) == (y2 : Int)) = false) := by
            by_cases h0 : x0 = y0
            · by_cases h1 : x1 = y1
              · refine .inr (.inr ⟨h0, h1, ?_⟩)
                have : x2 ≠ y2 := fun h2 => hxy (by rw [h0, h1, h2])
                simp; omega
              · exact .inr (.inl ⟨h0, by simp; omega⟩)
            · exact .inl (by simp; omega)
          clear hxy hn
          rcases hw with t0 | ⟨rfl, t0⟩ | ⟨rfl, rfl, t0⟩
          all_goals
            go_wp2
            go_quiet (fail)
            go_wp2
            go_ret
            exact ⟨by simp [HN.out], drn hb _⟩
      · have hge : l.length ≤ k := by omega
        clear hlt
        have heq' : l = m := by
          apply List.ext_getElem?
          intro j
          rcases Nat.lt_or_ge j k with h | h
          · exact heq.out j h
          · have := HL.out
            rw [List.getElem?_eq_none (by omega), List.getElem?_eq_none (by omega)]
        have HE := Lib.hid heq'
        clear heq'
        go_wp2
        go_ret
        exact ⟨by simp [HE.out], hb⟩
  · have hl' : ((l.length : Int) != (m.length : Int)) = true := by simp; omega
    have HL := Lib.hid (show l ≠ m from fun h => hl (by rw [h]))
    clear hl
    go_enter Tryd.func21, Tryd.ntmps21
    go_wp2
    go_ret
    exact ⟨by simp [HL.out], Below.refl _ _⟩
end Go.Proofs.YtkindaadadggoaaDoor
