/- The contract of package sched's Ordered: the places of all acts, transaction by transaction. Conditions: the contract's own premises. -/
import Derived.Test.YtkindaadadggoaaDoorEdges
import Derived.Test.YtkindaadadggoaaDoorRow
import Derived.Test.YtkindaadadggoaaDoorOrderedM
namespace Go.Proofs.YtkindaadadggoaaDoor
open Go.RowKit

/-- what Ordered gives, as values -/
def ordVal (v : Value) (c : Nat) : Value := if c = 0 then .tuple #[v, .nilIface] else .tuple #[.slice none 0 0, .iface 93 (nv c)]

theorem ordered_err (s : List Act3) (v u : Value) (w : World) (hr : Acts w w.heap.size v s) (hne : actsCode s ≠ 0) :
    Calls Tryd.prog 53 #[v, u] w fun e w' => e = .returned (.tuple #[.slice none 0 0, .iface 93 (nv (actsCode s))]) ∧ Below w.heap.size w w' := by
  have hchk := Lib.hid (check_calls s v w hr hne)
  clear hne hr
  go_enter Tryd.func53, Tryd.ntmps53
  go_wp2_with fail
  refine hchk.out.mono ?_
  rintro e w1 ⟨rfl, hb1⟩
  clear hchk
  go_wp2_with fail
  go_ret2
  exact ⟨rfl, hb1⟩

theorem ordGo_snoc (t : List Sch.N3) (row : List Int) (k : Nat) (hk : k < row.length) (seen : Nat) (out : List Nat) :
    Sch.ordGo t (row.drop k) seen out = if 0 ≤ row[k] ∧ row[k] ≤ 4 then (if seen.testBit row[k].toNat then (6, []) else Sch.ordGo t (row.drop (k + 1)) (seen ||| 2 ^ row[k].toNat) (out ++ Sch.places t row[k].toNat)) else (1, []) := by
  rw [List.drop_eq_getElem_cons hk, Sch.ordGo]

/-- the places up to a place -/
def placesTo (t : List Sch.N3) (x m : Nat) : List Nat := (List.range m).filter fun i => decide ((t.getD i Sch.d3).1 = x)
theorem length_placesTo (t : List Sch.N3) (x m : Nat) : (placesTo t x m).length ≤ m := by
  unfold placesTo
  have := List.length_filter_le (fun i => decide ((t.getD i Sch.d3).1 = x)) (List.range m)
  rwa [List.length_range] at this
theorem placesTo_succ (t : List Sch.N3) (x m : Nat) : placesTo t x (m + 1) = placesTo t x m ++ (if (t.getD m Sch.d3).1 = x then [m] else []) := by
  unfold placesTo
  rw [List.range_succ, List.filter_append]
  congr 1
  by_cases h : (t.getD m Sch.d3).1 = x
  · rw [if_pos h, List.filter_cons, if_pos (by simpa using h)]; rfl
  · rw [if_neg h, List.filter_cons, if_neg (by simpa using h)]; rfl

set_option maxHeartbeats 2000000 in
theorem ordered_calls (t : List Sch.N3) (row : List Int) (v u : Value) (w : World) (hr : Acts w w.heap.size v (Sch.zacts t)) (hlen : t.length ≤ 24) (hok : ∀ a ∈ t, Sch.Ok3 a) (hu : Ints w w.heap.size u row) :
    Calls Tryd.prog 53 #[v, u] w fun e w' => ∃ v', e = .returned (ordVal v' (Sch.ordered t row).1) ∧ ((Sch.ordered t row).1 = 0 → Own w' w.heap.size v' (zs (Sch.ordered t row).2)) ∧ Below w.heap.size w w' := by
  have hchk := Lib.hid (check_ok (Sch.zacts t) v w hr (by simpa using hlen) (actsOk hok))
  have HOK := Lib.hid hok
  clear hok
  obtain ⟨A, cap, rfl⟩ := Rd.val hr
  obtain ⟨A', capr, rfl⟩ := Rd.val hu
  simp only [Sch.length_zacts] at *
  by_cases h5 : row.length = 5
  · have H5 := Lib.hid h5
    have h5' : ((row.length : Int) != 5) = false := by simp; omega
    have hord := Lib.hid (show Sch.ordered t row = Sch.ordGo t (row.drop 0) 0 [] by unfold Sch.ordered; rw [if_pos h5]; rfl)
    clear h5
    go_enter Tryd.func53, Tryd.ntmps53
    go_wp2_with fail
    refine hchk.out.mono ?_
    rintro e w1 ⟨rfl, hb1⟩
    clear hchk
    go_wp2_with fail
    go_loopw [7, 8, 24] (fun sn o i wr => ∃ (k seen : Nat) (out : List Nat), k ≤ row.length ∧ i = nv k ∧ sn = nv seen ∧ seen < 4096 ∧ out.length ≤ 24 * k ∧ Own wr w.heap.size o (zs out) ∧ Below w.heap.size w wr ∧
        Hid (Sch.ordGo t (row.drop k) seen out = Sch.ordered t row)) (fun _ _ i _ => row.length - (intOf i).toNat)
    case atStart => exact ⟨0, 0, [], Nat.zero_le _, rfl, rfl, by decide, by simp, Own.nil _ _, hb1, Lib.hid hord.out.symm⟩
    case round =>
      clear hb1
      obtain ⟨k, seen, out, hk, rfl, rfl, hseen, hol, hown, hb, hgo⟩ := hrel
      have hbs := hb.size
      obtain ⟨wo, rfl⟩ : ∃ wo : World, wo = wr := ⟨_, rfl⟩
      have hrl : row.length ≤ 5 := by have := H5.out; omega
      by_cases hkl : k < row.length
      · obtain ⟨b0, off, cap', he, _, hc⟩ := Ints.at_ (Rd.below hu hb) hkl
        cases he
        have hstep := ordGo_snoc t row k hkl seen out
        generalize row[k] = y at *
        by_cases hy : 0 ≤ y ∧ y ≤ 4
        · obtain ⟨x, rfl⟩ : ∃ x : Nat, y = x := ⟨y.toNat, by omega⟩
          have hx : x ≤ 4 := by omega
          rw [if_pos hy, Int.toNat_natCast, hgo.out] at hstep
          clear hy
          by_cases hbit : seen.testBit x = true
          · rw [if_pos hbit] at hstep
            have HS := Lib.hid hstep
            clear hstep hgo
            go_wp2_with (first | (go_at_call 57; refine (within_yes _ _ _ _ (by omega) (by omega)).mono ?_; rintro e w' ⟨rfl, rfl⟩) | (go_at_call 58; refine (has12 _ _ _ hseen (by omega)).mono ?_; rintro e w' ⟨rfl, rfl⟩))
            go_ret2
            exact ⟨.slice none 0 0, by rw [HS.out]; rfl, (fun h => by rw [HS.out] at h; cases h), hb⟩
          · have hbit' : seen.testBit x = false := by simpa using hbit
            rw [if_neg hbit] at hstep
            have HS := Lib.hid hstep
            have HSN := Lib.hid (show seen ||| 2 ^ x < 2 ^ 12 from Nat.or_lt_two_pow (by omega) (Nat.pow_lt_pow_right (by omega) (by omega)))
            clear hstep hgo hbit
            go_wp2_with (first | (go_at_call 57; refine (within_yes _ _ _ _ (by omega) (by omega)).mono ?_; rintro e w' ⟨rfl, rfl⟩) | (go_at_call 58; refine (has12 _ _ _ hseen (by omega)).mono ?_; rintro e w' ⟨rfl, rfl⟩))
            go_loopw [8, 42] (fun o j wr => ∃ m : Nat, m ≤ t.length ∧ j = nv m ∧ Own wr w.heap.size o (zs (out ++ placesTo t x m)) ∧ Below w.heap.size w wr) (fun _ j _ => t.length - (intOf j).toNat)
            case atStart => exact ⟨0, Nat.zero_le _, rfl, by simpa [placesTo] using hown, hb⟩
            case round =>
              clear hown hb
              obtain ⟨m, hm, rfl, hown, hb⟩ := hrel
              have hbs := hb.size
              by_cases hml : m < t.length
              · obtain ⟨b', off', cap'', he, _, _, _, d0, d1, d2⟩ := Acts.atN (Rd.below hr hb) hml
                cases he
                have hpl := placesTo_succ t x m
                have hpll := length_placesTo t x m
                obtain ⟨am, ham⟩ : ∃ a, a = t.getD m Sch.d3 := ⟨_, rfl⟩
                rw [← ham] at d0 d1 d2 hpl
                clear ham
                obtain ⟨tm, im, wm⟩ := am
                simp only at d0 d1 d2 hpl
                by_cases htx : tm = x
                · have htx' : ((tm : Int) == (x : Int)) = true := by simp [htx]
                  rw [if_pos htx] at hpl
                  have HPL := Lib.hid hpl
                  clear htx hpl
                  obtain ⟨wi, rfl⟩ : ∃ wi : World, wi = wr := ⟨_, rfl⟩
                  go_wp2_with (at_builtin; refine append_int rfl _ _ rfl w.heap.size _ (zs (out ++ placesTo t x m)) rfl ((Own.alloc hown _).alloc _) (wi.heap.size + 1) rfl m (by simp) (by rw [length_zs, List.length_append]; omega) (by simp; omega) ?_; intro v' w2 hown2 hb2 _)
                  go_roundw
                  case rel => exact ⟨m + 1, by omega, by go_num, by rw [HPL.out, ← List.append_assoc]; simpa [zs] using hown2, ((hb.alloc hbs _).alloc (by simp; omega) _).trans hb2⟩
                  case measure => simp [intOf]; omega
                · have htx' : ((tm : Int) == (x : Int)) = false := by simp; omega
                  rw [if_neg htx, List.append_nil] at hpl
                  have HPL := Lib.hid hpl
                  clear htx hpl
                  go_wp2_with fail
                  go_roundw
                  case rel => exact ⟨m + 1, by omega, by go_num, by rw [HPL.out]; exact hown.alloc _, hb.alloc hbs _⟩
                  case measure => simp [intOf]; omega
              · obtain rfl : m = t.length := by omega
                clear hml
                have hpll := length_placesTo t x t.length
                go_wp2_with fail
                go_roundw
                case rel => exact ⟨k + 1, seen ||| 2 ^ x, out ++ placesTo t x t.length, by omega, by go_num, by rw [bits_or_shl _ _ (by omega) (by omega)], HSN.out, by rw [List.length_append]; omega, hown, hb, Lib.hid HS.out.symm⟩
                case measure => simp [intOf]; omega
        · rw [if_neg hy, hgo.out] at hstep
          have HS := Lib.hid hstep
          have HY := Lib.hid hy
          clear hstep hgo hy
          go_wp2_with (go_at_call 57; refine (within_no _ _ _ _ HY.out).mono ?_; rintro e w' ⟨rfl, rfl⟩)
          go_ret2
          exact ⟨.slice none 0 0, by rw [HS.out]; rfl, (fun h => by rw [HS.out] at h; cases h), hb⟩
      · obtain rfl : k = row.length := by omega
        clear hkl
        have hfin := hgo.out
        rw [List.drop_length, Sch.ordGo] at hfin
        have HF := Lib.hid hfin
        clear hfin hgo
        go_wp2_with fail
        go_ret2
        exact ⟨_, by rw [← HF.out]; rfl, (fun _ => by rw [← HF.out]; exact hown), hb⟩
  · have h5' : ((row.length : Int) != 5) = true := by simp; omega
    have hord := Lib.hid (show Sch.ordered t row = (3, []) by unfold Sch.ordered; rw [if_neg h5])
    clear h5
    go_enter Tryd.func53, Tryd.ntmps53
    go_wp2_with fail
    refine hchk.out.mono ?_
    rintro e w1 ⟨rfl, hb1⟩
    clear hchk
    go_wp2_with fail
    go_ret2
    exact ⟨.slice none 0 0, by rw [hord.out]; rfl, (fun h => by rw [hord.out] at h; cases h), hb1⟩

end Go.Proofs.YtkindaadadggoaaDoor
