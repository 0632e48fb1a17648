/- Contracts of the reference's Acts and Reads. Conditions: each contract's own premises. -/
import Derived.Test.YtkindaadadggoaaDoorSameM
import Derived.Test.YtkindaadadggoaaDoorKeepS
import Derived.Test.YtkindaadadggoaaDoorMem
import Derived.Test.YtkindaadadggoaaDoorRPass
import Derived.Deep.QuietTactic
namespace Go.Proofs.YtkindaadadggoaaDoor
open Go.RowKit

set_option maxRecDepth 20000 in
set_option maxHeartbeats 2000000 in
theorem racts_calls (s : List Act3) (v : Value) (w : World) (hr : Acts w w.heap.size v s) : Calls Tryd.prog 45 #[v] w fun e w' => e = .returned (nv (actsCode s)) ∧ Below w.heap.size w w' := by
  have HR := Lib.hid hr
  obtain ⟨A, cap, rfl⟩ := Rd.val hr
  clear hr
  by_cases h24 : 24 < s.length
  · have hc := Lib.hid (show actsCode s = 4 by unfold actsCode; rw [if_pos h24])
    have t1 : decide ((24 : Int) < (s.length : Int)) = true := by simp; omega
    go_enter Tryd.func45, Tryd.ntmps45
    go_wp2_with fail
    go_ret
    exact ⟨by rw [hc.out]; rfl, Below.refl _ _⟩
  · have hc := Lib.hid (show actsCode s = if ∀ a ∈ s, actOk a then 0 else 1 by unfold actsCode; rw [if_neg h24])
    have t1 : decide ((24 : Int) < (s.length : Int)) = false := by simp; omega
    go_enter Tryd.func45, Tryd.ntmps45
    go_wp2_with fail
    go_loopw [3] (fun i wr => ∃ k : Nat, k ≤ s.length ∧ i = nv k ∧ Hid (∀ a ∈ s.take k, actOk a) ∧ Hid (Below w.heap.size w wr)) (fun i _ => s.length - (intOf i).toNat)
    case atStart => exact ⟨0, Nat.zero_le _, rfl, Lib.hid (by simp), Lib.hid (Below.refl _ _)⟩
    case round =>
      obtain ⟨k, hk, rfl, hall, hb⟩ := hrel
      by_cases hkl : k < s.length
      · obtain ⟨b1, off, cap', he, _, _, hbb, d0, d1, d2⟩ := Acts.at_ (Rd.below HR.out hb.out) hkl
        cases he
        have HS := Lib.hid (show s.take (k + 1) = s.take k ++ [s[k]] by rw [List.take_add_one, List.getElem?_eq_getElem hkl]; rfl)
        have HM := Lib.hid (List.getElem_mem hkl)
        generalize s[k] = a at *
        obtain ⟨x, y, z⟩ := a
        simp only at d0 d1 d2
        by_cases hok : actOk (x, y, z)
        · have hA := Lib.hid fun w5 : World => ract_ok x y z w5 hok
          have hn := Lib.hid (show ∀ a ∈ s.take (k + 1), actOk a by
            rw [HS.out]
            intro a ha
            rcases List.mem_append.1 ha with h | h
            · exact hall.out a h
            · rw [List.mem_singleton] at h; subst h; exact hok)
          clear hok HS HM
          go_wp2_with fail
          (with_reducible refine (hA.out _).mono ?_)
          rintro e w1 ⟨rfl, rfl⟩
          go_wp2_with fail
          go_roundw
          case rel => exact ⟨k + 1, by omega, by go_num, hn, Lib.hid (hb.out.alloc hb.out.size _)⟩
          case measure => simp [intOf]; omega
        · have hA := Lib.hid fun w5 : World => ract_bad x y z w5 hok
          have hn := Lib.hid (show actsCode s = 1 by rw [hc.out, if_neg fun h => hok (h _ HM.out)])
          clear hok HS HM
          go_wp2_with fail
          (with_reducible refine (hA.out _).mono ?_)
          rintro e w1 ⟨rfl, rfl⟩
          go_wp2_with fail
          go_ret
          exact ⟨by rw [hn.out]; rfl, hb.out.alloc hb.out.size _⟩
      · obtain rfl : k = s.length := by omega
        have hn := Lib.hid (show actsCode s = 0 by
          have := hall.out
          rw [List.take_length] at this
          rw [hc.out, if_pos this])
        go_wp2_with fail
        go_ret
        exact ⟨by rw [hn.out]; rfl, hb.out⟩
theorem reads_succ (t : List Sch.N3) (k : Nat) : (List.range (k + 1)).map (Sch.readAt t) = (List.range k).map (Sch.readAt t) ++ [Sch.readAt t k] := by simp [List.range_succ]
set_option maxRecDepth 20000 in
set_option maxHeartbeats 4000000 in
theorem rreads_calls (t : List Sch.N3) (v : Value) (w : World) (hr : Acts w w.heap.size v (Sch.zacts t)) (hlen : t.length ≤ 24) (hok : ∀ a ∈ t, Sch.Ok3 a) :
    Calls Tryd.prog 49 #[v] w fun e w' => ∃ v', e = .returned v' ∧ Own w' w.heap.size v' (Sch.reads t) ∧ Below w.heap.size w w' := by
  have HR := Lib.hid hr
  have HOK := Lib.hid hok
  obtain ⟨A, cap, rfl⟩ := Rd.val hr
  simp only [Sch.length_zacts] at *
  clear hr hok
  go_enter Tryd.func49, Tryd.ntmps49
  go_wp2_with fail
  go_loopw [3, 4] (fun ov iv wr => ∃ (k : Nat) (v' : Value), k ≤ t.length ∧ ov = v' ∧ iv = nv k ∧ Hid (Own wr w.heap.size v' ((List.range k).map (Sch.readAt t))) ∧ Hid (Below w.heap.size w wr)) (fun _ iv _ => t.length - (intOf iv).toNat)
  case atStart => exact ⟨0, _, Nat.zero_le _, rfl, rfl, Lib.hid (Own.nil _ _), Lib.hid (Below.refl _ _)⟩
  case round =>
    obtain ⟨k, v', hk, hv', rfl, hown, hb⟩ := hrel
    replace hv' := hv'.symm
    subst hv'
    by_cases hkl : k < t.length
    · obtain ⟨b1, off, cap', he, _, _, hbb, d0, d1, d2⟩ := Acts.atN (Rd.below HR.out hb.out) hkl
      cases he
      have o3 := Sch.getD_ok HOK.out k
      have HRA := Lib.hid (show Sch.readAt t k = if (t.getD k Sch.d3).2.2 = 1 then -1 else Sch.lastW t (t.getD k Sch.d3).2.1 k from rfl)
      have HRN := Lib.hid (reads_succ t k)
      generalize Sch.readAt t k = ra at *
      generalize t.getD k Sch.d3 = a at *
      obtain ⟨ax, ai, aw⟩ := a
      replace o3 : aw < 2 := o3.2.2
      simp only at d0 d1 d2 HRA
      obtain ⟨wo, rfl⟩ : ∃ wo : World, wo = wr := ⟨_, rfl⟩
      by_cases hw1 : aw = 1
      · have t3 : ((aw : Int) == 0) = false := by simp; omega
        obtain rfl : ra = -1 := by rw [HRA.out, if_pos hw1]
        clear hw1 HRA
        go_wp2_with fail
        go_loopw [5, 6] (fun kv jv wj => kv = .int .i64 (-1) ∧ jv = nv 0 ∧ wj = wo) (fun _ _ _ => 1)
        case atStart => exact ⟨rfl, rfl, rfl⟩
        case round =>
          obtain ⟨rfl, rfl, rfl⟩ := hrel
          have h01 : decide ((0 : Int) < (k : Int)) = true ∨ decide ((0 : Int) < (k : Int)) = false := by cases decide ((0 : Int) < (k : Int)) <;> simp
          rcases h01 with t4 | t4
          all_goals
            go_wp2_with (at_builtin; refine append_int rfl _ _ rfl w.heap.size _ ((List.range k).map (Sch.readAt t)) rfl (Own.alloc hown.out _) wr.heap.size rfl (-1 : Int) (by simp) (by simp; omega) (by have := hb.out.size; simp; omega) ?_; intro v6 w6 hown6 hb6 _)
            all_goals
              go_roundw
              case rel => exact ⟨k + 1, v6, by omega, rfl, by go_num, Lib.hid (by rw [HRN.out]; exact hown6), Lib.hid ((hb.out.alloc hb.out.size _).trans hb6)⟩
              case measure => simp [intOf]; omega
      · have t3 : ((aw : Int) == 0) = true := by simp; omega
        obtain rfl : ra = Sch.lastW t ai k := by rw [HRA.out, if_neg hw1]
        clear hw1 HRA
        go_wp2_with fail
        go_loopw [5, 6] (fun kv jv wj => ∃ j n : Nat, j ≤ k ∧ kv = .int .i64 (Sch.lastW t ai j) ∧ jv = nv j ∧ wj = wo.drewN n) (fun _ jv _ => k - (intOf jv).toNat)
        case atStart => exact ⟨0, 0, Nat.zero_le _, rfl, rfl, rfl⟩
        case round =>
          obtain ⟨j, n, hj, rfl, rfl, rfl⟩ := hrel
          by_cases hjk : j < k
          · obtain ⟨b2, o2, c2, he, _, _, _, e0, e1, e2⟩ := Acts.atN (Rd.below HR.out hb.out) (k := j) (by omega)
            cases he
            have HL := Lib.hid (show Sch.lastW t ai (j + 1) = if (t.getD j Sch.d3).2.1 = ai ∧ (t.getD j Sch.d3).2.2 = 1 then (j : Int) else Sch.lastW t ai j from rfl)
            generalize t.getD j Sch.d3 = c at *
            obtain ⟨cx, ci, cw⟩ := c
            simp only at e0 e1 e2 HL
            generalize Sch.lastW t ai j = L at *
            have hw : ((ci : Int) == (ai : Int)) = false ∧ ci ≠ ai ∨ (((ci : Int) == (ai : Int)) = true ∧ ((cw : Int) == 1) = false ∧ cw ≠ 1) ∨ (((ci : Int) == (ai : Int)) = true ∧ ((cw : Int) == 1) = true ∧ ci = ai ∧ cw = 1) := by
              simp; omega
            rcases hw with ⟨t4, h4⟩ | ⟨t4, t5, h4⟩ | ⟨t4, t5, h4, h5⟩
            · have hS := Lib.hid (show Sch.lastW t ai (j + 1) = L by rw [HL.out, if_neg fun h => h4 h.1])
              clear HL h4
              go_wp2_with fail
              go_quiet (fail)
              go_wp2_with fail
              go_roundw
              case rel => exact ⟨j + 1, _, by omega, by rw [hS.out], by go_num, rfl⟩
              case measure => simp [intOf]; omega
            · have hS := Lib.hid (show Sch.lastW t ai (j + 1) = L by rw [HL.out, if_neg fun h => h4 h.2])
              clear HL h4
              go_wp2_with fail
              go_quiet (fail)
              go_wp2_with fail
              go_roundw
              case rel => exact ⟨j + 1, _, by omega, by rw [hS.out], by go_num, rfl⟩
              case measure => simp [intOf]; omega
            · have hS := Lib.hid (show Sch.lastW t ai (j + 1) = (j : Int) by rw [HL.out, if_pos ⟨h4, h5⟩])
              clear HL h4 h5
              go_wp2_with fail
              go_quiet (fail)
              go_wp2_with fail
              go_roundw
              case rel => exact ⟨j + 1, _, by omega, by rw [hS.out], by go_num, rfl⟩
              case measure => simp [intOf]; omega
          · obtain rfl : j = k := by omega
            have HO := Lib.hid (show Own (wo.drewN n) w.heap.size v' ((List.range j).map (Sch.readAt t)) from hown.out)
            have HB := Lib.hid (drn hb.out n)
            generalize Sch.lastW t ai j = L at *
            go_wp2_with (at_builtin; refine append_int rfl _ _ rfl w.heap.size _ ((List.range j).map (Sch.readAt t)) rfl (Own.alloc HO.out _) (wo.drewN n).heap.size rfl L (by rw [World.cell?_alloc_new]; rfl) (by simp; omega) (by have := HB.out.size; simp at this ⊢; omega) ?_; intro v6 w6 hown6 hb6 _)
            go_roundw
            case rel => exact ⟨j + 1, v6, by omega, rfl, by go_num, Lib.hid (by rw [HRN.out]; exact hown6), Lib.hid ((HB.out.alloc HB.out.size _).trans hb6)⟩
            case measure => simp [intOf]; omega
    · obtain rfl : k = t.length := by omega
      go_wp2_with fail
      go_ret
      exact ⟨_, rfl, hown.out, hb.out⟩
end Go.Proofs.YtkindaadadggoaaDoor
