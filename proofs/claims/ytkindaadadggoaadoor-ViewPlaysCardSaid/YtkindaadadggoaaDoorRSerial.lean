/- Contracts of the reference's rowFrom and Serial. Conditions: each contract's own premises. -/
import Derived.Test.YtkindaadadggoaaDoorRFromM
import Derived.Test.YtkindaadadggoaaDoorKeepS
import Derived.Test.YtkindaadadggoaaDoorMem
import Derived.Test.YtkindaadadggoaaDoorRow12
import Derived.Deep.QuietTactic
namespace Go.Proofs.YtkindaadadggoaaDoor
open Go.RowKit

theorem take_next (l : List Nat) (k : Nat) (h : k < l.length) : l.take (k + 1) = l.take k ++ [l.getD k 0] := by
  rw [List.take_add_one, List.getD_eq_getElem?_getD, List.getElem?_eq_getElem h]; rfl
set_option maxRecDepth 20000 in
set_option maxHeartbeats 4000000 in
theorem rowFrom_calls (e : List Nat) (v : Value) (hf : Odr.Fits e) (hn : e.length ≤ 12) (f : Nat) : ∀ (told : List Nat) (u : Value) (w : World), Kept w v (zs e) → Kept w u (zs told) → told.length + f = e.length → (∀ x ∈ told, x < e.length) →
    Calls Tryd.prog 73 #[v, u] w fun en w' => ∃ v', en = .returned v' ∧ Kept w' v' (zs (Rw.rf e f told)) ∧ Below w.heap.size w w' := by
  induction f with
  | zero =>
    intro told u w hv hu hl hx
    have HU := Lib.hid hu
    obtain ⟨A, c, rfl⟩ := Rd.val hv.ints
    obtain ⟨A', c', rfl⟩ := Rd.val hu.ints
    simp only [length_zs] at *
    clear hv hu hx hf
    go_enter Tryd.func73, Tryd.ntmps73
    go_wp2_with fail
    go_loopw [5] (fun iv wr => iv = nv 0 ∧ wr = w) (fun _ _ => 1)
    case atStart => exact ⟨rfl, rfl⟩
    case round =>
      obtain ⟨rfl, rfl⟩ := hrel
      have t1 : decide ((told.length : Int) < (e.length : Int)) = false := by simp; omega
      have h01 : 0 < e.length ∨ ¬ 0 < e.length := by omega
      have t1' : ¬ told.length < e.length := by omega
      clear hl
      rcases h01 with t2 | t2
      · go_wp2_with fail
        go_ret
        exact ⟨_, rfl, HU.out, Below.refl _ _⟩
      · go_wp2_with fail
        go_ret
        exact ⟨_, rfl, HU.out, Below.refl _ _⟩
  | succ f ih =>
    intro told u w hv hu hl hx
    have IH := Lib.hid ih
    have HV := Lib.hid hv
    have HU := Lib.hid hu
    have HX := Lib.hid hx
    have HF := Lib.hid hf
    obtain ⟨A, c, rfl⟩ := Rd.val hv.ints
    obtain ⟨A', c', rfl⟩ := Rd.val hu.ints
    simp only [length_zs] at *
    clear ih hv hu hx hf
    go_enter Tryd.func73, Tryd.ntmps73
    go_wp2_with fail
    go_loopw [5] (fun iv wr => ∃ i : Nat, i ≤ e.length ∧ iv = nv i ∧ Hid (∀ j, j < i → (Rw.okc e told j && decide ((Rw.rf e f (told ++ [j])).length = e.length)) = false) ∧ Hid (Below w.heap.size w wr)) (fun iv _ => e.length - (intOf iv).toNat)
    case atStart => exact ⟨0, Nat.zero_le _, rfl, Lib.hid (fun j hj => by omega), Lib.hid (Below.refl _ _)⟩
    case round =>
      obtain ⟨i, hi, rfl, hno, hb⟩ := hrel
      have t1 : decide ((told.length : Int) < (e.length : Int)) = true := by simp; omega
      by_cases hie : i < e.length
      · have hei := Odr.Fits.getD HF.out i
        have hp12 : 2 ^ e.length ≤ 2 ^ 12 := Nat.pow_le_pow_right (by omega) hn
        have hbit := Lib.hid fun (x : Nat) (hx : x < 12) (N y : Nat) (w5 : World) => (bit_calls (e.getD i 0) x (w5.drewN (N + y)) (by omega) (by omega)).mono (R' := fun en w'' => en = .returned (.bool ((e.getD i 0).testBit x)) ∧ ∃ m, w'' = w5.drewN (N + m)) fun _ _ ⟨a, b⟩ => ⟨a, y, b.symm⟩
        obtain ⟨wo, rfl⟩ : ∃ wo : World, wo = wr := ⟨_, rfl⟩
        go_wp2_with fail
        go_loopw [6, 7] (fun ov kv wk => ∃ (k n : Nat), k ≤ told.length ∧ ov = .bool (Rw.okc e (told.take k) i) ∧ kv = nv k ∧ wk = wo.drewN n) (fun _ kv _ => told.length - (intOf kv).toNat)
        case atStart => exact ⟨0, 0, Nat.zero_le _, rfl, rfl, rfl⟩
        case round =>
          obtain ⟨k, n, hk, rfl, rfl, rfl⟩ := hrel
          by_cases hkt : k < told.length
          · obtain ⟨b1, o1, c1, he1, _, dk⟩ := Ints.atN (HU.out wo hb.out) (k := k) hkt
            cases he1
            obtain ⟨b2, o2, c2, he2, _, di⟩ := Ints.atN (HV.out wo hb.out) (k := i) hie
            cases he2
            have hx5 := HX.out (told.getD k 0) (by rw [List.getD_eq_getElem?_getD, List.getElem?_eq_getElem hkt]; exact List.getElem_mem hkt)
            have hb5 := Lib.hid (hbit.out (told.getD k 0) (by omega))
            have HN := Lib.hid (show Rw.okc e (told.take (k + 1)) i = (Rw.okc e (told.take k) i && (decide (told.getD k 0 ≠ i) && !((e.getD i 0).testBit (told.getD k 0)))) by rw [take_next _ _ hkt, Rw.okc_snoc]; rfl)
            generalize told.getD k 0 = x at *
            generalize e.getD i 0 = ei at *
            generalize Rw.okc e (told.take k) i = ob at *
            generalize ei.testBit x = tb at *
            clear hx5
            have hw : ob = false ∨ (ob = true ∧ ((x : Int) != (i : Int)) = false ∧ x = i) ∨ (ob = true ∧ ((x : Int) != (i : Int)) = true ∧ x ≠ i) := by
              cases ob
              · exact .inl rfl
              · by_cases h : x = i
                · exact .inr (.inl ⟨rfl, by simp [h], h⟩)
                · exact .inr (.inr ⟨rfl, by simp; omega, h⟩)
            rcases hw with rfl | ⟨rfl, t2, hxi⟩ | ⟨rfl, t2, hxi⟩
            · have hS := Lib.hid (HN.out.trans (show _ = false by simp))
              clear HN
              go_wp2_with fail
              go_quiet (fail)
              go_wp2_with fail
              go_roundw
              case rel => exact ⟨k + 1, _, by omega, by rw [hS.out], by go_num, rfl⟩
              case measure => simp [intOf]; omega
            · have hS := Lib.hid (HN.out.trans (show _ = false by simp [hxi]))
              clear HN hxi
              go_wp2_with fail
              go_quiet (fail)
              go_wp2_with fail
              go_roundw
              case rel => exact ⟨k + 1, _, by omega, by rw [hS.out], by go_num, rfl⟩
              case measure => simp [intOf]; omega
            · have hS := Lib.hid (HN.out.trans (show _ = !tb by rw [decide_eq_true hxi]; rfl))
              clear HN hxi
              go_wp2_with fail
              go_quiet ((go_at_call 29; exact hb5.out _ _ _))
              go_wp2_with fail
              go_roundw
              case rel => exact ⟨k + 1, _, by omega, by rw [hS.out], by go_num, rfl⟩
              case measure => simp [intOf]; omega
          · obtain rfl : k = told.length := by omega
            rw [List.take_length] at *
            cases hok : Rw.okc e told i
            · go_wp2_with fail
              go_roundw
              case rel => exact ⟨i + 1, by omega, by go_num, Lib.hid (fun j hj => by
                  by_cases hji : j < i
                  · exact hno.out j hji
                  · obtain rfl : j = i := by omega
                    rw [hok]; rfl), Lib.hid (drn hb.out n)⟩
              case measure => simp [intOf]; omega
            · have HOK := Lib.hid hok
              have HB1 := Lib.hid (drn hb.out n)
              have HT := Lib.hid (HU.out _ HB1.out)
              obtain ⟨w1, hw1⟩ : ∃ w1, w1 = wo.drewN n := ⟨_, rfl⟩
              rw [← hw1] at HB1 HT ⊢
              clear hok hw1 hbit
              go_wp2_with (at_builtin; (first | (refine append_ints rfl _ _ rfl w1.heap.size _ [] rfl (Own.nil _ _) (.slice A' told.length c') (zs told) w1.heap.size rfl HT.out (by simp; omega) (Nat.le_refl _) ?_; intro v2 w2 hown2 hb2 _; rw [List.nil_append] at hown2) | (refine append_int rfl _ _ rfl w1.heap.size _ (zs told) rfl (Own.alloc hown2 _) w2.heap.size rfl (i : Int) (by simp) (by rw [length_zs]; omega) (by have := hb2.size; simp; omega) ?_; intro v3 w3 hown3 hb3 _)))
              have HO3 := Lib.hid hown3
              have HB23 := (hb2.alloc hb2.size (.cells #[nv i] 3)).trans hb3
              have HB3 := Lib.hid (HB1.out.trans (HB23.mono HB1.out.size))
              have hnx : told.length + 1 + f = e.length := by omega
              have hrec := Lib.hid (IH.out (told ++ [i]) v3 w3 (HV.out.next HB3.out) (Kept.of (by
                have h := HO3.out.ints
                rw [show zs told ++ [(i : Int)] = zs (told ++ [i]) by simp [zs]] at h
                exact h)) (by rw [List.length_append]; exact hnx) (fun x hx => by
                  rcases List.mem_append.1 hx with h | h
                  · exact HX.out x h
                  · rw [List.mem_singleton] at h; omega))
              clear hown2 hb2 hown3 hb3 HB23 IH HT
              (with_reducible refine hrec.out.mono ?_)
              rintro e5 w5 ⟨v5, rfl, hk5, hb5⟩
              obtain ⟨A5, c5, rfl⟩ := Rd.val hk5.ints
              rw [length_zs] at *
              have HK5 := Lib.hid hk5
              have HB5 := Lib.hid (HB3.out.trans (hb5.mono HB3.out.size))
              clear hrec hk5 hb5
              by_cases hful : (Rw.rf e f (told ++ [i])).length = e.length
              · have HR := Lib.hid (Rw.rf_some hie HOK.out hful hno.out)
                have t3 : (((Rw.rf e f (told ++ [i])).length : Int) == (e.length : Int)) = true := by simp [hful]
                clear hful
                generalize Rw.rf e f (told ++ [i]) = L at *
                go_wp2_with fail
                go_ret
                exact ⟨_, rfl, by rw [HR.out]; exact HK5.out, HB5.out⟩
              · have t3 : (((Rw.rf e f (told ++ [i])).length : Int) == (e.length : Int)) = false := by simp; omega
                have HNO := Lib.hid (show ∀ j, j < i + 1 → (Rw.okc e told j && decide ((Rw.rf e f (told ++ [j])).length = e.length)) = false from fun j hj => by
                  by_cases hji : j < i
                  · exact hno.out j hji
                  · obtain rfl : j = i := by omega
                    rw [decide_eq_false hful, Bool.and_false])
                clear hful
                go_wp2_with fail
                go_roundw
                case rel => exact ⟨i + 1, by omega, by go_num, HNO, HB5⟩
                case measure => simp [intOf]; omega
      · obtain rfl : i = e.length := by omega
        have HR := Lib.hid (Rw.rf_none hno.out)
        go_wp2_with fail
        go_ret
        exact ⟨_, rfl, by rw [HR.out]; exact HU.out.next hb.out, hb.out⟩
theorem rserial_calls (e : List Nat) (v : Value) (w : World) (hv : Kept w v (zs e)) (hf : Odr.Fits e) (hn : e.length ≤ 12) (hirr : ∀ i, Odr.rel e i i = false) :
    Calls Tryd.prog 48 #[v] w fun en w' => ∃ v' b, en = .returned (.tuple #[v', .bool b]) ∧ b = (Rw.row e).isSome ∧ Kept w' v' (zs ((Rw.row e).getD [])) ∧ Below w.heap.size w w' := by
  have h1 := Lib.hid (rowFrom_calls e v hf hn e.length [] (.slice none 0 0) w hv (Kept.nil w) (by simp) (by simp))
  have HLE := Lib.hid (Rw.rf_le (e := e) e.length)
  obtain ⟨A, c, rfl⟩ := Rd.val hv.ints
  rw [length_zs] at *
  cases hrow : Rw.row e with
  | none =>
    have hne := Rw.rf_no_row hirr hf hrow
    have t1 : decide (((Rw.rf e e.length []).length : Int) < (e.length : Int)) = true := by have := HLE.out; simp; omega
    have t2 : (Rw.rf e e.length []).length < e.length := by have := HLE.out; omega
    clear hne hrow hv
    generalize Rw.rf e e.length [] = L at *
    go_enter Tryd.func48, Tryd.ntmps48
    go_wp2_with fail
    (with_reducible refine h1.out.mono ?_)
    rintro e5 w5 ⟨v5, rfl, hk5, hb5⟩
    obtain ⟨A5, c5, rfl⟩ := Rd.val hk5.ints
    rw [length_zs] at *
    go_wp2_with fail
    go_ret2
    exact ⟨_, _, rfl, rfl, Kept.nil _, hb5⟩
  | some r =>
    have he := Rw.rf_row hirr hrow
    have hl := (Rw.row_spec hrow).1
    have t1 : decide ((r.length : Int) < (e.length : Int)) = false := by simp; omega
    have t2 : ¬ r.length < e.length := by omega
    rw [he] at h1
    clear he hl hrow hv HLE
    go_enter Tryd.func48, Tryd.ntmps48
    go_wp2_with fail
    (with_reducible refine h1.out.mono ?_)
    rintro e5 w5 ⟨v5, rfl, hk5, hb5⟩
    have HK5 := Lib.hid hk5
    obtain ⟨A5, c5, rfl⟩ := Rd.val hk5.ints
    rw [length_zs] at *
    go_wp2_with fail
    go_ret2
    exact ⟨_, _, rfl, rfl, HK5.out, hb5⟩
end Go.Proofs.YtkindaadadggoaaDoor
