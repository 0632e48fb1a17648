/- Contract of the reference's Ordered. Conditions: the contract's own premises. -/
import Derived.Test.YtkindaadadggoaaDoorOrdered
import Derived.Test.YtkindaadadggoaaDoorKeepS
import Derived.Test.YtkindaadadggoaaDoorRPass
import Derived.Deep.QuietTactic
namespace Go.Proofs.YtkindaadadggoaaDoor
open Go.RowKit

/-- what Ordered answers -/
def rordVal (v : Value) (c : Nat) : Value := .tuple #[if c = 0 then v else .slice none 0 0, nv c]
set_option maxRecDepth 20000 in
set_option maxHeartbeats 8000000 in
theorem rordered_calls (t : List Sch.N3) (row : List Int) (v u : Value) (w : World) (hr : Acts w w.heap.size v (Sch.zacts t)) (hlen : t.length ≤ 24) (hu : Ints w w.heap.size u row) :
    Calls Tryd.prog 50 #[v, u] w fun e w' => ∃ v', e = .returned (rordVal v' (Sch.ordered t row).1) ∧ ((Sch.ordered t row).1 = 0 → Own w' w.heap.size v' (zs (Sch.ordered t row).2)) ∧ Below w.heap.size w w' := by
  have HR := Lib.hid hr
  have HU := Lib.hid hu
  obtain ⟨A, cap, rfl⟩ := Rd.val hr
  obtain ⟨A', capr, rfl⟩ := Rd.val hu
  simp only [Sch.length_zacts] at *
  clear hr hu
  by_cases h5 : row.length = 5
  · have H5 := Lib.hid h5
    have hord := Lib.hid (show Sch.ordered t row = Sch.ordGo t (row.drop 0) 0 [] by unfold Sch.ordered; rw [if_pos h5]; rfl)
    have t1 : ((row.length : Int) != 5) = false := by simp; omega
    clear h5
    go_enter Tryd.func50, Tryd.ntmps50
    go_wp2_with fail
    go_loopw [6, 7] (fun ov kv wr => ∃ (k seen : Nat) (out : List Nat) (v' : Value), k ≤ 5 ∧ ov = v' ∧ kv = nv k ∧ out.length ≤ 24 * k ∧ Hid (Own wr w.heap.size v' (zs out)) ∧ Hid (Below w.heap.size w wr) ∧ Hid (Sch.ordGo t (row.drop k) seen out = Sch.ordered t row) ∧ Hid (∀ x : Nat, seen.testBit x = true ↔ ∃ m : Nat, m < k ∧ row.getD m 0 = (x : Int))) (fun _ kv _ => 5 - (intOf kv).toNat)
    case atStart => exact ⟨0, 0, [], _, by omega, rfl, rfl, by simp, Lib.hid (Own.nil _ _), Lib.hid (Below.refl _ _), Lib.hid hord.out.symm, Lib.hid (fun x => by simp)⟩
    case round =>
      obtain ⟨k, seen, out, v', hk, hv', rfl, hol, hown, hb, hgo, hseen⟩ := hrel
      replace hv' := hv'.symm
      subst hv'
      by_cases hk5 : k < 5
      · have hkl : k < row.length := by have := H5.out; omega
        obtain ⟨b0, off, cap', he, hbb, hc⟩ := Ints.at_ (Rd.below HU.out hb.out) hkl
        cases he
        have HS := Lib.hid (ordGo_snoc t row k hkl seen out)
        have HK := Lib.hid (show row.getD k 0 = row[k] by rw [List.getD_eq_getElem?_getD, List.getElem?_eq_getElem hkl]; rfl)
        have HCM := Lib.hid fun (m : Nat) (hm : m < 5) => (show ∃ c2, (wr.cell? ⟨b0, off + m, none⟩ = some (.int .i64 c2) ∧ row.getD m 0 = c2) by
          obtain ⟨b0', off', cap'', he, hbb', hc'⟩ := Ints.at_ (Rd.below HU.out hb.out) (show m < row.length by have := H5.out; omega)
          cases he
          exact ⟨_, hc', by rw [List.getD_eq_getElem?_getD, List.getElem?_eq_getElem (show m < row.length by have := H5.out; omega)]; rfl⟩)
        generalize row[k] = y at *
        have hin := Lib.hid fun w5 : World => rin_calls y 0 4 w5
        by_cases hy : 0 ≤ y ∧ y ≤ 4
        · rw [decide_eq_true hy] at hin
          obtain ⟨x, rfl⟩ : ∃ x : Nat, y = x := ⟨y.toNat, by omega⟩
          have hx : x ≤ 4 := by omega
          have HST := Lib.hid (show Sch.ordGo t (row.drop k) seen out = if seen.testBit x = true then (6, []) else Sch.ordGo t (row.drop (k + 1)) (seen ||| 2 ^ x) (out ++ Sch.places t x) by rw [HS.out, if_pos hy, Int.toNat_natCast])
          clear hy HS
          obtain ⟨wo, rfl⟩ : ∃ wo : World, wo = wr := ⟨_, rfl⟩
          go_wp2_with fail
          (with_reducible refine (hin.out _).mono ?_)
          rintro e w1 ⟨rfl, rfl⟩
          clear hin
          go_wp2_with fail
          go_loopw [8] (fun mv wm => ∃ m n : Nat, m ≤ k ∧ mv = nv m ∧ Hid (∀ j : Nat, j < m → row.getD j 0 ≠ (x : Int)) ∧ wm = wo.drewN n) (fun mv _ => k - (intOf mv).toNat)
          case atStart => exact ⟨0, 0, Nat.zero_le _, rfl, Lib.hid (fun j hj => by omega), rfl⟩
          case round =>
            obtain ⟨m, n, hm, rfl, hno, rfl⟩ := hrel
            by_cases hmk : m < k
            · obtain ⟨c2, hc2, hce⟩ := HCM.out m (by omega)
              have HCE := Lib.hid hce
              clear hce
              by_cases hcx : c2 = (x : Int)
              · have t2 : (c2 == (x : Int)) = true := by simp [hcx]
                have HF := Lib.hid (show Sch.ordered t row = (6, []) by
                  rw [← hgo.out, HST.out, if_pos ((hseen.out x).2 ⟨m, hmk, HCE.out.trans hcx⟩)])
                clear hcx
                go_wp2_with fail
                go_quiet (fail)
                go_wp2_with fail
                go_ret2
                exact ⟨.slice none 0 0, by rw [HF.out]; rfl, fun h => (by rw [HF.out] at h; cases h), drn (drn hb.out n) nq⟩
              · have t2 : (c2 == (x : Int)) = false := by simpa using hcx
                have HN := Lib.hid (show ∀ j : Nat, j < m + 1 → row.getD j 0 ≠ (x : Int) from fun j hj => by
                  by_cases h : j < m
                  · exact hno.out j h
                  · obtain rfl : j = m := by omega
                    rw [HCE.out]; exact hcx)
                clear hcx
                go_wp2_with fail
                go_quiet (fail)
                go_wp2_with fail
                go_roundw
                case rel => exact ⟨m + 1, _, by omega, by go_num, HN, rfl⟩
                case measure => simp [intOf]; omega
            · obtain rfl : m = k := by omega
              have HSB := Lib.hid (show seen.testBit x = false by
                by_cases h : seen.testBit x = true
                · obtain ⟨j, hj, he⟩ := (hseen.out x).1 h
                  exact absurd he (hno.out j hj)
                · simpa using h)
              have HGO := Lib.hid (show Sch.ordGo t (row.drop (m + 1)) (seen ||| 2 ^ x) (out ++ Sch.places t x) = Sch.ordered t row by
                rw [← hgo.out, HST.out, if_neg (by rw [HSB.out]; decide)])
              have HSN := Lib.hid (show ∀ z : Nat, (seen ||| 2 ^ x).testBit z = true ↔ ∃ j : Nat, j < m + 1 ∧ row.getD j 0 = (z : Int) from fun z => by
                rw [Nat.testBit_or, Nat.testBit_two_pow, Bool.or_eq_true, hseen.out z, decide_eq_true_iff]
                constructor
                · rintro (⟨j, hj, he⟩ | rfl)
                  · exact ⟨j, by omega, he⟩
                  · exact ⟨m, by omega, HK.out⟩
                · rintro ⟨j, hj, he⟩
                  by_cases h : j < m
                  · exact .inl ⟨j, h, he⟩
                  · obtain rfl : j = m := by omega
                    rw [HK.out] at he
                    exact .inr (by omega))
              have HPL := Lib.hid (show placesTo t x t.length = Sch.places t x from rfl)
              have HO1 := Lib.hid (show Own (wo.drewN n) w.heap.size v' (zs (out ++ placesTo t x 0)) by rw [show out ++ placesTo t x 0 = out by simp [placesTo]]; exact hown.out)
              have HB1 := Lib.hid (drn hb.out n)
              have hck : (wo.drewN n).cell? ⟨b0, off + m, none⟩ = some (.int .i64 (x : Int)) := hc
              obtain ⟨w1, hw1⟩ : ∃ w1, w1 = wo.drewN n := ⟨_, rfl⟩
              rw [← hw1] at HO1 HB1 hck ⊢
              have hbs1 : b0 < w.heap.size := hbb
              clear hown hb hc hgo hseen HST HSB hno HCM hw1 HK
              go_wp2_with fail
              go_loopw [6, 9] (fun ov iv wr => ∃ (i : Nat) (v' : Value), i ≤ t.length ∧ ov = v' ∧ iv = nv i ∧ Hid (Own wr w.heap.size v' (zs (out ++ placesTo t x i))) ∧ Hid (Below w.heap.size w wr)) (fun _ iv _ => t.length - (intOf iv).toNat)
              case atStart => exact ⟨0, _, Nat.zero_le _, rfl, rfl, HO1, HB1⟩
              case round =>
                have HCK := Lib.hid (show ∀ w5 : World, Below w.heap.size w w5 → w5.cell? ⟨b0, off + m, none⟩ = some (.int .i64 (x : Int)) from fun w5 h5 => by
                  have e1 := h5.cell (p := ⟨b0, off + m, none⟩) hbs1
                  have e2 := HB1.out.cell (p := ⟨b0, off + m, none⟩) hbs1
                  rw [e1, ← e2]; exact hck)
                clear HO1 HB1 hck
                obtain ⟨i, v1, hi, hv1, rfl, hown, hb⟩ := hrel
                replace hv1 := hv1.symm
                subst hv1
                by_cases hil : i < t.length
                · obtain ⟨b2, o2, c2, he, _, _, _, d0, d1, d2⟩ := Acts.atN (Rd.below HR.out hb.out) hil
                  cases he
                  have hck := HCK.out wr hb.out
                  have HPS := Lib.hid (placesTo_succ t x i)
                  have hpl := length_placesTo t x i
                  generalize t.getD i Sch.d3 = a at *
                  obtain ⟨ax, ai, aw⟩ := a
                  simp only at d0 d1 d2 HPS
                  by_cases hax : ax = x
                  · have t2 : ((ax : Int) == (x : Int)) = true := by simp [hax]
                    have HE := Lib.hid (show zs (out ++ placesTo t x (i + 1)) = zs (out ++ placesTo t x i) ++ [(i : Int)] by rw [HPS.out, if_pos hax]; simp [zs])
                    have hll : (out ++ placesTo t x i).length ≤ 200 := by rw [List.length_append]; omega
                    have HO2 := Lib.hid hown.out
                    clear hax HPS
                    generalize out ++ placesTo t x i = U at *
                    go_wp2_with fail
                    go_quiet (fail)
                    go_wp2_with (at_builtin; refine append_int rfl _ _ rfl w.heap.size _ (zs U) rfl (Own.alloc (show Own (wr.drewN nq) w.heap.size v1 (zs U) from HO2.out) _) (wr.drewN nq).heap.size rfl (i : Int) (by rw [World.cell?_alloc_new]; rfl) (by rw [length_zs]; omega) (by have := (drn hb.out nq).size; simp at this ⊢; omega) ?_; intro v6 w6 hown6 hb6 _)
                    go_roundw
                    case rel => exact ⟨i + 1, v6, by omega, rfl, by go_num, Lib.hid (by rw [HE.out]; exact hown6), Lib.hid (((drn hb.out nq).alloc hb.out.size _).trans hb6)⟩
                    case measure => simp [intOf]; omega
                  · have t2 : ((ax : Int) == (x : Int)) = false := by simp; omega
                    have HE := Lib.hid (show zs (out ++ placesTo t x (i + 1)) = zs (out ++ placesTo t x i) by rw [HPS.out, if_neg hax]; simp)
                    clear hax HPS
                    go_wp2_with fail
                    go_quiet (fail)
                    go_wp2_with fail
                    go_roundw
                    case rel => exact ⟨i + 1, v1, by omega, rfl, by go_num, Lib.hid (by rw [HE.out]; exact hown.out), Lib.hid (drn hb.out _)⟩
                    case measure => simp [intOf]; omega
                · obtain rfl : i = t.length := by omega
                  have hpl := length_placesTo t x t.length
                  rw [HPL.out] at *
                  go_wp2_with fail
                  go_roundw
                  case rel => exact ⟨m + 1, seen ||| 2 ^ x, out ++ Sch.places t x, v1, by omega, rfl, by go_num, by rw [List.length_append]; omega, hown, hb, HGO, HSN⟩
                  case measure => simp [intOf]; omega
        · rw [decide_eq_false hy] at hin
          have HF := Lib.hid (show Sch.ordered t row = (1, []) by rw [← hgo.out, HS.out, if_neg hy])
          clear hy HS
          go_wp2_with fail
          (with_reducible refine (hin.out _).mono ?_)
          rintro e w1 ⟨rfl, rfl⟩
          go_wp2_with fail
          go_ret2
          exact ⟨.slice none 0 0, by rw [HF.out]; rfl, fun h => (by rw [HF.out] at h; cases h), hb.out⟩
      · obtain rfl : k = 5 := by omega
        have HF := Lib.hid (show Sch.ordered t row = (0, out) by
          rw [← hgo.out, List.drop_of_length_le (by have := H5.out; omega)]; rfl)
        go_wp2_with fail
        go_ret2
        exact ⟨_, by rw [HF.out]; rfl, fun _ => by rw [HF.out]; exact hown.out, hb.out⟩
  · have t1 : ((row.length : Int) != 5) = true := by simp; omega
    have HF := Lib.hid (show Sch.ordered t row = (3, []) by unfold Sch.ordered; rw [if_neg h5])
    clear h5
    go_enter Tryd.func50, Tryd.ntmps50
    go_wp2_with fail
    go_ret2
    exact ⟨.slice none 0 0, by rw [HF.out]; rfl, fun h => (by rw [HF.out] at h; cases h), Below.refl _ _⟩
end Go.Proofs.YtkindaadadggoaaDoor
