/- The search of chain.Rows: what a call of fill returns and leaves. Conditions: each contract's own premises. (Printed by wip/gen/cfill.py.) -/
import Derived.Test.YtpicjikjinkkpaaDoorCovM
import Derived.Deep.QuietTactic
import Derived.Deep.CutRange
import Derived.StillTailTactics
import Derived.Deep.AppendLies
namespace Go.Proofs.YtpicjikjinkkpaaDoor
open Go.RowKit
attribute [-go_sem] Builtin.append_

theorem run_append_row (w : World) (base : Nat) (v : Value) (l : List Int) (hown : Own w base v l) (q : Nat) (y : Int) (hc : w.cell? ⟨q, 0, none⟩ = some (iv y)) (hlen : l.length < 1000000) (hbase : base ≤ w.heap.size) (ty : TypeId) :
    ∃ v' w', (Builtin.append_ #[22, 22] ty #[v, .slice (some ⟨q, 0, none⟩) 1 1]).run Tryd.prog w = .ok v' w' ∧ Own w' base v' (l ++ [y]) ∧ w.grownBy w' v.ownBlock ∧ (v'.ownBlock = v.ownBlock ∨ v'.ownBlock = some w.heap.size) := by
  obtain ⟨i0, hi, hz0, hz1, hz2⟩ := info_parts Tryd.infoInt
  obtain ⟨v', w', hr, h2, h3, h4, h5⟩ := run_append_own_at (P := Tryd.prog) w base 22 ty 3 i0 (.int .i64 0) 1 8 Tryd.underlying22 hi hz0 hz1 hz2 rfl (by decide) v l.length (l.map iv) hown ⟨q, 0, none⟩ 1 1 [iv y] rfl (by
    intro j u hj
    match j, hj with
    | 0, hj => simp at hj; subst hj; exact hc) (by intro u hu; simp at hu; subst hu; rfl) (by unfold maxLen; omega) (by omega) hbase
  exact ⟨v', w', hr, Own.of_row h2, h3, h5⟩
/-- what a call of fill leaves -/
def FTo (w : World) (B gn go T n : Nat) (near : List Nat) (rv : Value) (most i : Nat) (rows out : List Nat) (R : Option (List Nat)) (w' : World) : Prop :=
  ∃ rv' rows' out', CovAt w' B gn go T n near rv' most rows' out' ∧ out'.length = n ∧ Only (FC B go rv) w w' ∧ (∀ k, FC B go rv' k → FC B go rv k ∨ w.heap.size ≤ k) ∧ (∀ r, R = some r → out' = out.take i ++ r) ∧ (R = none → rows' = rows ∧ out'.take i = out.take i)
def FillOk (B gn go T n : Nat) (near : List Nat) (most d : Nat) : Prop :=
  ∀ (i : Nat) (rows out : List Nat) (rv : Value) (w : World), i + d = n → rows.length ≤ most → (∀ k, rows.getD k 0 < 2 ^ i) → out.length = n → CovAt w B gn go T n near rv most rows out →
    Calls Tryd.prog 68 #[.pointer (some ⟨B, 0, none⟩), nv i] w fun e w' => e = .returned (.bool (Dil.fill near most d i rows).isSome) ∧ FTo w B gn go T n near rv most i rows out (Dil.fill near most d i rows) w'
theorem fill_full (B gn go T n : Nat) (near : List Nat) (most : Nat) : FillOk B gn go T n near most 0 := by
  intro i rows out rv w hi hrl hrb hol hc
  obtain rfl : i = n := by omega
  have HC := Lib.hid hc
  have HOL := Lib.hid hol
  have c0 := hc.c0
  clear hc hrb hol
  go_enter Tryd.func68, Tryd.ntmps68
  go_wp2_with fail
  go_ret
  exact ⟨rfl, rv, rows, out, HC.out, HOL.out, Only.refl _ _, fun k hk => .inl hk, fun r hr => (by
    obtain rfl := Option.some.inj hr
    rw [List.append_nil, ← HOL.out, List.take_length]), fun h => by cases h⟩
theorem diff_or_bit {x i : Nat} (h : x < 2 ^ i) : Odr.diff (x ||| 2 ^ i) (2 ^ i) = x := by
  apply Nat.eq_of_testBit_eq
  intro j
  rw [Odr.testBit_diff, Nat.testBit_or, Nat.testBit_two_pow]
  by_cases e : i = j
  · subst e
    rw [Odr.testBit_lt h (Nat.le_refl _)]; simp
  · simp [e]
theorem or_lt {x i : Nat} (h : x < 2 ^ i) : x ||| 2 ^ i < 2 ^ (i + 1) := by
  refine Nat.or_lt_two_pow ?_ (Nat.pow_lt_pow_right (by omega) (by omega))
  rw [Nat.pow_succ]; omega
theorem rows_lt_set {rows : List Nat} {i k : Nat} (h : ∀ j, rows.getD j 0 < 2 ^ i) : ∀ j, (rows.set k (rows.getD k 0 ||| 2 ^ i)).getD j 0 < 2 ^ (i + 1) := fun j => by
  have h1 : ∀ x, x < 2 ^ i → x < 2 ^ (i + 1) := fun x hx => by rw [Nat.pow_succ]; omega
  rw [Dil.getD_set]
  split
  · exact or_lt (h k)
  · exact h1 _ (h j)
theorem rows_lt_new {rows : List Nat} {i : Nat} (h : ∀ j, rows.getD j 0 < 2 ^ i) : ∀ j, (rows ++ [2 ^ i]).getD j 0 < 2 ^ (i + 1) := fun j => by
  have h1 : ∀ x, x < 2 ^ i → x < 2 ^ (i + 1) := fun x hx => by rw [Nat.pow_succ]; omega
  rw [Dil.getD_snoc]
  split
  · exact Nat.pow_lt_pow_right (by omega) (by omega)
  · exact h1 _ (h j)
theorem set_back {rows : List Nat} {i k : Nat} (hk : k < rows.length) (h : rows.getD k 0 < 2 ^ i) : (rows.set k (rows.getD k 0 ||| 2 ^ i)).set k (Odr.diff (rows.getD k 0 ||| 2 ^ i) (2 ^ i)) = rows := by
  rw [List.set_set, diff_or_bit h, List.getD_eq_getElem?_getD, List.getElem?_eq_getElem hk]
  exact List.set_getElem_self hk
theorem take_set_succ {out : List Nat} {i x : Nat} (h : i < out.length) : (out.set i x).take (i + 1) = out.take i ++ [x] := by
  rw [List.take_add_one, List.take_set_of_le (Nat.le_refl _)]
  congr 1
  simp [h]
set_option maxRecDepth 20000 in
set_option maxHeartbeats 8000000 in
theorem fill_step (B gn go T n : Nat) (near : List Nat) (most d : Nat) (hn : n ≤ 12) (hmost : most ≤ 12) (hnl : near.length = n) (hnb : ∀ k, near.getD k 0 < 2 ^ 12) (ih : FillOk B gn go T n near most d) : FillOk B gn go T n near most (d + 1) := by
  intro i rows out rv w hi hrl hrb hol hc
  have HC := Lib.hid hc
  have HOL := Lib.hid hol
  have HRB := Lib.hid hrb
  have HNB := Lib.hid hnb
  have IH := Lib.hid ih
  have HNL := Lib.hid hnl
  have hin : i < n := by omega
  have c0 := hc.c0
  have c1 := hc.c1
  have hne : ((i : Int) == (n : Int)) = false := by simp; omega
  obtain ⟨A, cap, hrv, hcap⟩ := hc.val
  have HRV := Lib.hid hrv
  rw [hrv] at c1
  clear hc hrb hol hnb ih hnl hrv
  go_enter Tryd.func68, Tryd.ntmps68
  go_wp2_with fail
  clear c0 c1 hne
  go_loopw [18] (fun kv wr => ∃ (k : Nat) (rv' : Value) (out' : List Nat), k ≤ rows.length ∧ kv = nv k ∧ Hid (∀ j, j < k → Dil.trial (Dil.fill near most d) near rows i j = none) ∧ Hid (CovAt wr B gn go T n near rv' most rows out') ∧ Hid (out'.length = n ∧ out'.take i = out.take i) ∧ Hid (Only (FC B go rv) w wr) ∧ Hid (∀ x, FC B go rv' x → FC B go rv x ∨ w.heap.size ≤ x)) (fun kv _ => rows.length - (intOf kv).toNat)
  case atStart => exact ⟨0, rv, out, Nat.zero_le _, rfl, Lib.hid (fun j hj => absurd hj (Nat.not_lt_zero _)), HC, Lib.hid ⟨HOL.out, rfl⟩, Lib.hid (Only.refl _ _), Lib.hid (fun x hx => .inl hx)⟩
  case round =>
    obtain ⟨k, rv', out', hk, rfl, hno, hcov, hout, honly, hft⟩ := hrel
    by_cases hkl : k < rows.length
    · obtain ⟨g, cap', rfl, hgB, hcap', hcell⟩ := hcov.out.lit (by omega)
      have c0 := hcov.out.c0
      have c1 := hcov.out.c1
      have c2 := hcov.out.c2
      have e0 := (hcell k hkl).1
      have fe0 := (hcell k hkl).2
      have n0 := hcov.out.nearAt (k := i) (by rw [HNL.out]; exact hin)
      have hrk := HRB.out k
      have hnk := HNB.out i
      have h62 : (2 : Nat) ^ i ≤ 2 ^ 12 := Nat.pow_le_pow_right (by omega) (by omega)
      have HTN := Lib.hid fun (h : Odr.diff (rows.getD k 0) (near.getD i 0) ≠ 0) => Dil.trial_no (F := Dil.fill near most d) h
      have HTY := Lib.hid fun (h : Odr.diff (rows.getD k 0) (near.getD i 0) = 0) => Dil.trial_yes (F := Dil.fill near most d) h
      have HL1 := Lib.hid (rows_lt_set (k := k) HRB.out)
      have HBK := Lib.hid (set_back hkl hrk)
      have hor := bits_or_shl (rows.getD k 0) i (by omega) (by omega)
      have hand := bits_andNot (rows.getD k 0) (near.getD i 0) (by omega) (by omega)
      have ik : (k : Int) < (rows.length : Int) := by omega
      have hrl12 : rows.length ≤ 12 := by omega
      have ii : (i : Int) < (n : Int) := by omega
      have HNX := Lib.hid fun (hx : Dil.trial (Dil.fill near most d) near rows i k = none) => show ∀ j, j < k + 1 → Dil.trial (Dil.fill near most d) near rows i j = none from fun j hj => by
        by_cases e : j = k
        · subst e; exact hx
        · exact hno.out j (by omega)
      have HKL := Lib.hid hkl
      have HRK := Lib.hid hrk
      have HGB := Lib.hid hgB.1
      have hxl := or_lt hrk
      have h63 : (2 : Nat) ^ (i + 1) ≤ 2 ^ 13 := Nat.pow_le_pow_right (by omega) (by omega)
      have hand2 := bits_andNot_shl (rows.getD k 0 ||| 2 ^ i) i (by omega) (by omega)
      have HSR := Lib.hid fun (w5 : World) (out5 : List Nat) (cap5 : Nat) (h : CovAt w5 B gn go T n near (.slice (some ⟨g, 0, none⟩) rows.length cap5) most rows out5) => h.setRow k (rows.getD k 0 ||| 2 ^ i)
      have HLS : (rows.set k (rows.getD k 0 ||| 2 ^ i)).length = rows.length := List.length_set
      have HGD := Lib.hid (show (rows.set k (rows.getD k 0 ||| 2 ^ i)).getD k 0 = rows.getD k 0 ||| 2 ^ i by rw [Dil.getD_set, if_pos ⟨rfl, hkl⟩])
      clear hcell hkl h63 hxl
      generalize hrows1 : rows.set k (rows.getD k 0 ||| 2 ^ i) = rows1 at *
      generalize Odr.diff (rows.getD k 0 ||| 2 ^ i) (2 ^ i) = back at *
      generalize rows.getD k 0 ||| 2 ^ i = rx at *
      generalize hdf : Odr.diff (rows.getD k 0) (near.getD i 0) = df at *
      generalize rows.getD k 0 = rk at *
      generalize near.getD i 0 = nk at *
      by_cases h0 : df = 0
      · have ht : ((df : Int) != 0) = false := by simp; omega
        have HTR := Lib.hid (HTY.out h0)
        clear HTN HTY h0
        go_wp2_with fail
        go_quiet (fail)
        have HC5 := Lib.hid (hcov.out.drewN nq)
        have HO5 := Lib.hid (honly.out.drewN nq)
        clear hcov honly
        have c0 := HC5.out.c0
        have c1 := HC5.out.c1
        have c2 := HC5.out.c2
        have e0 : (wr.drewN nq).cell? ⟨g, k, none⟩ = some (nv rk) := e0
        have fe0 : (wr.drewN nq).frozen? ⟨g, k, none⟩ = false := fe0
        clear n0
        generalize wr.drewN nq = w5 at *
        have hgne : g ≠ B := hgB.2
        have hbne : B ≠ g := fun e => hgB.2 e.symm
        go_wp2_with fail
        have HC6 := Lib.hid (show CovAt (w5.setCell ⟨g, k, none⟩ (.int .i64 (rx : Int))).drew B gn go T n near (.slice (some ⟨g, 0, none⟩) rows.length cap') most rows1 out' from (HSR.out _ _ _ HC5.out).drewN 1)
        have HO6 := Lib.hid (show Only (FC B go rv) w (w5.setCell ⟨g, k, none⟩ (.int .i64 (rx : Int))).drew from (HO5.out.setCell (p := ⟨g, k, none⟩) (hft.out g (.inr (.inr rfl))) _).drew)
        refine wp_region_still_tail 11 (by kernel_rfl) (by kernel_rfl) ?_
        simp only [List.take_succ_cons, List.take_zero, List.drop_succ_cons, List.drop_zero]
        repeat still_step
        refine wpStill_nil ?_
        go_upto_region 8 with fail
        rw [hor]
        clear e0 fe0 c0 c1 c2 HC5 HO5
        generalize (w5.setCell ⟨g, k, none⟩ (.int .i64 (rx : Int))).drew = w6 at *
        have c2 := HC6.out.c2
        obtain ⟨o0, fo0⟩ := HC6.out.outAt (k := i) (by rw [hout.out.1]; exact hin)
        generalize out'.getD i 0 = ov at *
        have HC7 := Lib.hid (HC6.out.setOut i k)
        have HO7 := Lib.hid (HO6.out.setCell (p := ⟨go, i, none⟩) (.inl (.inr (.inl rfl))) (.int .i64 (k : Int)))
        have hcall := Lib.hid (IH.out (i + 1) rows1 (out'.set i k) _ _ (by omega) (by rw [HLS]; exact hrl) HL1.out (by rw [List.length_set]; exact hout.out.1) HC7.out)
        generalize hR : Dil.fill near most d (i + 1) rows1 = R at *
        clear hR HC6 HO6 HL1 HC7
        cases R with
        | some r =>
          have HF := Lib.hid (Dil.fill_at HKL.out HTR.out hno.out)
          have hcall := Lib.hid (show Calls Tryd.prog 68 #[.pointer (some ⟨B, 0, none⟩), .int .i64 ((i : Int) + 1)] (w6.setCell ⟨go, i, none⟩ (.int .i64 (k : Int))) fun e w' => e = .returned (.bool true) ∧ FTo (w6.setCell ⟨go, i, none⟩ (.int .i64 (k : Int))) B gn go T n near (.slice (some ⟨g, 0, none⟩) rows.length cap') most (i + 1) rows1 (out'.set i k) (some r) w' from hcall.out)
          clear HTR HNX hno
          go_wp2_with (go_at_call 68; (with_reducible refine hcall.out.mono ?_); rintro e w8 ⟨rfl, hto⟩)
          go_ret
          obtain ⟨rv2, rows2, out2, p1, p2, p3, p4, p5, -⟩ := hto
          refine ⟨by rw [HF.out]; rfl, rv2, rows2, out2, p1, p2, HO7.out.trans p3 (fun y hy => hft.out y hy), fun y hy => ?_, fun r' hr' => ?_, fun h => by rw [HF.out] at h; cases h⟩
          · rcases p4 y hy with q | q
            · exact hft.out y q
            · right
              have h1 : (w6.setCell ⟨go, i, none⟩ (.int .i64 (k : Int))).heap.size ≤ y := q
              have h2 := HO7.out.size
              omega
          · rw [HF.out] at hr'
            obtain rfl := Option.some.inj hr'
            rw [p5 r rfl, take_set_succ (by rw [hout.out.1]; exact hin), hout.out.2, List.append_assoc]; rfl
        | none =>
          have HN := Lib.hid (HNX.out HTR.out)
          have hcall := Lib.hid (show Calls Tryd.prog 68 #[.pointer (some ⟨B, 0, none⟩), .int .i64 ((i : Int) + 1)] (w6.setCell ⟨go, i, none⟩ (.int .i64 (k : Int))) fun e w' => e = .returned (.bool false) ∧ FTo (w6.setCell ⟨go, i, none⟩ (.int .i64 (k : Int))) B gn go T n near (.slice (some ⟨g, 0, none⟩) rows.length cap') most (i + 1) rows1 (out'.set i k) none w' from hcall.out)
          clear HTR HNX hno
          go_wp2_with (go_at_call 68; (with_reducible refine hcall.out.mono ?_); rintro e w8 ⟨rfl, hto⟩)
          obtain ⟨rv2, rows2, out2, p1, p2, p3, p4, -, p6⟩ := hto
          obtain ⟨e1, q2⟩ := p6 rfl
          rw [e1] at p1
          clear p6 e1
          have HOT := Lib.hid (show out2.length = n ∧ out2.take i = out.take i from ⟨p2, by
            have h1 := congrArg (List.take i) q2
            rw [List.take_take, List.take_take, Nat.min_eq_left (Nat.le_succ i), List.take_set_of_le (Nat.le_refl _)] at h1
            rw [h1, hout.out.2]⟩)
          have HO8 := Lib.hid (HO7.out.trans p3 (fun y hy => hft.out y hy))
          have HF8 := Lib.hid (show ∀ y, FC B go rv2 y → FC B go rv y ∨ w.heap.size ≤ y from fun y hy => by
            rcases p4 y hy with q | q
            · exact hft.out y q
            · right
              have h1 : (w6.setCell ⟨go, i, none⟩ (.int .i64 (k : Int))).heap.size ≤ y := q
              have h2 := HO7.out.size
              omega)
          obtain ⟨g2, cap2, e2, hgB2, hcap2, hcell2⟩ := p1.lit (by rw [HLS]; have := HKL.out; omega)
          rw [HLS] at e2
          subst e2
          obtain ⟨x0, fx0⟩ := hcell2 k (by rw [HLS]; exact HKL.out)
          rw [HGD.out] at x0
          have d1 := p1.c1
          have hgne2 : g2 ≠ B := hgB2.2
          have hbne2 : B ≠ g2 := fun e => hgB2.2 e.symm
          have HC9 := Lib.hid (show CovAt (w8.setCell ⟨g2, k, none⟩ (.int .i64 (back : Int))).drew B gn go T n near (.slice (some ⟨g2, 0, none⟩) rows.length cap2) most rows (out2) from by
            have h := CovAt.setRow (g := g2) (cap := cap2) (rows := rows1) (by rw [HLS]; exact p1) k back
            rw [HBK.out, HLS] at h
            exact h.drewN 1)
          have HO9 := Lib.hid (show Only (FC B go rv) w (w8.setCell ⟨g2, k, none⟩ (.int .i64 (back : Int))).drew from (HO8.out.setCell (p := ⟨g2, k, none⟩) (HF8.out g2 (.inr (.inr rfl))) _).drew)
          clear p1 p2 p3 p4 q2 hcell2 hcap2 hout hcall
          go_wp2_with fail
          refine wp_region_still_tail 11 (by kernel_rfl) (by kernel_rfl) ?_
          simp only [List.take_succ_cons, List.take_zero, List.drop_succ_cons, List.drop_zero]
          repeat still_step
          refine wpStill_nil ?_
          go_wp2_with fail
          go_roundw
          case rel => exact ⟨k + 1, _, out2, by have := HKL.out; omega, by go_num, HN, HC9, HOT, HO9, HF8⟩
          case measure => have := HKL.out; simp [intOf]; omega
      · have ht : ((df : Int) != 0) = true := by simp; omega
        have HN := Lib.hid (HNX.out (HTN.out h0))
        clear HTN HTY HNX h0
        go_wp2_with fail
        go_quiet (fail)
        go_wp2_with fail
        go_roundw
        case rel => exact ⟨k + 1, _, out', by omega, by go_num, HN, Lib.hid (hcov.out.drewN _), hout, Lib.hid (honly.out.drewN _), hft⟩
        case measure => simp [intOf]; omega
    · obtain rfl : k = rows.length := by omega
      have HNW := Lib.hid (Dil.fill_new (d := d) hno.out)
      obtain ⟨A2, cap2, e2, hcap2⟩ := hcov.out.val
      have c1 := hcov.out.c1
      have c3 := hcov.out.c3
      rw [e2] at c1
      have hrl12 : rows.length ≤ 12 := by omega
      by_cases hm : rows.length = most
      · have ht : ((rows.length : Int) == (most : Int)) = true := by simp; omega
        have HF := Lib.hid (HNW.out.trans (if_pos hm))
        clear HNW hm hno
        go_wp2_with fail
        go_quiet (fail)
        go_wp2_with fail
        go_ret
        exact ⟨by rw [HF.out]; rfl, rv', rows, out', hcov.out.drewN _, hout.out.1, honly.out.drewN _, hft.out, fun r hr => (by rw [HF.out] at hr; cases hr), fun _ => ⟨rfl, hout.out.2⟩⟩
      · have ht : ((rows.length : Int) == (most : Int)) = false := by simp; omega
        have HF := Lib.hid (HNW.out.trans (if_neg hm))
        have HM := Lib.hid hm
        clear HNW hm hno
        go_wp2_with fail
        go_quiet (fail)
        have HC5 := Lib.hid (hcov.out.drewN nq)
        have HO5 := Lib.hid (honly.out.drewN nq)
        clear hcov honly c1 c3
        generalize wr.drewN nq = w5 at *
        have hsh := wrap_shl i (by omega)
        have HPP := Lib.hid (show ∃ P, P = 2 ^ i from ⟨_, rfl⟩)
        obtain ⟨P, hP⟩ : ∃ P, P = 2 ^ i := ⟨_, rfl⟩
        rw [← hP] at hsh
        have HP := Lib.hid hP
        clear hP
        obtain ⟨rv3, w6, hrun, hown6, hgr6, hat6⟩ := run_append_row (w5.alloc (.cells #[.int .i64 (P : Int)] 3)).drew T rv' (zs rows) (Own.drew (Own.alloc HC5.out.rws _)) w5.heap.size (P : Int) (by show (w5.alloc (.cells #[.int .i64 (P : Int)] 3)).cell? ⟨w5.heap.size, 0, none⟩ = _; rw [World.cell?_alloc_new]; rfl) (by rw [length_zs]; omega) (by have := HC5.out.lw; show T ≤ (w5.alloc (.cells #[.int .i64 (P : Int)] 3)).heap.size; simp; omega) 22
        have HCA := Lib.hid (show CovAt (w5.alloc (.cells #[.int .i64 (P : Int)] 3)).drew B gn go T n near rv' most rows out' from (HC5.out.alloc _).drewN 1)
        have hown6' : Own w6 T rv3 (zs (rows ++ [P])) := by
          rw [show zs (rows ++ [P]) = zs rows ++ [(P : Int)] by simp [zs]]; exact hown6
        have HC6 := Lib.hid (HCA.out.setRv hgr6 hown6')
        have HO6 := Lib.hid (show Only (FC B go rv) w (w6.setCell ⟨B, 1, none⟩ rv3) from (((HO5.out.alloc (.cells #[.int .i64 (P : Int)] 3)).drew.grown hgr6 (fun y hy => hft.out y (.inr (.inr hy)))).setCell (p := ⟨B, 1, none⟩) (.inl (.inl rfl)) rv3))
        have HF6 := Lib.hid (show ∀ y, FC B go rv3 y → FC B go rv y ∨ w.heap.size ≤ y from fun y hy => by
          rcases FC.next (w := (w5.alloc (.cells #[.int .i64 (P : Int)] 3)).drew) (rv := rv') (hat6.imp id (fun h => .inr ⟨_, h, Nat.le_refl _⟩)) hy with q | q
          · exact hft.out y q
          · right
            have h1 : (w5.alloc (.cells #[.int .i64 (P : Int)] 3)).heap.size ≤ y := q
            have h2 := HO5.out.size
            simp at h1
            omega)
        obtain ⟨A3, cap3, e3⟩ := Rd.val hown6'.ints
        rw [length_zs, List.length_append, List.length_singleton] at e3
        have hnB : some B ≠ rv'.ownBlock := fun e => by have := row_lt HC5.out.rws B e.symm; have := HC5.out.ltB; omega
        have hb1 : w6.cell? ⟨B, 1, none⟩ = some rv' := (hgr6.cell_far _ HCA.out.row.lt hnB).trans HCA.out.c1
        have hf1 : w6.frozen? ⟨B, 1, none⟩ = false := (hgr6.frozen_far _ HCA.out.row.lt hnB).trans HCA.out.f1
        have ha1 := HCA.out.c1
        have h51 := HC5.out.c1
        subst e3
        rw [e2] at hb1 ha1 h51 hrun
        clear hgr6 hown6 hown6' hat6 hnB HPP
        go_wp2_with fail
        go_region
        clear hrun hb1 hf1 ha1 h51 HCA HO5 HC5 hsh
        generalize w6.setCell ⟨B, 1, none⟩ (.slice A3 (rows.length + 1) cap3) = w7 at *
        have c1 := HC6.out.c1
        have c2 := HC6.out.c2
        obtain ⟨o0, fo0⟩ := HC6.out.outAt (k := i) (by rw [hout.out.1]; exact hin)
        generalize out'.getD i 0 = ov at *
        have hsub : IntKind.i64.wrap (((rows.length + 1 : Nat) : Int) - 1) = (rows.length : Int) := by
          rw [IntWalk.i64_in _ (by constructor <;> omega)]; omega
        have ii : (i : Int) < (n : Int) := by omega
        have HL1 := Lib.hid (rows_lt_new HRB.out)
        rw [← HP.out] at HL1
        have HC7 := Lib.hid (show CovAt (w7.setCell ⟨go, i, none⟩ (.int .i64 (rows.length : Int))).drew B gn go T n near (.slice A3 (rows.length + 1) cap3) most (rows ++ [P]) (out'.set i rows.length) from (HC6.out.setOut i rows.length).drewN 1)
        have HO7 := Lib.hid (show Only (FC B go rv) w (w7.setCell ⟨go, i, none⟩ (.int .i64 (rows.length : Int))).drew from (HO6.out.setCell (p := ⟨go, i, none⟩) (.inl (.inr (.inl rfl))) _).drew)
        have hcall := Lib.hid (IH.out (i + 1) (rows ++ [P]) (out'.set i rows.length) _ _ (by omega) (by have := HM.out; rw [List.length_append, List.length_singleton]; omega) HL1.out (by rw [List.length_set]; exact hout.out.1) HC7.out)
        rw [← HP.out] at HF
        clear HC6 HO6 HC7 HL1
        go_wp2_with fail
        refine wp_region_still_tail 12 (by kernel_rfl) (by kernel_rfl) ?_
        simp only [List.take_succ_cons, List.take_zero, List.drop_succ_cons, List.drop_zero]
        repeat still_step
        refine wpStill_nil ?_
        go_upto_region 17 with fail
        clear o0 fo0 c1 c2
        generalize (w7.setCell ⟨go, i, none⟩ (.int .i64 (rows.length : Int))).drew = w8 at *
        generalize hR : Dil.fill near most d (i + 1) (rows ++ [P]) = R at *
        clear hR
        have hlen1 : (rows ++ [P]).length = rows.length + 1 := by simp
        cases R with
        | some r =>
          have HF2 := Lib.hid (show Dil.fill near most (d + 1) i rows = some (rows.length :: r) from HF.out)
          have hcall := Lib.hid (show Calls Tryd.prog 68 #[.pointer (some ⟨B, 0, none⟩), .int .i64 ((i : Int) + 1)] w8 fun e w' => e = .returned (.bool true) ∧ FTo w8 B gn go T n near (.slice A3 (rows.length + 1) cap3) most (i + 1) (rows ++ [P]) (out'.set i rows.length) (some r) w' from hcall.out)
          clear HF
          go_wp2_with (go_at_call 68; (with_reducible refine hcall.out.mono ?_); rintro e w9 ⟨rfl, hto⟩)
          go_ret
          obtain ⟨rv2, rows2, out2, p1, p2, p3, p4, p5, -⟩ := hto
          refine ⟨by rw [HF2.out]; rfl, rv2, rows2, out2, p1, p2, HO7.out.trans p3 (fun y hy => HF6.out y hy), fun y hy => ?_, fun r' hr' => ?_, fun h => by rw [HF2.out] at h; cases h⟩
          · rcases p4 y hy with q | q
            · exact HF6.out y q
            · right
              have h2 := HO7.out.size
              omega
          · rw [HF2.out] at hr'
            obtain rfl := Option.some.inj hr'
            rw [p5 r rfl, take_set_succ (by rw [hout.out.1]; exact hin), hout.out.2, List.append_assoc]; rfl
        | none =>
          have HF2 := Lib.hid (show Dil.fill near most (d + 1) i rows = none from HF.out)
          have hcall := Lib.hid (show Calls Tryd.prog 68 #[.pointer (some ⟨B, 0, none⟩), .int .i64 ((i : Int) + 1)] w8 fun e w' => e = .returned (.bool false) ∧ FTo w8 B gn go T n near (.slice A3 (rows.length + 1) cap3) most (i + 1) (rows ++ [P]) (out'.set i rows.length) none w' from hcall.out)
          clear HF
          go_wp2_with (go_at_call 68; (with_reducible refine hcall.out.mono ?_); rintro e w9 ⟨rfl, hto⟩)
          obtain ⟨rv2, rows2, out2, p1, p2, p3, p4, -, p6⟩ := hto
          obtain ⟨e1, q2⟩ := p6 rfl
          rw [e1] at p1
          clear p6 e1
          have HOT := Lib.hid (show out2.length = n ∧ out2.take i = out.take i from ⟨p2, by
            have h1 := congrArg (List.take i) q2
            rw [List.take_take, List.take_take, Nat.min_eq_left (Nat.le_succ i), List.take_set_of_le (Nat.le_refl _)] at h1
            rw [h1, hout.out.2]⟩)
          have HO8 := Lib.hid (HO7.out.trans p3 (fun y hy => HF6.out y hy))
          have HF8 := Lib.hid (show ∀ y, FC B go rv2 y → FC B go rv y ∨ w.heap.size ≤ y from fun y hy => by
            rcases p4 y hy with q | q
            · exact HF6.out y q
            · right
              have h2 := HO7.out.size
              omega)
          obtain ⟨g2, cap2', e2', hgB2, hcap2', -⟩ := p1.lit (by rw [hlen1]; omega)
          rw [hlen1] at e2' hcap2'
          subst e2'
          have d1 := p1.c1
          have df1 := p1.f1
          have hcut := Own.cut p1.rws (k := rows.length) (by simp) (by simp)
          rw [show (zs (rows ++ [P])).take rows.length = zs rows by simp [zs]] at hcut
          have HC9 := Lib.hid (CovAt.setRv (p1.drewN 1) (w1 := w9.drew) ⟨rfl, rfl, rfl, Nat.le_refl _, fun _ _ _ => rfl⟩ hcut)
          have HO9 := Lib.hid (show Only (FC B go rv) w (w9.drew.setCell ⟨B, 1, none⟩ (.slice (some ⟨g2, 0, none⟩) rows.length cap2')) from HO8.out.drew.setCell (p := ⟨B, 1, none⟩) (.inl (.inl rfl)) _)
          have HF9 := Lib.hid (show ∀ y, FC B go (.slice (some ⟨g2, 0, none⟩) rows.length cap2') y → FC B go rv y ∨ w.heap.size ≤ y from fun y hy => HF8.out y hy)
          have hcap8 : (rows.length : Int) ≤ (cap2' : Int) := by omega
          have hwr1 : IntKind.i64.wrap (rows.length : Int) = (rows.length : Int) := IntWalk.i64_in _ (by constructor <;> omega)
          clear p1 p2 p3 p4 q2 hcut hcall HO8 HF8
          go_wp2_with fail
          refine wp_region_still_tail 14 (by kernel_rfl) (by kernel_rfl) ?_
          simp only [List.take_succ_cons, List.take_zero, List.drop_succ_cons, List.drop_zero]
          repeat still_step
          refine wpStill_nil ?_
          go_wp2_with fail
          go_ret
          exact ⟨by rw [HF2.out]; rfl, _, rows, out2, HC9.out, HOT.out.1, HO9.out, HF9.out, fun r hr => (by rw [HF2.out] at hr; cases hr), fun _ => ⟨rfl, HOT.out.2⟩⟩
/-- a call of fill, whole -/
theorem fill_ok (B gn go T n : Nat) (near : List Nat) (most : Nat) (hn : n ≤ 12) (hmost : most ≤ 12) (hnl : near.length = n) (hnb : ∀ k, near.getD k 0 < 2 ^ 12) : ∀ d, FillOk B gn go T n near most d := by
  intro d
  induction d with
  | zero => exact fill_full B gn go T n near most
  | succ d ih => exact fill_step B gn go T n near most d hn hmost hnl hnb ih
end Go.Proofs.YtpicjikjinkkpaaDoor
