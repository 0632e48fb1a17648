/- The reference's search: its loop. Conditions: the contract's own premises. (Printed by wip/gen/rrest.py.) -/
import Derived.Test.YtjmjifcaobkobaaDoorRRestA
import Derived.Deep.CutRange
import Derived.Deep.AppendLies
import Derived.StillTailTactics
import Derived.Deep.RegionHeld3
namespace Go.Proofs.YtjmjifcaobkobaaDoor
open Go.RowKit Go.Maps His
attribute [-go_sem] Builtin.append_

/-- 'append(with, i)', its run -/
theorem run_append_int (w : World) (base : Nat) (v : Value) (l : List Int) (hown : Own w base v l) (q : Nat) (y : Int) (hc : w.cell? ⟨q, 0, none⟩ = some (iv y)) (hlen : l.length < 1000000) (hbase : base ≤ w.heap.size) (ty : TypeId) :
    ∃ v' w', (Builtin.append_ #[28, 28] ty #[v, .slice (some ⟨q, 0, none⟩) 1 1]).run Tryd.prog w = .ok v' w' ∧ Own w' base v' (l ++ [y]) ∧ Below base w w' := by
  obtain ⟨i0, hi, hz0, hz1, hz2⟩ := info_parts Tryd.infoInt
  obtain ⟨v', w', hr, h2, h3, h4, h5⟩ := run_append_own_at (P := Tryd.prog) w base 28 ty 3 i0 (.int .i64 0) 1 8 Tryd.underlying28 hi hz0 hz1 hz2 rfl (by decide) v l.length (l.map iv) hown ⟨q, 0, none⟩ 1 1 [iv y] rfl (by
    intro j u hj
    match j, hj with
    | 0, hj => simp at hj; subst hj; exact hc) (by intro u hu; simp at hu; subst hu; rfl) (by unfold maxLen; omega) (by omega) hbase
  exact ⟨v', w', hr, Own.of_row h2, (Below.refl base w).grown h3 hbase (Own.blockLe hown)⟩
theorem rto_cells {w w' : World} {h : List N6} {pre : List Nat} {b g N m Z : Nat} {vs : List Value} {u0 u1 u2 : Nat} (ht : RTo w h pre b g N vs m w') (hz : Z < w.heap.size) (hk : ¬ FK g N vs Z) (hc : w.cell? ⟨Z, 0, none⟩ = some (nv u0) ∧ w.cell? ⟨Z, 1, none⟩ = some (nv u1) ∧ w.cell? ⟨Z, 2, none⟩ = some (nv u2)) :
    w'.cell? ⟨Z, 0, none⟩ = some (nv u0) ∧ w'.cell? ⟨Z, 1, none⟩ = some (nv u1) ∧ w'.cell? ⟨Z, 2, none⟩ = some (nv u2) := by
  obtain ⟨_, _, _, -, -, ho, -⟩ := ht
  exact ⟨(ho.cell (p := ⟨Z, 0, none⟩) hz hk).trans hc.1, (ho.cell (p := ⟨Z, 1, none⟩) hz hk).trans hc.2.1, (ho.cell (p := ⟨Z, 2, none⟩) hz hk).trans hc.2.2⟩
theorem from_len {h : List N6} {pre : List Nat} {d done : Nat} {v r : List Nat} (hr : from_ h pre d done v = some r) : r.length = d := (from_some d done v r hr).1
theorem from_none_pos {h : List N6} {pre : List Nat} {d done : Nat} {v : List Nat} (hr : from_ h pre d done v = none) : 0 < d := by
  cases d with
  | zero => cases hr
  | succ d => omega

set_option maxRecDepth 20000 in
set_option maxHeartbeats 8000000 in
theorem rest_loop (h : List N6) (hh : Hok h) (pre : List Nat) (hv pv : Value) (b g d : Nat) (ih : RestOk h pre hv pv b g d) (l : List Nat) (done v0 v1 v2 n : Nat) (tv : Value) (vs : List Value) (L : Nat → List T3) (w : World) (hl : l.length + (d + 1) = h.length) (hd : done < 2 ^ h.length)
    (hc : Odr.cnt h.length done.testBit = l.length) (h0 : v0 ≤ 1000000) (h1 : v1 ≤ 1000000) (h2 : v2 ≤ 1000000) (hn : n + 11 ^ (d + 2) ≤ 2 ^ 40) (hs : StkAt w b g (2 ^ h.length) n (Gd h pre) vs L) (hst : Stand h pre hv pv g w) (hi : Ints w w.heap.size tv (zs l)) (hoff : Off (FK g (2 ^ h.length) vs) tv) (hin : decide ((v0, v1, v2) ∈ L done) = false) :
    Calls Tryd.prog 15 #[hv, pv, .pointer (some ⟨b, 0, none⟩), tv, nv done, .agg #[nv v0, nv v1, nv v2]] w fun e w' =>
      ∃ rv, e = .returned rv ∧ Ints w' w'.heap.size rv (zs (l ++ (from_ h pre (d + 1) done [v0, v1, v2]).getD [])) ∧ RTo w h pre b g (2 ^ h.length) vs (n + 11 ^ (d + 2)) w' := by
  have hne : ((l.length : Int) == (h.length : Int)) = false := by simp; omega
  have hd12 : done < 4096 := Nat.lt_of_lt_of_le hd (Nat.le_trans (Nat.pow_le_pow_right (by omega) hh.len) (by decide))
  have hw1 := (Below.refl w.heap.size w).alloc (Nat.le_refl _) (.cells #[nv v0, nv v1, nv v2] 44)
  have hhas := Lib.hid (rhas_calls (hs.alloc (.cells #[nv v0, nv v1, nv v2] 44)) done hd (Nat.le_trans (Nat.le_trans (Nat.le_add_right _ _) hn) (by decide)) v0 v1 v2)
  rw [hin] at hhas
  have k0 : (w.alloc (.cells #[nv v0, nv v1, nv v2] 44)).cell? ⟨w.heap.size, 0, none⟩ = some (nv v0) := by rw [World.cell?_alloc_new]; rfl
  have k1 : (w.alloc (.cells #[nv v0, nv v1, nv v2] 44)).cell? ⟨w.heap.size, 1, none⟩ = some (nv v1) := by rw [World.cell?_alloc_new]; rfl
  have k2 : (w.alloc (.cells #[nv v0, nv v1, nv v2] 44)).cell? ⟨w.heap.size, 2, none⟩ = some (nv v2) := by rw [World.cell?_alloc_new]; rfl
  have HW1 := Lib.hid hw1
  have HK := Lib.hid (And.intro k0 (And.intro k1 k2))
  have HS := Lib.hid hs
  have HH := Lib.hid hh
  have HL := Lib.hid hh.len
  have HST := Lib.hid hst
  have HLL := Lib.hid hl
  have HD := Lib.hid hd
  have HC := Lib.hid hc
  have HN := Lib.hid hn
  have HI := Lib.hid hi
  have HOF := Lib.hid hoff
  have IH := Lib.hid ih
  have hpl := hst.len
  obtain ⟨A, cap, rfl⟩ := Rd.val hst.ops
  obtain ⟨A', cap', rfl⟩ := Rd.val hi
  obtain ⟨Ap, capp, rfl⟩ := Rd.val hst.ahd
  rw [length_zops] at *
  rw [length_zs] at *
  rw [hpl] at *
  clear hs hst hh hin hi hoff hw1 ih hpl hc
  go_enter Tryd.func15, Tryd.ntmps15
  go_wp2_with (go_at_call 20; (with_reducible refine hhas.out.mono ?_); rintro e w1 ⟨rfl, hb1⟩)
  have hbw := HW1.out.trans (hb1.mono (by simp))
  have HS1 := Lib.hid (HS.out.below hbw)
  have HO1 := Lib.hid (Only.of_below hbw (Nat.le_refl _) (FK g (2 ^ h.length) vs))
  have hsz1 : w.heap.size < w1.heap.size := by have := hb1.size; simp at this; omega
  have HK1 := Lib.hid (show w1.cell? ⟨w.heap.size, 0, none⟩ = some (nv v0) ∧ w1.cell? ⟨w.heap.size, 1, none⟩ = some (nv v1) ∧ w1.cell? ⟨w.heap.size, 2, none⟩ = some (nv v2) from ⟨(hb1.cell (p := ⟨w.heap.size, 0, none⟩) (by simp)).trans HK.out.1, (hb1.cell (p := ⟨w.heap.size, 1, none⟩) (by simp)).trans HK.out.2.1, (hb1.cell (p := ⟨w.heap.size, 2, none⟩) (by simp)).trans HK.out.2.2⟩)
  have HSZ1 := Lib.hid hsz1
  clear hhas hb1 hbw k0 k1 k2 hne hsz1 HK HW1
  obtain ⟨B, hB⟩ : ∃ B, B = w.heap.size := ⟨_, rfl⟩
  rw [← hB] at HK1 HSZ1 ⊢
  have HB := Lib.hid hB
  clear hB
  have hl' := HLL.out
  go_loopw [13] (fun i wr => ∃ (k : Nat) (vs' : List Value) (L' : Nat → List T3) (n' : Nat), k ≤ h.length ∧ i = nv k ∧ Hid (∀ j, j < k → trial h pre (from_ h pre d) done [v0, v1, v2] j = none) ∧ Hid (StkAt wr b g (2 ^ h.length) n' (Gd h pre) vs' L') ∧
      Hid (Only (FK g (2 ^ h.length) vs) w wr) ∧ Hid (∀ x, FK g (2 ^ h.length) vs' x → FK g (2 ^ h.length) vs x ∨ w.heap.size < x) ∧ Hid (wr.cell? ⟨B, 0, none⟩ = some (nv v0) ∧ wr.cell? ⟨B, 1, none⟩ = some (nv v1) ∧ wr.cell? ⟨B, 2, none⟩ = some (nv v2)) ∧ Hid (B < wr.heap.size) ∧ Hid (n' ≤ n + k * 11 ^ (d + 1))) (fun i _ => h.length - (intOf i).toNat)
  case atStart => exact ⟨0, vs, L, n, Nat.zero_le _, rfl, Lib.hid (fun j hj => by omega), HS1, HO1, Lib.hid (fun x hx => .inl hx), HK1, HSZ1, Lib.hid (by omega)⟩
  case round =>
    clear HS1 HO1 HK1 HSZ1
    obtain ⟨k, vs', L', n', hk, rfl, hno, hsr, hor, hfr, hkk, hlt, hnb⟩ := hrel
    have hbg := Lib.hid (hor.out.below (B := g) (by have := (HS.out.foot g (.inl rfl)).2.1; omega) (fun x hx => (HS.out.foot x hx).1))
    have hstr := Lib.hid (HST.out.only hbg.out)
    have HIR := Lib.hid (Rd.more (Rd.only HI.out (Nat.le_refl _) hor.out HOF.out) hor.out.size)
    by_cases hkl : k < h.length
    · obtain ⟨bb, off, cap2, he, hbb, d0, d1, d2, d3, d4, d5⟩ := Ops.atN hstr.out.ops hkl
      cases he
      obtain ⟨bp, op, capq, he, hbp, e0⟩ := Ints.at_ hstr.out.ahd (k := k) (by rw [length_zs, hstr.out.len]; exact hkl)
      rw [length_zs, hstr.out.len] at he
      cases he
      have hpe : (zs pre)[k]'(by rw [length_zs, hstr.out.len]; exact hkl) = ((pre.getD k 0 : Nat) : Int) := by
        simp [zs, List.getD_eq_getElem?_getD, List.getElem?_eq_getElem (show k < pre.length by rw [hstr.out.len]; exact hkl)]
      rw [hpe] at e0
      clear hpe
      have HRG := Lib.hid (HH.out.rng _ (opAt_mem hkl))
      have HOK := Lib.hid (show okStep h pre done [v0, v1, v2] k = (!done.testBit k && (decide (Odr.diff (pre.getD k 0) done = 0) && (decide (His.wr (His.opAt h k) = 1) || decide (([v0, v1, v2] : List Nat).getD (ob (His.opAt h k)) 0 = vl (His.opAt h k))))) from rfl)
      have HAF := Lib.hid (show after h [v0, v1, v2] k = ([v0, v1, v2] : List Nat).set (ob (His.opAt h k)) (vl (His.opAt h k)) from rfl)
      generalize His.opAt h k = op' at *
      obtain ⟨p, o, t, x, f, e⟩ := op'
      simp only [pr, ob, His.wr, vl, fr, tt] at d0 d1 d2 d3 d4 d5 HRG HOK HAF
      obtain ⟨r0, r1, r2, r3, r4, r5, r6⟩ := HRG.out
      have hpk := hstr.out.fit k
      generalize pre.getD k 0 = pk at *
      have HMB := Lib.hid (show n' ≤ n + (k + 1) * 11 ^ (d + 1) by have := hnb.out; rw [Nat.add_mul]; omega)
      have hk10 : k < 64 := by have := HL.out; omega
      have HNX := Lib.hid fun (hx : trial h pre (from_ h pre d) done [v0, v1, v2] k = none) => show ∀ j, j < k + 1 → trial h pre (from_ h pre d) done [v0, v1, v2] j = none from fun j hj => by
        by_cases e : j = k
        · subst e; exact hx
        · exact hno.out j (by omega)
      obtain ⟨c0, c1, c2⟩ := hkk.out
      have hvo : wr.cell? ⟨B, o, none⟩ = some (nv (([v0, v1, v2] : List Nat).getD o 0)) := by
        match o, r1 with
        | 0, _ => exact c0
        | 1, _ => exact c1
        | 2, _ => exact c2
      generalize hgv : ([v0, v1, v2] : List Nat).getD o 0 = vo at *
      have HGV := Lib.hid hgv
      clear hgv
      have HKL := Lib.hid hkl
      have ik : (k : Int) < (h.length : Int) := by omega
      have io : (o : Int) < 3 := by omega
      have hbit := Lib.hid fun (q : Nat) (w5 : World) => bitqH done k q w5 hd12 hk10
      have hwi := Lib.hid fun (q : Nat) (w5 : World) => withinq pk done q w5 (by omega) (by omega)
      by_cases hb : done.testBit k = true
      · rw [hb] at hbit
        have HNX := Lib.hid (HNX.out (trial_no (by rw [HOK.out, hb]; rfl)))
        clear hb hwi HOK
        go_wp2_with fail
        go_quiet ((first | (go_at_call 21; (with_reducible exact hbit.out _ _)) | (go_at_call 22; (with_reducible exact hwi.out _ _))))
        go_wp2_with fail
        go_roundw
        case rel => exact ⟨k + 1, vs', L', n', by omega, by go_num, HNX, Lib.hid (hsr.out.drewN _), Lib.hid (hor.out.drewN _), hfr, hkk, hlt, HMB⟩
        case measure => simp [intOf]; omega
      · have hb' : done.testBit k = false := by simpa using hb
        rw [hb'] at hbit
        by_cases hdf : Odr.diff pk done = 0
        · rw [decide_eq_true ((and_of_diff pk done).2 hdf)] at hwi
          by_cases ht : t = 1
          · subst ht
            have HOKT := Lib.hid (show okStep h pre done [v0, v1, v2] k = true by rw [HOK.out, hb', hdf]; simp)
            clear hb hdf HOK
            obtain ⟨u0, u1, u2, hu, hcase, hu0, hu1, hu2⟩ : ∃ u0 u1 u2 : Nat, after h [v0, v1, v2] k = [u0, u1, u2] ∧ ((o = 0 ∧ u0 = x ∧ u1 = v1 ∧ u2 = v2) ∨ (o = 1 ∧ u0 = v0 ∧ u1 = x ∧ u2 = v2) ∨ (o = 2 ∧ u0 = v0 ∧ u1 = v1 ∧ u2 = x)) ∧ u0 ≤ 1000000 ∧ u1 ≤ 1000000 ∧ u2 ≤ 1000000 := by
              rw [HAF.out]
              match o, r1 with
              | 0, _ => exact ⟨x, v1, v2, rfl, .inl ⟨rfl, rfl, rfl, rfl⟩, by omega, by omega, by omega⟩
              | 1, _ => exact ⟨v0, x, v2, rfl, .inr (.inl ⟨rfl, rfl, rfl, rfl⟩), by omega, by omega, by omega⟩
              | 2, _ => exact ⟨v0, v1, x, rfl, .inr (.inr ⟨rfl, rfl, rfl, rfl⟩), by omega, by omega, by omega⟩
            have HTR := Lib.hid (show trial h pre (from_ h pre d) done [v0, v1, v2] k = (from_ h pre d (done ||| 2 ^ k) [u0, u1, u2]).map (k :: ·) by unfold trial; rw [if_pos HOKT.out, hu])
            have HCA := Lib.hid hcase
            clear hu hcase
            go_wp2_with fail
            go_quiet ((first | (go_at_call 21; (with_reducible exact hbit.out _ _)) | (go_at_call 22; (with_reducible exact hwi.out _ _))))
            have HS5 := Lib.hid (hsr.out.drewN nq)
            have HO5 := Lib.hid (hor.out.drewN nq)
            have HI5 := Lib.hid (show Ints (wr.drewN nq) (wr.drewN nq).heap.size (.slice A' l.length cap') (zs l) from HIR.out)
            have HC5 := Lib.hid (show (wr.drewN nq).cell? ⟨B, 0, none⟩ = some (nv v0) ∧ (wr.drewN nq).cell? ⟨B, 1, none⟩ = some (nv v1) ∧ (wr.drewN nq).cell? ⟨B, 2, none⟩ = some (nv v2) from ⟨c0, c1, c2⟩)
            have D1 : (wr.drewN nq).cell? ⟨bb, off + k * 6 + 1, none⟩ = some (nv o) := d1
            have D3 : (wr.drewN nq).cell? ⟨bb, off + k * 6 + 3, none⟩ = some (nv x) := d3
            have hw5 : B < (wr.drewN nq).heap.size := hlt.out
            have hb5 : bb < (wr.drewN nq).heap.size := Nat.lt_of_lt_of_le hbb (Nat.le_trans (Nat.le_of_lt (HS.out.foot g (.inl rfl)).2.1) hor.out.size)
            obtain ⟨q0, q1, q2⟩ := HC5.out
            clear c0 c1 c2 d0 d1 d2 d3 d4 d5 e0 hvo hlt hkk hsr hor HIR hbit hwi hstr hbg
            generalize wr.drewN nq = w5 at *
            go_wp2_with fail
            obtain ⟨w6, hw6⟩ : ∃ w6, w6 = w5.alloc (.cells #[nv v0, nv v1, nv v2] 44) := ⟨_, rfl⟩
            obtain ⟨Z, hZ⟩ : ∃ Z, Z = w5.heap.size := ⟨_, rfl⟩
            have hb6 : Below w5.heap.size w5 w6 := by rw [hw6]; exact (Below.refl _ _).alloc (Nat.le_refl _) _
            have Y : w6.cell? ⟨Z, 0, none⟩ = some (nv v0) ∧ w6.cell? ⟨Z, 1, none⟩ = some (nv v1) ∧ w6.cell? ⟨Z, 2, none⟩ = some (nv v2) := by
              rw [hw6, hZ, World.cell?_alloc_new, World.cell?_alloc_new, World.cell?_alloc_new]; exact ⟨rfl, rfl, rfl⟩
            have fo : w6.frozen? ⟨Z, o, none⟩ = false := by rw [hw6, hZ]; exact World.frozen?_alloc_new ..
            have E1 := (hb6.cell (p := ⟨bb, off + k * 6 + 1, none⟩) hb5).trans D1
            have E3 := (hb6.cell (p := ⟨bb, off + k * 6 + 3, none⟩) hb5).trans D3
            have z6 : w6.heap.size = Z + 1 := by rw [hw6, hZ]; simp
            rw [← hw6, ← hZ]
            have yo : w6.cell? ⟨Z, o, none⟩ = some (nv (([v0, v1, v2] : List Nat).getD o 0)) := by
              match o, r1 with
              | 0, _ => exact Y.1
              | 1, _ => exact Y.2.1
              | 2, _ => exact Y.2.2
            rw [HGV.out] at yo
            have HB7 := Lib.hid (show Below w5.heap.size w5 (w6.setCell ⟨Z, o, none⟩ (nv x)).drew from (hb6.setCell (p := ⟨Z, o, none⟩) (by rw [hZ]; exact Nat.le_refl _) _).drew)
            have HY7 := Lib.hid (show (w6.setCell ⟨Z, o, none⟩ (nv x)).drew.cell? ⟨Z, 0, none⟩ = some (nv u0) ∧ (w6.setCell ⟨Z, o, none⟩ (nv x)).drew.cell? ⟨Z, 1, none⟩ = some (nv u1) ∧ (w6.setCell ⟨Z, o, none⟩ (nv x)).drew.cell? ⟨Z, 2, none⟩ = some (nv u2) from by
              have hs := World.cell?_setCell_same w6 ⟨Z, o, none⟩ (nv x) yo
              have ho : ∀ j, o ≠ j → (w6.setCell ⟨Z, o, none⟩ (nv x)).cell? ⟨Z, j, none⟩ = w6.cell? ⟨Z, j, none⟩ := fun j hj => World.cell?_setCell_other _ _ _ _ (fun e => hj (congrArg Addr.off e))
              rcases HCA.out with ⟨e0, e1, e2, e3⟩ | ⟨e0, e1, e2, e3⟩ | ⟨e0, e1, e2, e3⟩
              · rw [e1, e2, e3]
                refine ⟨?_, (ho 1 (by omega)).trans Y.2.1, (ho 2 (by omega)).trans Y.2.2⟩
                rw [e0] at hs ⊢; exact hs
              · rw [e1, e2, e3]
                refine ⟨(ho 0 (by omega)).trans Y.1, ?_, (ho 2 (by omega)).trans Y.2.2⟩
                rw [e0] at hs ⊢; exact hs
              · rw [e1, e2, e3]
                refine ⟨(ho 0 (by omega)).trans Y.1, (ho 1 (by omega)).trans Y.2.1, ?_⟩
                rw [e0] at hs ⊢; exact hs)
            have HZ7 := Lib.hid (show (w6.setCell ⟨Z, o, none⟩ (nv x)).drew.heap.size = Z + 1 from by
              show (w6.setCell ⟨Z, o, none⟩ (nv x)).heap.size = Z + 1
              simpa using z6)
            have HZ := Lib.hid hZ
            clear hw6 hZ hb6 D1 D3 q0 q1 q2 Y z6 hb5
            refine wp_region_still_tail 11 (by kernel_rfl) (by kernel_rfl) ?_
            simp only [List.take_succ_cons, List.take_zero, List.drop_succ_cons, List.drop_zero]
            repeat still_step
            refine wpStill_nil ?_
            go_upto_region 9 with fail
            clear yo fo E1 E3
            generalize (w6.setCell ⟨Z, o, none⟩ (.int .i64 (x : Int))).drew = w7 at *
            have hi7 := Lib.hid (Rd.below HI5.out HB7.out)
            have hs7 : w5.heap.size ≤ w7.heap.size := HB7.out.size
            have hlen10 := HL.out
            go_wp2_with (at_builtin; refine append_ints rfl _ _ rfl w7.heap.size _ [] rfl (Own.nil _ _) (.slice A' l.length cap') (zs l) w5.heap.size rfl hi7.out (by simp; omega) (Nat.le_refl _) ?_; intro tw w8 hown2 hb8 _; rw [List.nil_append] at hown2)
            have HB8 := Lib.hid hb8
            have HBX := Lib.hid (HB7.out.trans (hb8.mono hs7))
            obtain ⟨v3, w9, hrun, hown9, hb9⟩ := run_append_int (w8.alloc (.cells #[nv k] 3)).drew w7.heap.size tw (zs l) (Own.drew (Own.alloc hown2 _)) w8.heap.size k (by show (w8.alloc (.cells #[nv k] 3)).cell? ⟨w8.heap.size, 0, none⟩ = _; rw [World.cell?_alloc_new]; rfl) (by rw [length_zs]; omega) (by have := hb8.size; show w7.heap.size ≤ (w8.alloc (.cells #[nv k] 3)).heap.size; simp; exact Nat.le_succ_of_le this) 28
            have hb89 : Below w7.heap.size w7 w9 := (hb8.alloc hb8.size _).drew.trans hb9
            have HB9 := Lib.hid (show Below w5.heap.size w5 w9 from HB7.out.trans (hb89.mono hs7))
            have HS9 := Lib.hid (HS5.out.below HB9.out)
            have HO9 := Lib.hid (HO5.out.trans (Only.of_below HB9.out (Nat.le_refl _) (fun _ => False)) (fun _ h => h.elim))
            have HI9 := Lib.hid (show Ints w9 w9.heap.size v3 (zs (l ++ [k])) from by
              have := hown9.ints
              rw [show zs l ++ [(k : Int)] = zs (l ++ [k]) by simp [zs]] at this
              exact this)
            have HF9 := Lib.hid (show Off (FK g (2 ^ h.length) vs') v3 from fun j hj hf => by
              have h1 := (row_lt hown9 j hj).1
              have h2 := (HS5.out.foot j hf).2.1
              omega)
            have HST9 := Lib.hid (HST.out.only (HO9.out.below (B := g) (by have := (HS.out.foot g (.inl rfl)).2.1; omega) (fun x hx => (HS.out.foot x hx).1)))
            have hzw : Z < w7.heap.size := by rw [HZ7.out]; omega
            have SZ8 : w8.drew.cell? ⟨Z, 0, none⟩ = some (nv u0) ∧ w8.drew.cell? ⟨Z, 1, none⟩ = some (nv u1) ∧ w8.drew.cell? ⟨Z, 2, none⟩ = some (nv u2) := ⟨(hb8.drew.cell (p := ⟨Z, 0, none⟩) hzw).trans HY7.out.1, (hb8.drew.cell (p := ⟨Z, 1, none⟩) hzw).trans HY7.out.2.1, (hb8.drew.cell (p := ⟨Z, 2, none⟩) hzw).trans HY7.out.2.2⟩
            have SZA : (w8.alloc (.cells #[nv k] 3)).drew.cell? ⟨Z, 0, none⟩ = some (nv u0) ∧ (w8.alloc (.cells #[nv k] 3)).drew.cell? ⟨Z, 1, none⟩ = some (nv u1) ∧ (w8.alloc (.cells #[nv k] 3)).drew.cell? ⟨Z, 2, none⟩ = some (nv u2) :=
              have hba := (hb8.alloc hb8.size (.cells #[nv k] 3)).drew
              ⟨(hba.cell (p := ⟨Z, 0, none⟩) hzw).trans HY7.out.1, (hba.cell (p := ⟨Z, 1, none⟩) hzw).trans HY7.out.2.1, (hba.cell (p := ⟨Z, 2, none⟩) hzw).trans HY7.out.2.2⟩
            have SZ9 : w9.cell? ⟨Z, 0, none⟩ = some (nv u0) ∧ w9.cell? ⟨Z, 1, none⟩ = some (nv u1) ∧ w9.cell? ⟨Z, 2, none⟩ = some (nv u2) := ⟨(hb89.cell (p := ⟨Z, 0, none⟩) hzw).trans HY7.out.1, (hb89.cell (p := ⟨Z, 1, none⟩) hzw).trans HY7.out.2.1, (hb89.cell (p := ⟨Z, 2, none⟩) hzw).trans HY7.out.2.2⟩
            have HKZ := Lib.hid (show ¬ FK g (2 ^ h.length) vs' Z from fun hf => by have := (HS5.out.foot Z hf).2.1; have := HZ.out; omega)
            have HZ9 := Lib.hid (show Z < w9.heap.size from Nat.lt_of_lt_of_le hzw hb89.size)
            have BT := Lib.hid hb'
            have HC9 := Lib.hid (show w9.cell? ⟨B, 0, none⟩ = some (nv v0) ∧ w9.cell? ⟨B, 1, none⟩ = some (nv v1) ∧ w9.cell? ⟨B, 2, none⟩ = some (nv v2) from ⟨(HB9.out.cell (p := ⟨B, 0, none⟩) hw5).trans HC5.out.1, (HB9.out.cell (p := ⟨B, 1, none⟩) hw5).trans HC5.out.2.1, (HB9.out.cell (p := ⟨B, 2, none⟩) hw5).trans HC5.out.2.2⟩)
            have HBL := Lib.hid (show B < w9.heap.size from Nat.lt_of_lt_of_le hw5 HB9.out.size)
            have HKB := Lib.hid (show ¬ FK g (2 ^ h.length) vs' B from fun hf => by
              rcases hfr.out B hf with q | q
              · have := (HS.out.foot B q).2.1; have := HB.out; omega
              · have := HB.out; omega)
            have hdk : done ||| 2 ^ k < 2 ^ h.length := Nat.or_lt_two_pow HD.out (Nat.pow_lt_pow_right (by omega) HKL.out)
            have hcall := Lib.hid (IH.out (l ++ [k]) (done ||| 2 ^ k) u0 u1 u2 n' v3 vs' L' w9 (by rw [List.length_append]; simp; omega) hdk (by rw [cnt_set HKL.out BT.out, HC.out, List.length_append]; rfl) hu0 hu1 hu2 (by
              have e1 : 11 ^ (d + 2) = 11 * 11 ^ (d + 1) := by rw [Nat.pow_succ]; omega
              have e2 := HN.out
              have e3 : k * 11 ^ (d + 1) ≤ 9 * 11 ^ (d + 1) := Nat.mul_le_mul_right _ (by have := HKL.out; omega)
              have e4 := hnb.out
              omega) HS9.out HST9.out HI9.out HF9.out)
            have hp2 := Lib.hid fun w5 : World => pow2_calls k w5 (by omega)
            have hP : 2 ^ k < 4096 := Nat.lt_of_lt_of_le (Nat.pow_lt_pow_right (by omega) HKL.out) (Nat.le_trans (Nat.pow_le_pow_right (by omega) HL.out) (by decide))
            have hadd : IntKind.i64.wrap ((done : Int) + ((2 ^ k : Nat) : Int)) = ((done ||| 2 ^ k : Nat) : Int) := by
              rw [or_bit hb']
              have key : ∀ P : Nat, P < 4096 → IntKind.i64.wrap ((done : Int) + (P : Int)) = ((done + P : Nat) : Int) := fun P hP => IntWalk.i64_in _ (by constructor <;> omega)
              exact key _ hP
            clear hdk hP hown9 hb9 hb89 hb8 hown2 HB8 HBX hi7 HY7 HZ7 HS9 HI9 HF9 HST9 HOKT HCA
            generalize done ||| 2 ^ k = dk at *
            generalize 2 ^ k = P at *
            generalize hR : from_ h pre d dk [u0, u1, u2] = R at *
            have HR := Lib.hid hR
            clear hR
            go_cut [16] from 85 to 97 (fun s16 wX => ∃ rv, s16 = rv ∧ Hid (Ints wX wX.heap.size rv (zs ((l ++ [k]) ++ R.getD []))) ∧ Hid (RTo w9 h pre b g (2 ^ h.length) vs' (n' + 11 ^ (d + 1)) wX))
            case first =>
              go_region_held3 (fun w' => w'.cell? ⟨Z, 0, none⟩ = some (nv u0) ∧ w'.cell? ⟨Z, 1, none⟩ = some (nv u1) ∧ w'.cell? ⟨Z, 2, none⟩ = some (nv u2))
                (first | exact SZ8 | exact SZA | exact SZ9 | exact SZX)
                (first | (go_at_call 14; refine (hp2.out _).mono ?_; rintro e wq ⟨rfl, rfl⟩) | (go_at_call 15; refine hcall.out.mono ?_; rintro e wX ⟨rv, rfl, hrv, hto⟩; have SZX := rto_cells hto HZ9.out HKZ.out SZ9))
              go_wp2_with fail
              go_meet
              case rel => exact ⟨rv, rfl, Lib.hid hrv, Lib.hid hto⟩
            case rest =>
              obtain ⟨rv, rfl, hrv, hto⟩ := hcut
              obtain ⟨Ar, cr, rfl⟩ := Rd.val hrv.out
              obtain ⟨vs9, L9, n9, p1, p2, p3, p4⟩ := hto.out
              have HO10 := Lib.hid (HO9.out.trans p3 (fun y hy => (hfr.out y hy).imp id Nat.le_of_lt))
              have HF10 := Lib.hid (show ∀ y, FK g (2 ^ h.length) vs9 y → FK g (2 ^ h.length) vs y ∨ w.heap.size < y from fun y hy => by
                rcases p4 y hy with q | q
                · exact hfr.out y q
                · right; have := HBL.out; have := HB.out; omega)
              have HS10 := Lib.hid p1
              have HC10 := Lib.hid (rto_cells hto.out HBL.out HKB.out HC9.out)
              have HL10 := Lib.hid (show B < wc.heap.size from Nat.lt_of_lt_of_le HBL.out p3.size)
              have HN10 := Lib.hid (show n9 ≤ n + (k + 1) * 11 ^ (d + 1) from by have h1 := hnb.out; have h2 := p2; rw [Nat.add_mul]; omega)
              clear p1 p2 p3 p4 hto hcall hp2 hrun SZ8 SZA SZ9 HKZ HZ9 HBL HKB HC9 HS5 HO5 HI5 HC5 HO9 HB9 hfr hzw hnb
              cases R with
              | some r =>
                have HIT := Lib.hid (from_hit (d := d) hno.out HKL.out HTR.out)
                have hrl := from_len HR.out
                have hlr : (zs (l ++ [k] ++ (some r).getD [])).length = h.length := by rw [length_zs]; simp; omega
                rw [hlr] at hrv ⊢
                have t3 : ((h.length : Int) == (h.length : Int)) = true := by simp
                clear hrl hlr HNX hno HTR
                go_wp2_with fail
                go_ret
                refine ⟨_, rfl, ?_, vs9, L9, n9, HS10.out, ?_, HO10.out, fun y hy => (HF10.out y hy).imp id Nat.le_of_lt⟩
                · rw [HIT.out]
                  have := hrv.out
                  simp only [Option.getD_some, List.append_assoc] at this ⊢
                  exact this
                · have h1 := HN10.out
                  have h2 : (k + 1) * 11 ^ (d + 1) ≤ 11 * 11 ^ (d + 1) := Nat.mul_le_mul_right _ (by have := HKL.out; omega)
                  have h3 : 11 ^ (d + 2) = 11 * 11 ^ (d + 1) := by rw [Nat.pow_succ]; omega
                  omega
              | none =>
                have HNX := Lib.hid (HNX.out HTR.out)
                have hdp := from_none_pos HR.out
                have hlr : (zs (l ++ [k] ++ (none : Option (List Nat)).getD [])).length = l.length + 1 := by rw [length_zs]; simp
                rw [hlr] at hrv ⊢
                have t3 : (((l.length + 1 : Nat) : Int) == (h.length : Int)) = false := by simp; omega
                clear hdp hlr hno HTR hrv
                go_wp2_with fail
                go_roundw
                case rel => exact ⟨k + 1, vs9, L9, n9, by omega, by go_num, Lib.hid HNX.out, HS10, HO10, HF10, HC10, HL10, HN10⟩
                case measure => simp [intOf]; omega
          · have ht0 : t = 0 := by omega
            subst ht0
            by_cases hvx : vo = x
            · have HOKT := Lib.hid (show okStep h pre done [v0, v1, v2] k = true by rw [HOK.out, hb', hdf]; simp [hvx])
              have hvn : ((vo : Int) != (x : Int)) = false := by simp; omega
              clear hb hdf HOK
              obtain ⟨u0, u1, u2, hu, hcase, hu0, hu1, hu2⟩ : ∃ u0 u1 u2 : Nat, after h [v0, v1, v2] k = [u0, u1, u2] ∧ ((o = 0 ∧ u0 = x ∧ u1 = v1 ∧ u2 = v2) ∨ (o = 1 ∧ u0 = v0 ∧ u1 = x ∧ u2 = v2) ∨ (o = 2 ∧ u0 = v0 ∧ u1 = v1 ∧ u2 = x)) ∧ u0 ≤ 1000000 ∧ u1 ≤ 1000000 ∧ u2 ≤ 1000000 := by
                rw [HAF.out]
                match o, r1 with
                | 0, _ => exact ⟨x, v1, v2, rfl, .inl ⟨rfl, rfl, rfl, rfl⟩, by omega, by omega, by omega⟩
                | 1, _ => exact ⟨v0, x, v2, rfl, .inr (.inl ⟨rfl, rfl, rfl, rfl⟩), by omega, by omega, by omega⟩
                | 2, _ => exact ⟨v0, v1, x, rfl, .inr (.inr ⟨rfl, rfl, rfl, rfl⟩), by omega, by omega, by omega⟩
              have HTR := Lib.hid (show trial h pre (from_ h pre d) done [v0, v1, v2] k = (from_ h pre d (done ||| 2 ^ k) [u0, u1, u2]).map (k :: ·) by unfold trial; rw [if_pos HOKT.out, hu])
              have HCA := Lib.hid hcase
              clear hu hcase
              go_wp2_with fail
              go_quiet ((first | (go_at_call 21; (with_reducible exact hbit.out _ _)) | (go_at_call 22; (with_reducible exact hwi.out _ _))))
              have HS5 := Lib.hid (hsr.out.drewN nq)
              have HO5 := Lib.hid (hor.out.drewN nq)
              have HI5 := Lib.hid (show Ints (wr.drewN nq) (wr.drewN nq).heap.size (.slice A' l.length cap') (zs l) from HIR.out)
              have HC5 := Lib.hid (show (wr.drewN nq).cell? ⟨B, 0, none⟩ = some (nv v0) ∧ (wr.drewN nq).cell? ⟨B, 1, none⟩ = some (nv v1) ∧ (wr.drewN nq).cell? ⟨B, 2, none⟩ = some (nv v2) from ⟨c0, c1, c2⟩)
              have D1 : (wr.drewN nq).cell? ⟨bb, off + k * 6 + 1, none⟩ = some (nv o) := d1
              have D3 : (wr.drewN nq).cell? ⟨bb, off + k * 6 + 3, none⟩ = some (nv x) := d3
              have hw5 : B < (wr.drewN nq).heap.size := hlt.out
              have hb5 : bb < (wr.drewN nq).heap.size := Nat.lt_of_lt_of_le hbb (Nat.le_trans (Nat.le_of_lt (HS.out.foot g (.inl rfl)).2.1) hor.out.size)
              obtain ⟨q0, q1, q2⟩ := HC5.out
              clear c0 c1 c2 d0 d1 d2 d3 d4 d5 e0 hvo hlt hkk hsr hor HIR hbit hwi hstr hbg
              generalize wr.drewN nq = w5 at *
              go_wp2_with fail
              obtain ⟨w6, hw6⟩ : ∃ w6, w6 = w5.alloc (.cells #[nv v0, nv v1, nv v2] 44) := ⟨_, rfl⟩
              obtain ⟨Z, hZ⟩ : ∃ Z, Z = w5.heap.size := ⟨_, rfl⟩
              have hb6 : Below w5.heap.size w5 w6 := by rw [hw6]; exact (Below.refl _ _).alloc (Nat.le_refl _) _
              have Y : w6.cell? ⟨Z, 0, none⟩ = some (nv v0) ∧ w6.cell? ⟨Z, 1, none⟩ = some (nv v1) ∧ w6.cell? ⟨Z, 2, none⟩ = some (nv v2) := by
                rw [hw6, hZ, World.cell?_alloc_new, World.cell?_alloc_new, World.cell?_alloc_new]; exact ⟨rfl, rfl, rfl⟩
              have fo : w6.frozen? ⟨Z, o, none⟩ = false := by rw [hw6, hZ]; exact World.frozen?_alloc_new ..
              have E1 := (hb6.cell (p := ⟨bb, off + k * 6 + 1, none⟩) hb5).trans D1
              have E3 := (hb6.cell (p := ⟨bb, off + k * 6 + 3, none⟩) hb5).trans D3
              have z6 : w6.heap.size = Z + 1 := by rw [hw6, hZ]; simp
              rw [← hw6, ← hZ]
              have yo : w6.cell? ⟨Z, o, none⟩ = some (nv (([v0, v1, v2] : List Nat).getD o 0)) := by
                match o, r1 with
                | 0, _ => exact Y.1
                | 1, _ => exact Y.2.1
                | 2, _ => exact Y.2.2
              rw [HGV.out] at yo
              have HB7 := Lib.hid (show Below w5.heap.size w5 (w6.setCell ⟨Z, o, none⟩ (nv x)).drew from (hb6.setCell (p := ⟨Z, o, none⟩) (by rw [hZ]; exact Nat.le_refl _) _).drew)
              have HY7 := Lib.hid (show (w6.setCell ⟨Z, o, none⟩ (nv x)).drew.cell? ⟨Z, 0, none⟩ = some (nv u0) ∧ (w6.setCell ⟨Z, o, none⟩ (nv x)).drew.cell? ⟨Z, 1, none⟩ = some (nv u1) ∧ (w6.setCell ⟨Z, o, none⟩ (nv x)).drew.cell? ⟨Z, 2, none⟩ = some (nv u2) from by
                have hs := World.cell?_setCell_same w6 ⟨Z, o, none⟩ (nv x) yo
                have ho : ∀ j, o ≠ j → (w6.setCell ⟨Z, o, none⟩ (nv x)).cell? ⟨Z, j, none⟩ = w6.cell? ⟨Z, j, none⟩ := fun j hj => World.cell?_setCell_other _ _ _ _ (fun e => hj (congrArg Addr.off e))
                rcases HCA.out with ⟨e0, e1, e2, e3⟩ | ⟨e0, e1, e2, e3⟩ | ⟨e0, e1, e2, e3⟩
                · rw [e1, e2, e3]
                  refine ⟨?_, (ho 1 (by omega)).trans Y.2.1, (ho 2 (by omega)).trans Y.2.2⟩
                  rw [e0] at hs ⊢; exact hs
                · rw [e1, e2, e3]
                  refine ⟨(ho 0 (by omega)).trans Y.1, ?_, (ho 2 (by omega)).trans Y.2.2⟩
                  rw [e0] at hs ⊢; exact hs
                · rw [e1, e2, e3]
                  refine ⟨(ho 0 (by omega)).trans Y.1, (ho 1 (by omega)).trans Y.2.1, ?_⟩
                  rw [e0] at hs ⊢; exact hs)
              have HZ7 := Lib.hid (show (w6.setCell ⟨Z, o, none⟩ (nv x)).drew.heap.size = Z + 1 from by
                show (w6.setCell ⟨Z, o, none⟩ (nv x)).heap.size = Z + 1
                simpa using z6)
              have HZ := Lib.hid hZ
              clear hw6 hZ hb6 D1 D3 q0 q1 q2 Y z6 hb5
              refine wp_region_still_tail 11 (by kernel_rfl) (by kernel_rfl) ?_
              simp only [List.take_succ_cons, List.take_zero, List.drop_succ_cons, List.drop_zero]
              repeat still_step
              refine wpStill_nil ?_
              go_upto_region 9 with fail
              clear yo fo E1 E3
              generalize (w6.setCell ⟨Z, o, none⟩ (.int .i64 (x : Int))).drew = w7 at *
              have hi7 := Lib.hid (Rd.below HI5.out HB7.out)
              have hs7 : w5.heap.size ≤ w7.heap.size := HB7.out.size
              have hlen10 := HL.out
              go_wp2_with (at_builtin; refine append_ints rfl _ _ rfl w7.heap.size _ [] rfl (Own.nil _ _) (.slice A' l.length cap') (zs l) w5.heap.size rfl hi7.out (by simp; omega) (Nat.le_refl _) ?_; intro tw w8 hown2 hb8 _; rw [List.nil_append] at hown2)
              have HB8 := Lib.hid hb8
              have HBX := Lib.hid (HB7.out.trans (hb8.mono hs7))
              obtain ⟨v3, w9, hrun, hown9, hb9⟩ := run_append_int (w8.alloc (.cells #[nv k] 3)).drew w7.heap.size tw (zs l) (Own.drew (Own.alloc hown2 _)) w8.heap.size k (by show (w8.alloc (.cells #[nv k] 3)).cell? ⟨w8.heap.size, 0, none⟩ = _; rw [World.cell?_alloc_new]; rfl) (by rw [length_zs]; omega) (by have := hb8.size; show w7.heap.size ≤ (w8.alloc (.cells #[nv k] 3)).heap.size; simp; exact Nat.le_succ_of_le this) 28
              have hb89 : Below w7.heap.size w7 w9 := (hb8.alloc hb8.size _).drew.trans hb9
              have HB9 := Lib.hid (show Below w5.heap.size w5 w9 from HB7.out.trans (hb89.mono hs7))
              have HS9 := Lib.hid (HS5.out.below HB9.out)
              have HO9 := Lib.hid (HO5.out.trans (Only.of_below HB9.out (Nat.le_refl _) (fun _ => False)) (fun _ h => h.elim))
              have HI9 := Lib.hid (show Ints w9 w9.heap.size v3 (zs (l ++ [k])) from by
                have := hown9.ints
                rw [show zs l ++ [(k : Int)] = zs (l ++ [k]) by simp [zs]] at this
                exact this)
              have HF9 := Lib.hid (show Off (FK g (2 ^ h.length) vs') v3 from fun j hj hf => by
                have h1 := (row_lt hown9 j hj).1
                have h2 := (HS5.out.foot j hf).2.1
                omega)
              have HST9 := Lib.hid (HST.out.only (HO9.out.below (B := g) (by have := (HS.out.foot g (.inl rfl)).2.1; omega) (fun x hx => (HS.out.foot x hx).1)))
              have hzw : Z < w7.heap.size := by rw [HZ7.out]; omega
              have SZ8 : w8.drew.cell? ⟨Z, 0, none⟩ = some (nv u0) ∧ w8.drew.cell? ⟨Z, 1, none⟩ = some (nv u1) ∧ w8.drew.cell? ⟨Z, 2, none⟩ = some (nv u2) := ⟨(hb8.drew.cell (p := ⟨Z, 0, none⟩) hzw).trans HY7.out.1, (hb8.drew.cell (p := ⟨Z, 1, none⟩) hzw).trans HY7.out.2.1, (hb8.drew.cell (p := ⟨Z, 2, none⟩) hzw).trans HY7.out.2.2⟩
              have SZA : (w8.alloc (.cells #[nv k] 3)).drew.cell? ⟨Z, 0, none⟩ = some (nv u0) ∧ (w8.alloc (.cells #[nv k] 3)).drew.cell? ⟨Z, 1, none⟩ = some (nv u1) ∧ (w8.alloc (.cells #[nv k] 3)).drew.cell? ⟨Z, 2, none⟩ = some (nv u2) :=
                have hba := (hb8.alloc hb8.size (.cells #[nv k] 3)).drew
                ⟨(hba.cell (p := ⟨Z, 0, none⟩) hzw).trans HY7.out.1, (hba.cell (p := ⟨Z, 1, none⟩) hzw).trans HY7.out.2.1, (hba.cell (p := ⟨Z, 2, none⟩) hzw).trans HY7.out.2.2⟩
              have SZ9 : w9.cell? ⟨Z, 0, none⟩ = some (nv u0) ∧ w9.cell? ⟨Z, 1, none⟩ = some (nv u1) ∧ w9.cell? ⟨Z, 2, none⟩ = some (nv u2) := ⟨(hb89.cell (p := ⟨Z, 0, none⟩) hzw).trans HY7.out.1, (hb89.cell (p := ⟨Z, 1, none⟩) hzw).trans HY7.out.2.1, (hb89.cell (p := ⟨Z, 2, none⟩) hzw).trans HY7.out.2.2⟩
              have HKZ := Lib.hid (show ¬ FK g (2 ^ h.length) vs' Z from fun hf => by have := (HS5.out.foot Z hf).2.1; have := HZ.out; omega)
              have HZ9 := Lib.hid (show Z < w9.heap.size from Nat.lt_of_lt_of_le hzw hb89.size)
              have BT := Lib.hid hb'
              have HC9 := Lib.hid (show w9.cell? ⟨B, 0, none⟩ = some (nv v0) ∧ w9.cell? ⟨B, 1, none⟩ = some (nv v1) ∧ w9.cell? ⟨B, 2, none⟩ = some (nv v2) from ⟨(HB9.out.cell (p := ⟨B, 0, none⟩) hw5).trans HC5.out.1, (HB9.out.cell (p := ⟨B, 1, none⟩) hw5).trans HC5.out.2.1, (HB9.out.cell (p := ⟨B, 2, none⟩) hw5).trans HC5.out.2.2⟩)
              have HBL := Lib.hid (show B < w9.heap.size from Nat.lt_of_lt_of_le hw5 HB9.out.size)
              have HKB := Lib.hid (show ¬ FK g (2 ^ h.length) vs' B from fun hf => by
                rcases hfr.out B hf with q | q
                · have := (HS.out.foot B q).2.1; have := HB.out; omega
                · have := HB.out; omega)
              have hdk : done ||| 2 ^ k < 2 ^ h.length := Nat.or_lt_two_pow HD.out (Nat.pow_lt_pow_right (by omega) HKL.out)
              have hcall := Lib.hid (IH.out (l ++ [k]) (done ||| 2 ^ k) u0 u1 u2 n' v3 vs' L' w9 (by rw [List.length_append]; simp; omega) hdk (by rw [cnt_set HKL.out BT.out, HC.out, List.length_append]; rfl) hu0 hu1 hu2 (by
                have e1 : 11 ^ (d + 2) = 11 * 11 ^ (d + 1) := by rw [Nat.pow_succ]; omega
                have e2 := HN.out
                have e3 : k * 11 ^ (d + 1) ≤ 9 * 11 ^ (d + 1) := Nat.mul_le_mul_right _ (by have := HKL.out; omega)
                have e4 := hnb.out
                omega) HS9.out HST9.out HI9.out HF9.out)
              have hp2 := Lib.hid fun w5 : World => pow2_calls k w5 (by omega)
              have hP : 2 ^ k < 4096 := Nat.lt_of_lt_of_le (Nat.pow_lt_pow_right (by omega) HKL.out) (Nat.le_trans (Nat.pow_le_pow_right (by omega) HL.out) (by decide))
              have hadd : IntKind.i64.wrap ((done : Int) + ((2 ^ k : Nat) : Int)) = ((done ||| 2 ^ k : Nat) : Int) := by
                rw [or_bit hb']
                have key : ∀ P : Nat, P < 4096 → IntKind.i64.wrap ((done : Int) + (P : Int)) = ((done + P : Nat) : Int) := fun P hP => IntWalk.i64_in _ (by constructor <;> omega)
                exact key _ hP
              clear hdk hP hown9 hb9 hb89 hb8 hown2 HB8 HBX hi7 HY7 HZ7 HS9 HI9 HF9 HST9 HOKT HCA
              generalize done ||| 2 ^ k = dk at *
              generalize 2 ^ k = P at *
              generalize hR : from_ h pre d dk [u0, u1, u2] = R at *
              have HR := Lib.hid hR
              clear hR
              go_cut [16] from 85 to 97 (fun s16 wX => ∃ rv, s16 = rv ∧ Hid (Ints wX wX.heap.size rv (zs ((l ++ [k]) ++ R.getD []))) ∧ Hid (RTo w9 h pre b g (2 ^ h.length) vs' (n' + 11 ^ (d + 1)) wX))
              case first =>
                go_region_held3 (fun w' => w'.cell? ⟨Z, 0, none⟩ = some (nv u0) ∧ w'.cell? ⟨Z, 1, none⟩ = some (nv u1) ∧ w'.cell? ⟨Z, 2, none⟩ = some (nv u2))
                  (first | exact SZ8 | exact SZA | exact SZ9 | exact SZX)
                  (first | (go_at_call 14; refine (hp2.out _).mono ?_; rintro e wq ⟨rfl, rfl⟩) | (go_at_call 15; refine hcall.out.mono ?_; rintro e wX ⟨rv, rfl, hrv, hto⟩; have SZX := rto_cells hto HZ9.out HKZ.out SZ9))
                go_wp2_with fail
                go_meet
                case rel => exact ⟨rv, rfl, Lib.hid hrv, Lib.hid hto⟩
              case rest =>
                obtain ⟨rv, rfl, hrv, hto⟩ := hcut
                obtain ⟨Ar, cr, rfl⟩ := Rd.val hrv.out
                obtain ⟨vs9, L9, n9, p1, p2, p3, p4⟩ := hto.out
                have HO10 := Lib.hid (HO9.out.trans p3 (fun y hy => (hfr.out y hy).imp id Nat.le_of_lt))
                have HF10 := Lib.hid (show ∀ y, FK g (2 ^ h.length) vs9 y → FK g (2 ^ h.length) vs y ∨ w.heap.size < y from fun y hy => by
                  rcases p4 y hy with q | q
                  · exact hfr.out y q
                  · right; have := HBL.out; have := HB.out; omega)
                have HS10 := Lib.hid p1
                have HC10 := Lib.hid (rto_cells hto.out HBL.out HKB.out HC9.out)
                have HL10 := Lib.hid (show B < wc.heap.size from Nat.lt_of_lt_of_le HBL.out p3.size)
                have HN10 := Lib.hid (show n9 ≤ n + (k + 1) * 11 ^ (d + 1) from by have h1 := hnb.out; have h2 := p2; rw [Nat.add_mul]; omega)
                clear p1 p2 p3 p4 hto hcall hp2 hrun SZ8 SZA SZ9 HKZ HZ9 HBL HKB HC9 HS5 HO5 HI5 HC5 HO9 HB9 hfr hzw hnb
                cases R with
                | some r =>
                  have HIT := Lib.hid (from_hit (d := d) hno.out HKL.out HTR.out)
                  have hrl := from_len HR.out
                  have hlr : (zs (l ++ [k] ++ (some r).getD [])).length = h.length := by rw [length_zs]; simp; omega
                  rw [hlr] at hrv ⊢
                  have t3 : ((h.length : Int) == (h.length : Int)) = true := by simp
                  clear hrl hlr HNX hno HTR
                  go_wp2_with fail
                  go_ret
                  refine ⟨_, rfl, ?_, vs9, L9, n9, HS10.out, ?_, HO10.out, fun y hy => (HF10.out y hy).imp id Nat.le_of_lt⟩
                  · rw [HIT.out]
                    have := hrv.out
                    simp only [Option.getD_some, List.append_assoc] at this ⊢
                    exact this
                  · have h1 := HN10.out
                    have h2 : (k + 1) * 11 ^ (d + 1) ≤ 11 * 11 ^ (d + 1) := Nat.mul_le_mul_right _ (by have := HKL.out; omega)
                    have h3 : 11 ^ (d + 2) = 11 * 11 ^ (d + 1) := by rw [Nat.pow_succ]; omega
                    omega
                | none =>
                  have HNX := Lib.hid (HNX.out HTR.out)
                  have hdp := from_none_pos HR.out
                  have hlr : (zs (l ++ [k] ++ (none : Option (List Nat)).getD [])).length = l.length + 1 := by rw [length_zs]; simp
                  rw [hlr] at hrv ⊢
                  have t3 : (((l.length + 1 : Nat) : Int) == (h.length : Int)) = false := by simp; omega
                  clear hdp hlr hno HTR hrv
                  go_wp2_with fail
                  go_roundw
                  case rel => exact ⟨k + 1, vs9, L9, n9, by omega, by go_num, Lib.hid HNX.out, HS10, HO10, HF10, HC10, HL10, HN10⟩
                  case measure => simp [intOf]; omega
            · have HNX := Lib.hid (HNX.out (trial_no (by rw [HOK.out]; simp [hvx])))
              have hvn : ((vo : Int) != (x : Int)) = true := by simp; omega
              clear hb hb' hdf hvx HOK
              go_wp2_with fail
              go_quiet ((first | (go_at_call 21; (with_reducible exact hbit.out _ _)) | (go_at_call 22; (with_reducible exact hwi.out _ _))))
              go_wp2_with fail
              go_roundw
              case rel => exact ⟨k + 1, vs', L', n', by omega, by go_num, HNX, Lib.hid (hsr.out.drewN _), Lib.hid (hor.out.drewN _), hfr, hkk, hlt, HMB⟩
              case measure => simp [intOf]; omega
        · rw [decide_eq_false (fun q => hdf ((and_of_diff pk done).1 q))] at hwi
          have HNX := Lib.hid (HNX.out (trial_no (by rw [HOK.out, hb']; simp [hdf])))
          clear hb hb' hdf HOK
          go_wp2_with fail
          go_quiet ((first | (go_at_call 21; (with_reducible exact hbit.out _ _)) | (go_at_call 22; (with_reducible exact hwi.out _ _))))
          go_wp2_with fail
          go_roundw
          case rel => exact ⟨k + 1, vs', L', n', by omega, by go_num, HNX, Lib.hid (hsr.out.drewN _), Lib.hid (hor.out.drewN _), hfr, hkk, hlt, HMB⟩
          case measure => simp [intOf]; omega
    · obtain rfl : k = h.length := by omega
      have HG := Lib.hid (show Gd h pre done (ls3 (v0, v1, v2)) from (Gd_of (d := d + 1) (l := l) HLL.out HC.out).2 (from_all hno.out))
      have HNO := Lib.hid (from_all hno.out)
      obtain ⟨c0, c1, c2⟩ := hkk.out
      have cb := hsr.out.bx
      have cd := hsr.out.cell HD.out
      have ow := hsr.out.own done HD.out
      have hfew := hsr.out.few done HD.out
      obtain ⟨Av, cv, hvd⟩ := ow.val
      rw [hvd] at cd
      have id1 : (done : Int) < ((2 ^ h.length : Nat) : Int) := by omega
      have HPN := Lib.hid (show ∃ N, N = 2 ^ h.length from ⟨_, rfl⟩)
      have hnb40 : n' ≤ 2 ^ 40 := by
        have h1 := hnb.out
        have h2 : h.length * 11 ^ (d + 1) ≤ 11 * 11 ^ (d + 1) := Nat.mul_le_mul_right _ (by have := HL.out; omega)
        have h3 : 11 ^ (d + 2) = 11 * 11 ^ (d + 1) := by rw [Nat.pow_succ]; omega
        have h4 := HN.out
        omega
      obtain ⟨v', w1, hrun, how, hgr, hat⟩ := run_append_t3 (wr.alloc (.cells #[nv v0, nv v1, nv v2] 44)).drew (b + 1) (vs'.getD done vnil) (L' done) (row_drewN (World.ownsRow.alloc ow _) 1) wr.heap.size (v0, v1, v2)
        (by show (wr.alloc (.cells #[nv v0, nv v1, nv v2] 44)).cell? ⟨wr.heap.size, 0, none⟩ = _; rw [World.cell?_alloc_new]; rfl) (by show (wr.alloc (.cells #[nv v0, nv v1, nv v2] 44)).cell? ⟨wr.heap.size, 1, none⟩ = _; rw [World.cell?_alloc_new]; rfl) (by show (wr.alloc (.cells #[nv v0, nv v1, nv v2] 44)).cell? ⟨wr.heap.size, 2, none⟩ = _; rw [World.cell?_alloc_new]; rfl)
        (by omega) (by have := hsr.out.blt; show b + 1 ≤ (wr.alloc (.cells #[nv v0, nv v1, nv v2] 44)).heap.size; simp; omega) 53
      obtain ⟨Aw, cw, hv'⟩ := OwnT.val how
      have HSA := Lib.hid (show StkAt (wr.alloc (.cells #[nv v0, nv v1, nv v2] 44)).drew b g (2 ^ h.length) n' (Gd h pre) vs' L' from (hsr.out.alloc _).drewN 1)
      have HPU := Lib.hid (HSA.out.push HD.out hgr how hat HG.out)
      have howB := row_lt (HSA.out.own done HD.out)
      have HOA := Lib.hid (show Only (FK g (2 ^ h.length) vs) w (w1.setCell ⟨g, done, none⟩ v') from (((hor.out.alloc (.cells #[nv v0, nv v1, nv v2] 44)).drew.grown hgr (fun y hy => (hfr.out y (.inr ⟨done, HD.out, hy⟩)).imp id Nat.le_of_lt)).setCell (p := ⟨g, done, none⟩) (.inl (.inl rfl)) v'))
      have HFK := Lib.hid (show ∀ y, FK g (2 ^ h.length) (vs'.set done v') y → FK g (2 ^ h.length) vs y ∨ w.heap.size ≤ y from fun y hy => by
        rcases FK.push hat HD.out hy with q | q
        · exact (hfr.out y q).imp id Nat.le_of_lt
        · right
          have h1 : (wr.alloc (.cells #[nv v0, nv v1, nv v2] 44)).heap.size ≤ y := q
          have h2 := hor.out.size
          simp at h1
          omega)
      have HIE := Lib.hid (show Ints (w1.setCell ⟨g, done, none⟩ v') (w1.setCell ⟨g, done, none⟩ v').heap.size (.slice A' l.length cap') (zs l) from Rd.more (Rd.only HI.out (Nat.le_refl _) HOA.out HOF.out) HOA.out.size)
      rw [hvd] at hrun hgr hat
      subst hv'
      have hgb := (HSA.out.foot g (.inl rfl)).2.1
      have hne : some g ≠ (Value.slice Av (L' done).length cv).ownBlock := fun e => by
        rw [← hvd] at e
        have := (howB g e.symm).1
        have := HSA.out.lt
        omega
      have hbe : some b ≠ (Value.slice Av (L' done).length cv).ownBlock := fun e => by
        rw [← hvd] at e
        have := (howB b e.symm).1
        omega
      have hfz : w1.frozen? ⟨g, done, none⟩ = false := (hgr.frozen_far _ hgb hne).trans (HSA.out.frozen done)
      have hcg : w1.cell? ⟨g, done, none⟩ = some (.slice Av (L' done).length cv) := (hgr.cell_far _ hgb hne).trans ((HSA.out.cell HD.out).trans (by rw [hvd]))
      have hcb : w1.cell? ⟨b, 0, none⟩ = some (.slice (some ⟨g, 0, none⟩) (2 ^ h.length : Nat) (2 ^ h.length : Nat)) := (hgr.cell_far _ HSA.out.blt hbe).trans HSA.out.bx
      have hab := HSA.out.bx
      have hag := HSA.out.cell HD.out
      rw [hvd] at hag
      clear how hgr hat hfew ow hsr hor hfr hkk hno hgb hne hbe howB HSA HPN
      generalize hNN : 2 ^ h.length = N at *
      generalize (L' done ++ [(v0, v1, v2)]).length = len' at *
      go_wp2_with fail
      go_region
      all_goals
        go_wp2_with fail
        go_ret
        subst hNN
        refine ⟨_, rfl, ?_, _, _, _, HPU.out, ?_, HOA.out, HFK.out⟩
        · rw [HNO.out]; simpa using HIE.out
        · have h1 := hnb.out
          have h2 : h.length * 11 ^ (d + 1) ≤ 10 * 11 ^ (d + 1) := Nat.mul_le_mul_right _ (by have := HL.out; omega)
          have h3 : 11 ^ (d + 2) = 11 * 11 ^ (d + 1) := by rw [Nat.pow_succ]; omega
          have h4 : 0 < 11 ^ (d + 1) := Nat.pow_pos (by omega)
          omega
end Go.Proofs.YtjmjifcaobkobaaDoor
