/- The search's walk: the loop of 'from', whole. Conditions: the contract's own premises. (Printed by wip/gen/hloop2.py.) -/
import Derived.Test.YtjmjifcaobkobaaDoorHLoop
namespace Go.Proofs.YtjmjifcaobkobaaDoor
open Go.RowKit Go.Maps His

theorem hasq (s i n : Nat) (w : World) (hs : s < 4096) (hi : i < 64) : Calls Tryd.prog 29 #[nv s, nv i] (w.drewN n) fun e w'' => e = .returned (.bool (s.testBit i)) ∧ ∃ m, w'' = w.drewN m :=
  Calls.quiet_of_same ((has12 s i (w.drewN n) hs hi).mono fun _ _ ⟨a, b⟩ => ⟨a, b.symm⟩)

theorem eqMapNone (w : World) : (binOp .eql 75 (.map none) (.map none)).run Tryd.prog w = .ok (.bool true) w := by kernel_rfl
theorem eqMapSome (b : Nat) (w : World) : (binOp .eql 75 (.map (some b)) (.map none)).run Tryd.prog w = .ok (.bool false) w := by kernel_rfl

section
variable {ops : Array Oper} {rest : List Oper} {o : Oper} {a : Go.Act} {Q : Exit → Go.Act → World → Prop} {w : World}
/-- 'append(out, y)', and where the new slice lies -/
theorem append_int_at (hgd : o.guard = none) (s x : Operand) (ho : o.op = .call { callee := .builtin .append, args := #[s, x], argTypes := #[28, 28] })
    (base : Nat) (v : Value) (l : List Int) (hs : a.eval s = v) (hown : Own w base v l) (g : Nat) (hx : a.eval x = .slice (some ⟨g, 0, none⟩) 1 1) (y : Int) (hc : w.cell? ⟨g, 0, none⟩ = some (iv y))
    (hlen : l.length < 1000000) (hbase : base ≤ w.heap.size)
    (h : ∀ v' w', Own w' base v' (l ++ [y]) → w.grownBy w' v.ownBlock → (v'.ownBlock = v.ownBlock ∨ v'.ownBlock = some w.heap.size) → wpList Tryd.prog ops Q rest (a.put o.dst v') w') : wpList Tryd.prog ops Q (o :: rest) a w := by
  obtain ⟨i0, hi, hz0, hz1, hz2⟩ := info_parts Tryd.infoInt
  refine wpList_append_own_at w hgd s x 28 ho base 3 i0 (.int .i64 0) 1 8 Tryd.underlying28 hi hz0 hz1 hz2 rfl (by decide) v l.length (l.map iv) hs hown ⟨g, 0, none⟩ 1 1 [iv y] hx rfl ?_ ?_ ?_ ?_ hbase ?_
  · intro j u hj
    match j, hj with
    | 0, hj => simp at hj; subst hj; exact hc
  · intro u hu; simp at hu; subst hu; rfl
  · unfold maxLen; omega
  · omega
  · intro v' w' hrow hg _ hat
    exact h v' w' (Own.of_row hrow) hg hat
end

set_option maxRecDepth 20000 in
set_option maxHeartbeats 4000000 in
theorem from_loop (h : List N6) (hh : Hok h) (pre : List Nat) (hv pv : Value) (bd B d : Nat) (ih : FromOk h pre hv pv bd B d) (l : List Nat) (done v0 v1 v2 n : Nat) (ov : Value) (I : Nat → Option Nat) (w : World) (hl : l.length + (d + 1) = h.length) (hd : done < 2 ^ h.length)
    (hc : Odr.cnt h.length done.testBit = l.length) (h0 : v0 ≤ 1000000) (h1 : v1 ≤ 1000000) (h2 : v2 ≤ 1000000) (hn : n + 11 ^ (d + 2) ≤ 2 ^ 50) (hs : SrchAt w bd B n (Gd h pre) hv pv ov I l) (hst : Stand h pre hv pv bd w)
    (hlook : ∀ w' : World, (∀ b, I done = some b → w'.heap[b]? = w.heap[b]?) → (Instr.lookup 75 (.map (I done)) (.agg #[nv v0, nv v1, nv v2]) false).run Tryd.prog w' = .ok (.bool false) w') :
    Calls Tryd.prog 23 #[.pointer (some ⟨B, 0, none⟩), nv done, .agg #[nv v0, nv v1, nv v2]] w fun e w' =>
      e = .returned (.bool (from_ h pre (d + 1) done [v0, v1, v2]).isSome) ∧ STo w h pre hv pv bd B ov I (l ++ (from_ h pre (d + 1) done [v0, v1, v2]).getD []) (n + 11 ^ (d + 2)) w' := by
  have hd12 : done < 4096 := Nat.lt_of_lt_of_le hd (Nat.le_trans (Nat.pow_le_pow_right (by omega) hh.len) (by decide))
  have hne : ((l.length : Int) == (h.length : Int)) = false := by simp; omega
  have HS := Lib.hid hs
  have HH := Lib.hid hh
  have HL := Lib.hid hh.len
  have HST := Lib.hid hst
  have HLL := Lib.hid hl
  have HD := Lib.hid hd
  have HC := Lib.hid hc
  have HN := Lib.hid hn
  have hpl := hst.len
  have IH := Lib.hid ih
  have hs1 := hs.alloc (.cells #[nv v0, nv v1, nv v2] 59)
  have a0 := hs1.c0
  have a2 := hs1.c2
  have a3 := hs1.c3
  have k1 : ∀ q, (Instr.lookup 55 (.map (some bd)) (nv done) false).run Tryd.prog ((w.alloc (.cells #[nv v0, nv v1, nv v2] 59)).drewN q) = .ok (.map (I done)) ((w.alloc (.cells #[nv v0, nv v1, nv v2] 59)).drewN q) := fun q =>
    (hs1.drewN q).map.look hd12
  have k2 : ∀ q, (Instr.lookup 75 (.map (I done)) (.agg #[nv v0, nv v1, nv v2]) false).run Tryd.prog ((w.alloc (.cells #[nv v0, nv v1, nv v2] 59)).drewN q) = .ok (.bool false) ((w.alloc (.cells #[nv v0, nv v1, nv v2] 59)).drewN q) := fun q =>
    hlook _ (fun b hb => Below.heap_alloc w _ b (hs.inn done b hb).2.1.lt)
  obtain ⟨A, cap, rfl⟩ := Rd.val hst.ops
  obtain ⟨A', cap', hov⟩ := Rd.val hs.out.ints
  obtain ⟨Ap, capp, rfl⟩ := Rd.val hst.ahd
  rw [length_zops] at *
  rw [length_zs] at *
  rw [hpl] at *
  rw [hov] at a3
  have HOV := Lib.hid hov
  clear hs hs1 hst hh hlook hov ih hpl
  generalize hv0 : I done = idone at *
  clear hv0
  have CE := Lib.hid (Nat.le_refl 0)
  go_enter Tryd.func23, Tryd.ntmps23
  go_wp2_with fail
  go_quiet (fail)
  go_wp2_with fail
  go_quiet (fail)
  go_wp2_with fail
  clear k1 k2 a0 a2 a3 hne
  have hl' := HLL.out
  go_loopw [34] (fun i wr => ∃ (k : Nat) (ov' : Value) (I' : Nat → Option Nat) (n' : Nat), k ≤ h.length ∧ i = nv k ∧ Hid (∀ j, j < k → trial h pre (from_ h pre d) done [v0, v1, v2] j = none) ∧ Hid (SrchAt wr bd B n' (Gd h pre) (.slice A h.length cap) (.slice Ap h.length capp) ov' I' l) ∧
      Hid (Only (F bd B ov I) w wr) ∧ Hid (∀ x, F bd B ov' I' x → F bd B ov I x ∨ w.heap.size < x) ∧ w.heap.size < wr.heap.size ∧ wr.cell? ⟨w.heap.size, 0, none⟩ = some (nv v0) ∧ wr.cell? ⟨w.heap.size, 1, none⟩ = some (nv v1) ∧ wr.cell? ⟨w.heap.size, 2, none⟩ = some (nv v2) ∧ n' ≤ n + k * 11 ^ (d + 1)) (fun i _ => h.length - (intOf i).toNat)
  case atStart => exact ⟨0, ov, I, n, Nat.zero_le _, rfl, Lib.hid (fun j hj => by omega), Lib.hid ((HS.out.alloc _).drewN _), Lib.hid (((Only.refl _ _).alloc _).drewN _), Lib.hid (fun x hx => .inl hx), by simp, by simp, by simp, by simp, by omega⟩
  case round =>
    obtain ⟨k, ov', I', n', hk, rfl, hno, hsr, hor, hfr, hlt, c0, c1, c2, hnb⟩ := hrel
    by_cases hkl : k < h.length
    · have hbd := Lib.hid (hor.out.below (B := bd) (by have := (HS.out.foot bd (.inr (.inl rfl))).2; omega) (fun x hx => (HS.out.foot x hx).1))
      have hstr := Lib.hid (HST.out.only hbd.out)
      obtain ⟨b, off, cap2, he, hbb, d0, d1, d2, d3, d4, d5⟩ := Ops.atN hstr.out.ops hkl
      cases he
      obtain ⟨bp, op, capq, he, hbp, e0⟩ := Ints.at_ hstr.out.ahd (k := k) (by rw [length_zs, hstr.out.len]; exact hkl)
      rw [length_zs, hstr.out.len] at he
      cases he
      have hpe : (zs pre)[k]'(by rw [length_zs, hstr.out.len]; exact hkl) = ((pre.getD k 0 : Nat) : Int) := by
        simp [zs, List.getD_eq_getElem?_getD, List.getElem?_eq_getElem (show k < pre.length by rw [hstr.out.len]; exact hkl)]
      rw [hpe] at e0
      clear hpe
      have g1 := hsr.out.c1
      have HRG := Lib.hid (HH.out.rng _ (opAt_mem hkl))
      have HOK := Lib.hid (show okStep h pre done [v0, v1, v2] k = (!done.testBit k && (decide (Odr.diff (pre.getD k 0) done = 0) && (decide (His.wr (opAt h k) = 1) || decide (([v0, v1, v2] : List Nat).getD (ob (opAt h k)) 0 = vl (opAt h k))))) from rfl)
      have HAF := Lib.hid (show after h [v0, v1, v2] k = ([v0, v1, v2] : List Nat).set (ob (opAt h k)) (vl (opAt h k)) from rfl)
      generalize opAt h k = op' at *
      obtain ⟨p, o, t, x, f, e⟩ := op'
      simp only [pr, ob, His.wr, vl, fr, tt] at d0 d1 d2 d3 d4 d5 HRG HOK HAF
      obtain ⟨r0, r1, r2, r3, r4, r5, r6⟩ := HRG.out
      have hpk := hstr.out.fit k
      generalize pre.getD k 0 = pk at *
      have HMB := Lib.hid (show n' ≤ n + (k + 1) * 11 ^ (d + 1) by rw [Nat.add_mul]; omega)
      have hk10 : k < 64 := by have := HL.out; omega
      have hsz := (hsr.out.foot B (.inl rfl)).2
      have hst0 := hor.out.size
      have hbp2 : bp < wr.heap.size := by have := hsr.out.lt; omega
      have HNX := Lib.hid fun (hx : trial h pre (from_ h pre d) done [v0, v1, v2] k = none) => show ∀ j, j < k + 1 → trial h pre (from_ h pre d) done [v0, v1, v2] j = none from fun j hj => by
        by_cases e : j = k
        · subst e; exact hx
        · exact hno.out j (by omega)
      have hvo : wr.cell? ⟨w.heap.size, o, none⟩ = some (nv (([v0, v1, v2] : List Nat).getD o 0)) := by
        match o, r1 with
        | 0, _ => exact c0
        | 1, _ => exact c1
        | 2, _ => exact c2
      generalize hgv : ([v0, v1, v2] : List Nat).getD o 0 = vo at *
      have HGV := Lib.hid hgv
      clear hgv
      have hhas := Lib.hid fun q w5 => hasq done k q w5 hd12 hk10
      by_cases hb : done.testBit k = true
      · rw [hb] at hhas
        have HNX := Lib.hid (HNX.out (trial_no (by rw [HOK.out, hb]; rfl)))
        clear hb
        go_wp2_with fail
        go_quiet ((go_at_call 29; exact hhas.out _ _))
        go_wp2_with fail
        go_roundw
        case rel => exact ⟨k + 1, ov', I', n', by omega, by go_num, Lib.hid HNX.out, Lib.hid ((hsr.out.alloc _).drewN _), Lib.hid ((hor.out.alloc _).drewN _), hfr, by simp; omega, by simp [World.cell?_alloc_past, hlt, c0], by simp [World.cell?_alloc_past, hlt, c1], by simp [World.cell?_alloc_past, hlt, c2], HMB.out⟩
        case measure => simp [intOf]; omega
      · have hb' : done.testBit k = false := by simpa using hb
        rw [hb'] at hhas
        have hand := bits_andNot pk done (by omega) (by omega)
        by_cases hdf : Odr.diff pk done = 0
        · have HDF := Lib.hid hdf
          rw [hdf] at hand
          by_cases ht : t = 1
          · subst ht
            have HOKT := Lib.hid (show okStep h pre done [v0, v1, v2] k = true by rw [HOK.out, hb', hdf]; rfl)
            have BT := Lib.hid hb'
            clear hb hb' hdf
            obtain ⟨u0, u1, u2, hu, hset, hu0, hu1, hu2⟩ : ∃ u0 u1 u2 : Nat, after h [v0, v1, v2] k = [u0, u1, u2] ∧ ([.int .i64 (v0 : Int), .int .i64 (v1 : Int), .int .i64 (v2 : Int)] : List Value).set o (.int .i64 (x : Int)) = [.int .i64 (u0 : Int), .int .i64 (u1 : Int), .int .i64 (u2 : Int)] ∧ u0 ≤ 1000000 ∧ u1 ≤ 1000000 ∧ u2 ≤ 1000000 := by
              rw [HAF.out]
              match o, r1 with
              | 0, _ => exact ⟨x, v1, v2, rfl, rfl, by omega, by omega, by omega⟩
              | 1, _ => exact ⟨v0, x, v2, rfl, rfl, by omega, by omega, by omega⟩
              | 2, _ => exact ⟨v0, v1, x, rfl, rfl, by omega, by omega, by omega⟩
            have HTR := Lib.hid (show trial h pre (from_ h pre d) done [v0, v1, v2] k = (from_ h pre d (done ||| 2 ^ k) [u0, u1, u2]).map (k :: ·) by unfold trial; rw [if_pos HOKT.out, hu])
            clear hu
            go_wp2_with fail
            go_quiet ((go_at_call 29; exact hhas.out _ _))
            have hs5 := Lib.hid ((hsr.out.alloc (.cells #[nv p, nv o, nv 1, nv x, nv f, nv e] 36)).drewN nq)
            have ho5 := Lib.hid ((hor.out.alloc (.cells #[nv p, nv o, nv 1, nv x, nv f, nv e] 36)).drewN nq)
            have z5 : ((wr.alloc (.cells #[nv p, nv o, nv 1, nv x, nv f, nv e] 36)).drewN nq).heap.size = wr.heap.size + 1 := by simp
            have b50 : ((wr.alloc (.cells #[nv p, nv o, nv 1, nv x, nv f, nv e] 36)).drewN nq).cell? ⟨w.heap.size, 0, none⟩ = some (nv v0) := by simp [World.cell?_alloc_past, hlt, c0]
            have b51 : ((wr.alloc (.cells #[nv p, nv o, nv 1, nv x, nv f, nv e] 36)).drewN nq).cell? ⟨w.heap.size, 1, none⟩ = some (nv v1) := by simp [World.cell?_alloc_past, hlt, c1]
            have b52 : ((wr.alloc (.cells #[nv p, nv o, nv 1, nv x, nv f, nv e] 36)).drewN nq).cell? ⟨w.heap.size, 2, none⟩ = some (nv v2) := by simp [World.cell?_alloc_past, hlt, c2]
            have o51 : ((wr.alloc (.cells #[nv p, nv o, nv 1, nv x, nv f, nv e] 36)).drewN nq).cell? ⟨wr.heap.size, 1, none⟩ = some (nv o) := by simp
            have o53 : ((wr.alloc (.cells #[nv p, nv o, nv 1, nv x, nv f, nv e] 36)).drewN nq).cell? ⟨wr.heap.size, 3, none⟩ = some (nv x) := by simp
            generalize (wr.alloc (.cells #[nv p, nv o, nv 1, nv x, nv f, nv e] 36)).drewN nq = w5 at *
            have F5 := Lib.hid (show ∀ y, F bd B ov' I' y → F bd B ov I y ∨ w.heap.size < y from hfr.out)
            have c53 := hs5.out.c3
            have hB5 := (hs5.out.foot B (.inl rfl)).2
            have hw5 : w.heap.size < w5.heap.size := by omega
            have hz5 : wr.heap.size < w5.heap.size := by omega
            clear d0 d1 d2 d3 d4 d5 e0 g1 c0 c1 c2 hvo z5
            obtain ⟨A2, cap3, hov2⟩ := Rd.val hs5.out.out.ints
            rw [length_zs] at hov2
            subst hov2
            go_wp2_with (at_builtin; (refine append_int_at rfl _ _ rfl (B + 1) _ (zs l) rfl ((hs5.out.alloc _).alloc _).out (w5.heap.size + 1) rfl (k : Int) (by simp) (by rw [length_zs]; have := HL.out; omega) (by simp; omega) ?_; intro v3 w3 hown3 hg3 hat3; have hb3 : w3.heap[B]? = _ := (hg3.block B (by simp; omega) (fun e => by have := row_lt hs5.out.out B e.symm; omega)); have f3 : w3.frozen? ⟨B, 3, none⟩ = false := (World.frozen?_of_block hb3).trans ((hs5.out.alloc _).alloc _).f3; have c33 : w3.cell? ⟨B, 3, none⟩ = some _ := (World.cell?_of_block hb3).trans ((hs5.out.alloc _).alloc _).c3; obtain ⟨A3, cap4, rfl⟩ := Rd.val hown3.ints))
            have hzl : zs l ++ [(k : Int)] = zs (l ++ [k]) := by simp [zs]
            have hnl : (zs l ++ [(k : Int)]).length = l.length + 1 := by simp
            rw [hnl, hzl] at hown3
            rw [hnl] at hat3
            have hat4 : (Value.slice A3 (l.length + 1) cap4).ownBlock = (Value.slice A2 l.length cap3).ownBlock ∨ (Value.slice A3 (l.length + 1) cap4).ownBlock = some (w5.heap.size + 1 + 1) := by
              rcases hat3 with h | h
              · exact .inl h
              · exact .inr (h.trans (by simp))
            have hs6 := Lib.hid (SrchAt.setOut ((hs5.out.alloc _).alloc _) hg3 hown3 (hat4.imp id (fun h => .inr ⟨_, h, by simp⟩)))
            have HNB : ∀ y, F bd B (.slice A2 l.length cap3) I' y → y ≠ w.heap.size := fun y hy e => by
              subst e
              rcases F5.out _ hy with h | h
              · have := (HS.out.foot _ h).2; omega
              · omega
            have hoX := ((Only.refl (F bd B (.slice A2 l.length cap3) I') _).grown hg3 (fun y hy => .inl (.inr (.inr (.inl hy))))).setCell (p := ⟨B, 3, none⟩) (.inl (.inl rfl)) (.slice A3 (l.length + 1) cap4)
            have ho6 := Lib.hid ((((ho5.out.alloc (.cells #[nv u0, nv u1, nv u2] 59)).alloc (.cells #[nv k] 3)).grown hg3 (fun y hy => (F5.out y (.inr (.inr (.inl hy)))).imp id Nat.le_of_lt)).setCell (p := ⟨B, 3, none⟩) (.inl (.inl rfl)) (.slice A3 (l.length + 1) cap4))
            have F6 := Lib.hid (show ∀ y, F bd B (.slice A3 (l.length + 1) cap4) I' y → F bd B ov I y ∨ w.heap.size < y from fun y hy => by
              rcases hy with h | h | h | h
              · exact F5.out y (.inl h)
              · exact F5.out y (.inr (.inl h))
              · rcases hat4 with g | g
                · exact F5.out y (.inr (.inr (.inl (g.symm.trans h))))
                · rw [g] at h
                  injection h with h
                  right; omega
              · exact F5.out y (.inr (.inr (.inr h))))
            have z0 := (hoX.cell (p := ⟨w.heap.size, 0, none⟩) (by simp; omega) (fun hF => HNB _ hF rfl)).trans (show _ = some (nv v0) by simp [World.cell?_alloc_past, hw5, Nat.lt_succ_of_lt hw5, b50])
            have z1 := (hoX.cell (p := ⟨w.heap.size, 1, none⟩) (by simp; omega) (fun hF => HNB _ hF rfl)).trans (show _ = some (nv v1) by simp [World.cell?_alloc_past, hw5, Nat.lt_succ_of_lt hw5, b51])
            have z2 := (hoX.cell (p := ⟨w.heap.size, 2, none⟩) (by simp; omega) (fun hF => HNB _ hF rfl)).trans (show _ = some (nv v2) by simp [World.cell?_alloc_past, hw5, Nat.lt_succ_of_lt hw5, b52])
            have hnu : ¬ F bd B (.slice A2 l.length cap3) I' w5.heap.size := fun hF => by have := (hs5.out.foot _ hF).2; omega
            have y0 := (hoX.cell (p := ⟨w5.heap.size, 0, none⟩) (by simp; omega) hnu).trans (show _ = some (nv u0) by rw [World.cell?_alloc_past _ _ _ (by simp)]; simp)
            have y1 := (hoX.cell (p := ⟨w5.heap.size, 1, none⟩) (by simp; omega) hnu).trans (show _ = some (nv u1) by rw [World.cell?_alloc_past _ _ _ (by simp)]; simp)
            have y2 := (hoX.cell (p := ⟨w5.heap.size, 2, none⟩) (by simp; omega) hnu).trans (show _ = some (nv u2) by rw [World.cell?_alloc_past _ _ _ (by simp)]; simp)
            have zz := hoX.size
            simp only [World.size_alloc] at zz
            clear hoX hzl hnl hown3 hg3 hat3 hat4 f3 c33 hb3 b50 b51 b52 o51 o53 c53 hset
            generalize w3.setCell ⟨B, 3, none⟩ (.slice A3 (l.length + 1) cap4) = w6 at *
            have hst6 := Lib.hid (HST.out.only ((ho6.out.drew).below (by have := (HS.out.foot bd (.inr (.inl rfl))).2; omega) (fun y hy => (HS.out.foot y hy).1)))
            have hor := bits_or_shl done k (by omega) (by have := HL.out; omega)
            have hlt2 : done ||| 2 ^ k < 2 ^ h.length := Nat.or_lt_two_pow HD.out (Nat.pow_lt_pow_right (by omega) hkl)
            have hcall := Lib.hid (IH.out (l ++ [k]) (done ||| 2 ^ k) u0 u1 u2 n' _ I' w6.drew (by rw [List.length_append]; simp; omega) hlt2 (by rw [cnt_set hkl BT.out, HC.out, List.length_append]; rfl) hu0 hu1 hu2 (by
              have e1 : 11 ^ (d + 2) = 11 * 11 ^ (d + 1) := by rw [Nat.pow_succ]; omega
              have e2 := HN.out
              have e3 : k * 11 ^ (d + 1) ≤ 9 * 11 ^ (d + 1) := Nat.mul_le_mul_right _ (by have := HL.out; omega)
              omega) (hs6.out.drewN 1) hst6.out)
            clear hlt2
            generalize done ||| 2 ^ k = dk at *
            generalize from_ h pre d dk [u0, u1, u2] = R at *
            refine wp_region_still_tail 6 (by kernel_rfl) (by kernel_rfl) ?_
            simp only [List.take_succ_cons, List.take_zero, List.drop_succ_cons, List.drop_zero]
            repeat still_step
            refine wpStill_nil ?_
            go_wp2_with fail
            rw [hor]
            (with_reducible refine hcall.out.mono ?_)
            rintro e w7 ⟨rfl, hto⟩
            have HBN := Lib.hid (show n' + 11 ^ (d + 1) ≤ n + (k + 1) * 11 ^ (d + 1) by rw [Nat.add_mul]; omega)
            have HBT := Lib.hid (show (k + 1) * 11 ^ (d + 1) ≤ 11 ^ (d + 2) by
              rw [show 11 ^ (d + 2) = 11 * 11 ^ (d + 1) by rw [Nat.pow_succ]; omega]
              exact Nat.mul_le_mul_right _ (by have := HL.out; omega))
            obtain ⟨ov7, I7, n7, q1, q2, q3, q4⟩ := hto
            have HO7 := Lib.hid (Only.trans ho6.out.drew q3 (fun y hy => (F6.out y hy).imp id Nat.le_of_lt))
            have HF7 := Lib.hid (show ∀ y, F bd B ov7 I7 y → F bd B ov I y ∨ w.heap.size < y from fun y hy => by
              rcases q4 y hy with h | h
              · exact F6.out y h
              · right
                have h2 : w6.heap.size ≤ y := h
                omega)
            cases R with
            | some r =>
              have HIT := Lib.hid (from_hit (d := d) hno.out hkl HTR.out)
              have HB7 := Lib.hid (show n7 ≤ n + 11 ^ (d + 2) by have := HBN.out; have := HBT.out; omega)
              have Q1 := Lib.hid q1
              clear hno hcall q1 q3 q4 HNX hfr hor hnb
              go_wp2_with fail
              go_ret
              refine ⟨by rw [HIT.out]; rfl, ov7, I7, n7, ?_, HB7.out, HO7.out, fun y hy => (HF7.out y hy).imp id Nat.le_of_lt⟩
              rw [HIT.out]
              have := Q1.out
              simp only [Option.getD_some] at this ⊢
              rw [List.append_assoc] at this
              exact this
            | none =>
              have HNX := Lib.hid (HNX.out HTR.out)
              simp only [Option.getD_none, List.append_nil] at q1
              obtain ⟨g7, cap7, hv7, hg71, hg72, hg73, -, -, -⟩ := Own.shape q1.out (by simp)
              rw [length_zs, List.length_append, List.length_singleton] at hv7 hg73
              subst hv7
              have c73 := q1.c3
              have f73 := q1.f3
              have hcap7 : l.length + 1 ≤ cap7 := by
                obtain ⟨_, A', cap', h2, h3, _⟩ := q1.out.ints
                injection h2 with _ _ h4
                rw [length_zs, List.length_append, List.length_singleton] at h3
                rw [h4]; exact h3
              have hcut := Own.cut q1.out (k := l.length) (by simp) (by simp)
              have htk : (zs (l ++ [k])).take l.length = zs l := by simp [zs]
              rw [htk] at hcut
              have hs8 := Lib.hid (SrchAt.setOut (q1.drewN 1) (w1 := w7.drew) ⟨rfl, rfl, rfl, Nat.le_refl _, fun _ _ _ => rfl⟩ hcut (.inl rfl))
              have ho8 := Lib.hid ((HO7.out.drew).setCell (p := ⟨B, 3, none⟩) (.inl (.inl rfl)) (.slice (some ⟨g7, 0, none⟩) l.length cap7))
              have HF8 := Lib.hid (show ∀ y, F bd B (.slice (some ⟨g7, 0, none⟩) l.length cap7) I7 y → F bd B ov I y ∨ w.heap.size < y from fun y hy => HF7.out y hy)
              have hnb7 : ∀ j, w7.cell? ⟨w.heap.size, j, none⟩ = w6.cell? ⟨w.heap.size, j, none⟩ := fun j => q3.cell (p := ⟨w.heap.size, j, none⟩) (Nat.lt_of_lt_of_le hw5 (Nat.le_trans (Nat.le_succ_of_le (Nat.le_succ _)) zz)) (fun hF => by
                rcases F6.out _ hF with h | h
                · exact absurd (HS.out.foot _ h).2 (Nat.lt_irrefl _)
                · exact absurd h (Nat.lt_irrefl _))
              have e0 := (hnb7 0).trans z0
              have e1 := (hnb7 1).trans z1
              have e2 := (hnb7 2).trans z2
              have hw7 := q3.size
              have hw7' : w.heap.size < w7.heap.size := by have h2 : w6.heap.size ≤ w7.heap.size := hw7; omega
              have hB7 : w.heap.size ≠ B := by have := (HS.out.foot B (.inl rfl)).2; omega
              have HB7 := Lib.hid (show n7 ≤ n + (k + 1) * 11 ^ (d + 1) by have := HBN.out; omega)
              have hwr1 : IntKind.i64.wrap (l.length : Int) = (l.length : Int) := by
                have := HL.out
                exact IntWalk.i64_in _ (by omega)
              have hcap8 : (l.length : Int) ≤ (cap7 : Int) := by omega
              have hl10 := HL.out
              clear hno hcall hcut q1 q3 q4 hfr hor hnb7 z0 z1 z2 htk hw7 hw5 hz5
              clear hg71 hg72 hg73
              go_wp2_with fail
              refine wp_region_still_tail 14 (by kernel_rfl) (by kernel_rfl) ?_
              simp only [List.take_succ_cons, List.take_zero, List.drop_succ_cons, List.drop_zero]
              repeat still_step
              refine wpStill_nil ?_
              go_wp2_with fail
              go_roundw
              case rel => exact ⟨k + 1, _, I7, n7, by omega, by go_num, Lib.hid HNX.out, Lib.hid hs8.out, Lib.hid ho8.out, Lib.hid HF8.out, by simp; omega, (World.cell?_setCell_other _ _ _ _ (fun e => hB7 (congrArg Addr.block e).symm)).trans e0, (World.cell?_setCell_other _ _ _ _ (fun e => hB7 (congrArg Addr.block e).symm)).trans e1, (World.cell?_setCell_other _ _ _ _ (fun e => hB7 (congrArg Addr.block e).symm)).trans e2, HB7.out⟩
              case measure => simp [intOf]; omega
          · have ht0 : t = 0 := by omega
            subst ht0
            by_cases hvx : vo = x
            · have HOKT := Lib.hid (show okStep h pre done [v0, v1, v2] k = true by rw [HOK.out, hb', hdf]; simp [hvx])
              have BT := Lib.hid hb'
              have hvn : ((vo : Int) != (x : Int)) = false := by simp; omega
              clear hb hb' hdf hvx
              obtain ⟨u0, u1, u2, hu, hset, hu0, hu1, hu2⟩ : ∃ u0 u1 u2 : Nat, after h [v0, v1, v2] k = [u0, u1, u2] ∧ ([.int .i64 (v0 : Int), .int .i64 (v1 : Int), .int .i64 (v2 : Int)] : List Value).set o (.int .i64 (x : Int)) = [.int .i64 (u0 : Int), .int .i64 (u1 : Int), .int .i64 (u2 : Int)] ∧ u0 ≤ 1000000 ∧ u1 ≤ 1000000 ∧ u2 ≤ 1000000 := by
                rw [HAF.out]
                match o, r1 with
                | 0, _ => exact ⟨x, v1, v2, rfl, rfl, by omega, by omega, by omega⟩
                | 1, _ => exact ⟨v0, x, v2, rfl, rfl, by omega, by omega, by omega⟩
                | 2, _ => exact ⟨v0, v1, x, rfl, rfl, by omega, by omega, by omega⟩
              have HTR := Lib.hid (show trial h pre (from_ h pre d) done [v0, v1, v2] k = (from_ h pre d (done ||| 2 ^ k) [u0, u1, u2]).map (k :: ·) by unfold trial; rw [if_pos HOKT.out, hu])
              clear hu
              go_wp2_with fail
              go_quiet ((go_at_call 29; exact hhas.out _ _))
              have hs5 := Lib.hid ((hsr.out.alloc (.cells #[nv p, nv o, nv 0, nv x, nv f, nv e] 36)).drewN nq)
              have ho5 := Lib.hid ((hor.out.alloc (.cells #[nv p, nv o, nv 0, nv x, nv f, nv e] 36)).drewN nq)
              have z5 : ((wr.alloc (.cells #[nv p, nv o, nv 0, nv x, nv f, nv e] 36)).drewN nq).heap.size = wr.heap.size + 1 := by simp
              have b50 : ((wr.alloc (.cells #[nv p, nv o, nv 0, nv x, nv f, nv e] 36)).drewN nq).cell? ⟨w.heap.size, 0, none⟩ = some (nv v0) := by simp [World.cell?_alloc_past, hlt, c0]
              have b51 : ((wr.alloc (.cells #[nv p, nv o, nv 0, nv x, nv f, nv e] 36)).drewN nq).cell? ⟨w.heap.size, 1, none⟩ = some (nv v1) := by simp [World.cell?_alloc_past, hlt, c1]
              have b52 : ((wr.alloc (.cells #[nv p, nv o, nv 0, nv x, nv f, nv e] 36)).drewN nq).cell? ⟨w.heap.size, 2, none⟩ = some (nv v2) := by simp [World.cell?_alloc_past, hlt, c2]
              have o51 : ((wr.alloc (.cells #[nv p, nv o, nv 0, nv x, nv f, nv e] 36)).drewN nq).cell? ⟨wr.heap.size, 1, none⟩ = some (nv o) := by simp
              have o53 : ((wr.alloc (.cells #[nv p, nv o, nv 0, nv x, nv f, nv e] 36)).drewN nq).cell? ⟨wr.heap.size, 3, none⟩ = some (nv x) := by simp
              generalize (wr.alloc (.cells #[nv p, nv o, nv 0, nv x, nv f, nv e] 36)).drewN nq = w5 at *
              have F5 := Lib.hid (show ∀ y, F bd B ov' I' y → F bd B ov I y ∨ w.heap.size < y from hfr.out)
              have c53 := hs5.out.c3
              have hB5 := (hs5.out.foot B (.inl rfl)).2
              have hw5 : w.heap.size < w5.heap.size := by omega
              have hz5 : wr.heap.size < w5.heap.size := by omega
              clear d0 d1 d2 d3 d4 d5 e0 g1 c0 c1 c2 hvo z5
              obtain ⟨A2, cap3, hov2⟩ := Rd.val hs5.out.out.ints
              rw [length_zs] at hov2
              subst hov2
              go_wp2_with (at_builtin; (refine append_int_at rfl _ _ rfl (B + 1) _ (zs l) rfl ((hs5.out.alloc _).alloc _).out (w5.heap.size + 1) rfl (k : Int) (by simp) (by rw [length_zs]; have := HL.out; omega) (by simp; omega) ?_; intro v3 w3 hown3 hg3 hat3; have hb3 : w3.heap[B]? = _ := (hg3.block B (by simp; omega) (fun e => by have := row_lt hs5.out.out B e.symm; omega)); have f3 : w3.frozen? ⟨B, 3, none⟩ = false := (World.frozen?_of_block hb3).trans ((hs5.out.alloc _).alloc _).f3; have c33 : w3.cell? ⟨B, 3, none⟩ = some _ := (World.cell?_of_block hb3).trans ((hs5.out.alloc _).alloc _).c3; obtain ⟨A3, cap4, rfl⟩ := Rd.val hown3.ints))
              have hzl : zs l ++ [(k : Int)] = zs (l ++ [k]) := by simp [zs]
              have hnl : (zs l ++ [(k : Int)]).length = l.length + 1 := by simp
              rw [hnl, hzl] at hown3
              rw [hnl] at hat3
              have hat4 : (Value.slice A3 (l.length + 1) cap4).ownBlock = (Value.slice A2 l.length cap3).ownBlock ∨ (Value.slice A3 (l.length + 1) cap4).ownBlock = some (w5.heap.size + 1 + 1) := by
                rcases hat3 with h | h
                · exact .inl h
                · exact .inr (h.trans (by simp))
              have hs6 := Lib.hid (SrchAt.setOut ((hs5.out.alloc _).alloc _) hg3 hown3 (hat4.imp id (fun h => .inr ⟨_, h, by simp⟩)))
              have HNB : ∀ y, F bd B (.slice A2 l.length cap3) I' y → y ≠ w.heap.size := fun y hy e => by
                subst e
                rcases F5.out _ hy with h | h
                · have := (HS.out.foot _ h).2; omega
                · omega
              have hoX := ((Only.refl (F bd B (.slice A2 l.length cap3) I') _).grown hg3 (fun y hy => .inl (.inr (.inr (.inl hy))))).setCell (p := ⟨B, 3, none⟩) (.inl (.inl rfl)) (.slice A3 (l.length + 1) cap4)
              have ho6 := Lib.hid ((((ho5.out.alloc (.cells #[nv u0, nv u1, nv u2] 59)).alloc (.cells #[nv k] 3)).grown hg3 (fun y hy => (F5.out y (.inr (.inr (.inl hy)))).imp id Nat.le_of_lt)).setCell (p := ⟨B, 3, none⟩) (.inl (.inl rfl)) (.slice A3 (l.length + 1) cap4))
              have F6 := Lib.hid (show ∀ y, F bd B (.slice A3 (l.length + 1) cap4) I' y → F bd B ov I y ∨ w.heap.size < y from fun y hy => by
                rcases hy with h | h | h | h
                · exact F5.out y (.inl h)
                · exact F5.out y (.inr (.inl h))
                · rcases hat4 with g | g
                  · exact F5.out y (.inr (.inr (.inl (g.symm.trans h))))
                  · rw [g] at h
                    injection h with h
                    right; omega
                · exact F5.out y (.inr (.inr (.inr h))))
              have z0 := (hoX.cell (p := ⟨w.heap.size, 0, none⟩) (by simp; omega) (fun hF => HNB _ hF rfl)).trans (show _ = some (nv v0) by simp [World.cell?_alloc_past, hw5, Nat.lt_succ_of_lt hw5, b50])
              have z1 := (hoX.cell (p := ⟨w.heap.size, 1, none⟩) (by simp; omega) (fun hF => HNB _ hF rfl)).trans (show _ = some (nv v1) by simp [World.cell?_alloc_past, hw5, Nat.lt_succ_of_lt hw5, b51])
              have z2 := (hoX.cell (p := ⟨w.heap.size, 2, none⟩) (by simp; omega) (fun hF => HNB _ hF rfl)).trans (show _ = some (nv v2) by simp [World.cell?_alloc_past, hw5, Nat.lt_succ_of_lt hw5, b52])
              have hnu : ¬ F bd B (.slice A2 l.length cap3) I' w5.heap.size := fun hF => by have := (hs5.out.foot _ hF).2; omega
              have y0 := (hoX.cell (p := ⟨w5.heap.size, 0, none⟩) (by simp; omega) hnu).trans (show _ = some (nv u0) by rw [World.cell?_alloc_past _ _ _ (by simp)]; simp)
              have y1 := (hoX.cell (p := ⟨w5.heap.size, 1, none⟩) (by simp; omega) hnu).trans (show _ = some (nv u1) by rw [World.cell?_alloc_past _ _ _ (by simp)]; simp)
              have y2 := (hoX.cell (p := ⟨w5.heap.size, 2, none⟩) (by simp; omega) hnu).trans (show _ = some (nv u2) by rw [World.cell?_alloc_past _ _ _ (by simp)]; simp)
              have zz := hoX.size
              simp only [World.size_alloc] at zz
              clear hoX hzl hnl hown3 hg3 hat3 hat4 f3 c33 hb3 b50 b51 b52 o51 o53 c53 hset
              generalize w3.setCell ⟨B, 3, none⟩ (.slice A3 (l.length + 1) cap4) = w6 at *
              have hst6 := Lib.hid (HST.out.only ((ho6.out.drew).below (by have := (HS.out.foot bd (.inr (.inl rfl))).2; omega) (fun y hy => (HS.out.foot y hy).1)))
              have hor := bits_or_shl done k (by omega) (by have := HL.out; omega)
              have hlt2 : done ||| 2 ^ k < 2 ^ h.length := Nat.or_lt_two_pow HD.out (Nat.pow_lt_pow_right (by omega) hkl)
              have hcall := Lib.hid (IH.out (l ++ [k]) (done ||| 2 ^ k) u0 u1 u2 n' _ I' w6.drew (by rw [List.length_append]; simp; omega) hlt2 (by rw [cnt_set hkl BT.out, HC.out, List.length_append]; rfl) hu0 hu1 hu2 (by
                have e1 : 11 ^ (d + 2) = 11 * 11 ^ (d + 1) := by rw [Nat.pow_succ]; omega
                have e2 := HN.out
                have e3 : k * 11 ^ (d + 1) ≤ 9 * 11 ^ (d + 1) := Nat.mul_le_mul_right _ (by have := HL.out; omega)
                omega) (hs6.out.drewN 1) hst6.out)
              clear hlt2
              generalize done ||| 2 ^ k = dk at *
              generalize from_ h pre d dk [u0, u1, u2] = R at *
              refine wp_region_still_tail 6 (by kernel_rfl) (by kernel_rfl) ?_
              simp only [List.take_succ_cons, List.take_zero, List.drop_succ_cons, List.drop_zero]
              repeat still_step
              refine wpStill_nil ?_
              go_wp2_with fail
              rw [hor]
              (with_reducible refine hcall.out.mono ?_)
              rintro e w7 ⟨rfl, hto⟩
              have HBN := Lib.hid (show n' + 11 ^ (d + 1) ≤ n + (k + 1) * 11 ^ (d + 1) by rw [Nat.add_mul]; omega)
              have HBT := Lib.hid (show (k + 1) * 11 ^ (d + 1) ≤ 11 ^ (d + 2) by
                rw [show 11 ^ (d + 2) = 11 * 11 ^ (d + 1) by rw [Nat.pow_succ]; omega]
                exact Nat.mul_le_mul_right _ (by have := HL.out; omega))
              obtain ⟨ov7, I7, n7, q1, q2, q3, q4⟩ := hto
              have HO7 := Lib.hid (Only.trans ho6.out.drew q3 (fun y hy => (F6.out y hy).imp id Nat.le_of_lt))
              have HF7 := Lib.hid (show ∀ y, F bd B ov7 I7 y → F bd B ov I y ∨ w.heap.size < y from fun y hy => by
                rcases q4 y hy with h | h
                · exact F6.out y h
                · right
                  have h2 : w6.heap.size ≤ y := h
                  omega)
              cases R with
              | some r =>
                have HIT := Lib.hid (from_hit (d := d) hno.out hkl HTR.out)
                have HB7 := Lib.hid (show n7 ≤ n + 11 ^ (d + 2) by have := HBN.out; have := HBT.out; omega)
                have Q1 := Lib.hid q1
                clear hno hcall q1 q3 q4 HNX hfr hor hnb
                go_wp2_with fail
                go_ret
                refine ⟨by rw [HIT.out]; rfl, ov7, I7, n7, ?_, HB7.out, HO7.out, fun y hy => (HF7.out y hy).imp id Nat.le_of_lt⟩
                rw [HIT.out]
                have := Q1.out
                simp only [Option.getD_some] at this ⊢
                rw [List.append_assoc] at this
                exact this
              | none =>
                have HNX := Lib.hid (HNX.out HTR.out)
                simp only [Option.getD_none, List.append_nil] at q1
                obtain ⟨g7, cap7, hv7, hg71, hg72, hg73, -, -, -⟩ := Own.shape q1.out (by simp)
                rw [length_zs, List.length_append, List.length_singleton] at hv7 hg73
                subst hv7
                have c73 := q1.c3
                have f73 := q1.f3
                have hcap7 : l.length + 1 ≤ cap7 := by
                  obtain ⟨_, A', cap', h2, h3, _⟩ := q1.out.ints
                  injection h2 with _ _ h4
                  rw [length_zs, List.length_append, List.length_singleton] at h3
                  rw [h4]; exact h3
                have hcut := Own.cut q1.out (k := l.length) (by simp) (by simp)
                have htk : (zs (l ++ [k])).take l.length = zs l := by simp [zs]
                rw [htk] at hcut
                have hs8 := Lib.hid (SrchAt.setOut (q1.drewN 1) (w1 := w7.drew) ⟨rfl, rfl, rfl, Nat.le_refl _, fun _ _ _ => rfl⟩ hcut (.inl rfl))
                have ho8 := Lib.hid ((HO7.out.drew).setCell (p := ⟨B, 3, none⟩) (.inl (.inl rfl)) (.slice (some ⟨g7, 0, none⟩) l.length cap7))
                have HF8 := Lib.hid (show ∀ y, F bd B (.slice (some ⟨g7, 0, none⟩) l.length cap7) I7 y → F bd B ov I y ∨ w.heap.size < y from fun y hy => HF7.out y hy)
                have hnb7 : ∀ j, w7.cell? ⟨w.heap.size, j, none⟩ = w6.cell? ⟨w.heap.size, j, none⟩ := fun j => q3.cell (p := ⟨w.heap.size, j, none⟩) (Nat.lt_of_lt_of_le hw5 (Nat.le_trans (Nat.le_succ_of_le (Nat.le_succ _)) zz)) (fun hF => by
                  rcases F6.out _ hF with h | h
                  · exact absurd (HS.out.foot _ h).2 (Nat.lt_irrefl _)
                  · exact absurd h (Nat.lt_irrefl _))
                have e0 := (hnb7 0).trans z0
                have e1 := (hnb7 1).trans z1
                have e2 := (hnb7 2).trans z2
                have hw7 := q3.size
                have hw7' : w.heap.size < w7.heap.size := by have h2 : w6.heap.size ≤ w7.heap.size := hw7; omega
                have hB7 : w.heap.size ≠ B := by have := (HS.out.foot B (.inl rfl)).2; omega
                have HB7 := Lib.hid (show n7 ≤ n + (k + 1) * 11 ^ (d + 1) by have := HBN.out; omega)
                have hwr1 : IntKind.i64.wrap (l.length : Int) = (l.length : Int) := by
                  have := HL.out
                  exact IntWalk.i64_in _ (by omega)
                have hcap8 : (l.length : Int) ≤ (cap7 : Int) := by omega
                have hl10 := HL.out
                clear hno hcall hcut q1 q3 q4 hfr hor hnb7 z0 z1 z2 htk hw7 hw5 hz5
                clear hg71 hg72 hg73
                go_wp2_with fail
                refine wp_region_still_tail 14 (by kernel_rfl) (by kernel_rfl) ?_
                simp only [List.take_succ_cons, List.take_zero, List.drop_succ_cons, List.drop_zero]
                repeat still_step
                refine wpStill_nil ?_
                go_wp2_with fail
                go_roundw
                case rel => exact ⟨k + 1, _, I7, n7, by omega, by go_num, Lib.hid HNX.out, Lib.hid hs8.out, Lib.hid ho8.out, Lib.hid HF8.out, by simp; omega, (World.cell?_setCell_other _ _ _ _ (fun e => hB7 (congrArg Addr.block e).symm)).trans e0, (World.cell?_setCell_other _ _ _ _ (fun e => hB7 (congrArg Addr.block e).symm)).trans e1, (World.cell?_setCell_other _ _ _ _ (fun e => hB7 (congrArg Addr.block e).symm)).trans e2, HB7.out⟩
                case measure => simp [intOf]; omega
            · have HNX := Lib.hid (HNX.out (trial_no (by rw [HOK.out, hb', hdf]; simp [hvx])))
              have hvn : ((vo : Int) != (x : Int)) = true := by simp; omega
              clear hb hb' hdf hvx
              go_wp2_with fail
              go_quiet ((go_at_call 29; exact hhas.out _ _))
              go_wp2_with fail
              go_roundw
              case rel => exact ⟨k + 1, ov', I', n', by omega, by go_num, Lib.hid HNX.out, Lib.hid ((hsr.out.alloc _).drewN _), Lib.hid ((hor.out.alloc _).drewN _), hfr, by simp; omega, by simp [World.cell?_alloc_past, hlt, c0], by simp [World.cell?_alloc_past, hlt, c1], by simp [World.cell?_alloc_past, hlt, c2], HMB.out⟩
              case measure => simp [intOf]; omega
        · have HNX := Lib.hid (HNX.out (trial_no (by rw [HOK.out, hb']; simp [hdf])))
          have hdn : (((Odr.diff pk done : Nat) : Int) != 0) = true := by simp; omega
          clear hb hb' hdf
          generalize Odr.diff pk done = df at *
          go_wp2_with fail
          go_quiet ((go_at_call 29; exact hhas.out _ _))
          go_wp2_with fail
          go_roundw
          case rel => exact ⟨k + 1, ov', I', n', by omega, by go_num, Lib.hid HNX.out, Lib.hid ((hsr.out.alloc _).drewN _), Lib.hid ((hor.out.alloc _).drewN _), hfr, by simp; omega, by simp [World.cell?_alloc_past, hlt, c0], by simp [World.cell?_alloc_past, hlt, c1], by simp [World.cell?_alloc_past, hlt, c2], HMB.out⟩
          case measure => simp [intOf]; omega
    · obtain rfl : k = h.length := by omega
      have hall := Lib.hid (from_all hno.out)
      have HG := Lib.hid ((Gd_of (h := h) (pre := pre) (v := [v0, v1, v2]) HLL.out HC.out).2 hall.out)
      have g2 := hsr.out.c2
      have hsz := (hsr.out.foot B (.inl rfl)).2
      have hbds := hsr.out.map.lt
      have hlk := hsr.out.map.look hd12
      have HBT := Lib.hid (show n' + 2 ≤ n + 11 ^ (d + 2) by
        have e1 : 11 ^ (d + 2) = 11 * 11 ^ (d + 1) := by rw [Nat.pow_succ]; omega
        have e3 : h.length * 11 ^ (d + 1) ≤ 10 * 11 ^ (d + 1) := Nat.mul_le_mul_right _ HL.out
        have e5 : 2 ≤ 11 ^ (d + 1) := Nat.le_trans (by decide : 2 ≤ 11 ^ 1) (Nat.pow_le_pow_right (by decide) (by omega))
        omega)
      have hmx : n' + 2 < maxLen := by have := HBT.out; have := HN.out; unfold maxLen; omega
      cases hI : I' done with
      | none =>
        rw [hI] at hlk
        have hmm := @run_makeMap Tryd.prog
        have heq := eqMapNone wr
        obtain ⟨w8, hst8, hSM, hg8⟩ := SM.store (hsr.out.alloc (.map #[] 0)).map (by omega) hd12 wr.heap.size
        have hs8 := Lib.hid (SrchAt.newInner hsr.out hI hSM hg8)
        have hud : upd I' done wr.heap.size done = some wr.heap.size := by simp [upd]
        have hlk8 := hs8.out.map.look hd12
        rw [hud] at hlk8
        have hlkd : (Instr.lookup 55 (.map (some bd)) (nv done) false).run Tryd.prog w8.drew = .ok (.map (some wr.heap.size)) w8.drew := by
          have := (hs8.out.drewN 1).map.look hd12
          rw [hud] at this
          exact this
        have hnb8 : ∀ j, w8.cell? ⟨w.heap.size, j, none⟩ = wr.cell? ⟨w.heap.size, j, none⟩ := fun j => (World.cell?_of_block (hg8.block w.heap.size (by simp; omega) (fun e => by
          injection e with e
          have := (HS.out.foot bd (.inr (.inl rfl))).2; omega))).trans (World.cell?_alloc_past _ _ _ hlt)
        have e0 := (hnb8 0).trans c0
        have e1 := (hnb8 1).trans c1
        have e2 := (hnb8 2).trans c2
        have g28 := hs8.out.c2
        have hsz8 := (hs8.out.foot B (.inl rfl)).2
        have hgs := hg8.size
        simp only [World.size_alloc] at hgs
        have hib := hs8.out.inn done wr.heap.size hud
        obtain ⟨w9, hst9, hIM, hg9⟩ := (hib.2.1.of_block (w' := w8.drew) rfl).store (by omega) h0 h1 h2 HG.out
        have hs9 := Lib.hid (SrchAt.putInner (hs8.out.drewN 1) hud hIM hg9)
        have ho9 := Lib.hid ((((hor.out.alloc (.map #[] 0)).grown hg8 (fun y hy => by cases hy; exact .inl (.inr (.inl rfl)))).drew).grown hg9 (fun y hy => by
          cases hy
          right; omega))
        have HF9 := Lib.hid (show ∀ y, F bd B ov' (upd I' done wr.heap.size) y → F bd B ov I y ∨ w.heap.size ≤ y from fun y hy => by
          rcases hy with h | h | h | ⟨d', h⟩
          · exact .inl (.inl h)
          · exact .inl (.inr (.inl h))
          · exact (hfr.out y (.inr (.inr (.inl h)))).imp id Nat.le_of_lt
          · unfold upd at h
            by_cases he : d' = done
            · rw [if_pos he] at h
              cases h
              right; omega
            · rw [if_neg he] at h
              exact (hfr.out y (.inr (.inr (.inr ⟨d', h⟩)))).imp id Nat.le_of_lt)
        clear hIM hg9 hg8 hSM hib hnb8 hud
        go_wp2_with fail
        refine wp_region_still_tail 7 (by kernel_rfl) (by kernel_rfl) ?_
        simp only [List.take_succ_cons, List.take_zero, List.drop_succ_cons, List.drop_zero]
        repeat still_step
        refine wpStill_nil ?_
        go_wp2_with fail
        go_ret
        exact ⟨by rw [hall.out]; rfl, ov', _, n' + 2, by rw [hall.out]; simpa using hs9.out, HBT.out, ho9.out, HF9.out⟩
      | some bi =>
        rw [hI] at hlk
        have hbi := (hsr.out.inn done bi hI).2.1
        have heq := eqMapSome bi wr
        have hlkd : (Instr.lookup 55 (.map (some bd)) (nv done) false).run Tryd.prog wr.drew = .ok (.map (some bi)) wr.drew := by
          have := (hsr.out.drewN 1).map.look hd12
          rw [hI] at this
          exact this
        obtain ⟨w8, hst, hIM, hg8⟩ := (hbi.of_block (w' := wr.drew) rfl).store (by omega) h0 h1 h2 HG.out
        have hs9 := Lib.hid ((SrchAt.putInner (hsr.out.drewN 1) hI hIM hg8).mono (n' := n' + 2) (by omega))
        have ho9 := Lib.hid ((hor.out.drew).grown hg8 (fun y hy => by
          cases hy
          exact (hfr.out bi (.inr (.inr (.inr ⟨done, hI⟩)))).imp id Nat.le_of_lt))
        clear hIM hg8
        go_wp2_with fail
        refine wp_region_still_tail 7 (by kernel_rfl) (by kernel_rfl) ?_
        simp only [List.take_succ_cons, List.take_zero, List.drop_succ_cons, List.drop_zero]
        repeat still_step
        refine wpStill_nil ?_
        go_wp2_with fail
        go_ret
        exact ⟨by rw [hall.out]; rfl, ov', I', n' + 2, by rw [hall.out]; simpa using hs9.out, HBT.out, ho9.out, fun y hy => (hfr.out y hy).imp id Nat.le_of_lt⟩
end Go.Proofs.YtjmjifcaobkobaaDoor
