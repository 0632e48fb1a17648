/- Contracts of order.Turned: the closed relation turned round. Conditions: each contract's own premises. -/
import Derived.Test.YtpicjikjinkkpaaDoorTurnedM
import Derived.Test.YtpicjikjinkkpaaDoorMarks
import Derived.Test.YtpicjikjinkkpaaDoorOrder2
namespace Go.Proofs.YtpicjikjinkkpaaDoor
open Go.RowKit Go.Shelf
attribute [local go_sem] Oper.semAt_some

theorem make_ints_in {F : Fence} {nF : Nat} {ops : Array Oper} {rest : List Oper} {o : Oper} {a : Act} {Q : Exit → Act → World → Prop} {w : World} (hgd : o.guard = none) (l c : Operand) (hop : o.op = Op.makeSlice 22 l c) (base n : Nat) (hl : a.eval l = nv n) (hc : a.eval c = nv n) (hn : n ≤ 1000000) (hbase : base ≤ w.heap.size)
    (h : ∀ w', Own w' base (.slice (some ⟨w.heap.size, 0, none⟩) n n) (List.replicate n 0) → Below w.heap.size w w' → wpListIn F nF Tryd.prog ops Q rest (a.put o.dst (.slice (some ⟨w.heap.size, 0, none⟩) n n)) w') :
    wpListIn F nF Tryd.prog ops Q (o :: rest) a w := by
  obtain ⟨i0, hi, hz0, hz1, hz2⟩ := info_parts Tryd.infoInt
  refine wpListIn_plain hgd fun K hK' => ?_
  obtain ⟨w', hrun, r1, r2⟩ := run_make_full (P := Tryd.prog) w base 22 3 i0 (.int .i64 0) 1 Tryd.underlying22 hi hz0 hz1 .i64 .i64 n (by rw [hz2]; omega) (by unfold maxLen; omega) hbase
  unfold Oper.wpIn
  refine ⟨by simp [Oper.about, hop], ?_⟩
  rw [Oper.semAt_plain F _ _ (by rw [hop]; intro c hc'; cases hc')]
  simp [execOp, hop, hl, hc, hrun, Result.andThen]
  refine hK' _ _ (h w' ?_ ((Below.refl w.heap.size w).grown r2 (Nat.le_refl _) (fun _ h => by cases h)))
  unfold Own
  have e := toList_madeCells_one (.int .i64 0) n
  simp only [Value.cells, Nat.mul_one] at r1
  rw [e] at r1
  simpa using r1

theorem Own.other {w : World} {base g i : Nat} {v x : Value} {l : List Int} (h : Own w base v l) (hg : g < base) : Own (w.setCell ⟨g, i, none⟩ x) base v l := by
  refine ⟨h.1, ?_⟩
  rcases h.2 with h2 | ⟨b, cap, cur, hv, hb, hh, r⟩
  · exact .inl h2
  · exact .inr ⟨b, cap, cur, hv, hb, by rw [Below.heap_setCell _ _ _ b (by simp; omega)]; exact hh, r⟩

set_option maxHeartbeats 1000000 in
theorem turned_ok (m : List Nat) (v : Value) (w : World) (hr : Ints w w.heap.size v (zs m)) (hv : Odr.Valid m) (hT : Tab w) :
    Calls Tryd.prog 21 #[v] w fun e w' => ∃ v', e = .returned (.tuple #[v', .nilIface]) ∧ Own w' w.heap.size v' (zs (Odr.turned m)) ∧ Below w.heap.size w w' := by
  have hchk := Lib.hid (check_valid m v w hr hv)
  have hfew := hv.few
  have hT0 := Lib.hid hT
  obtain ⟨A, cap, rfl⟩ := Rd.val hr
  have hlz : (zs m).length = m.length := by simp
  rw [hlz] at hr hchk ⊢
  clear hT
  refine (callsIn_wide (n := 9)).1 ?_
  refine callsIn_of_wp_marks Tryd.func21 rfl trivial ?_ rfl
  simp only [Tryd.ntmps21, List.size_toArray, List.length_cons, List.length_nil, Nat.reduceAdd, Nat.reduceSub, Array.replicate_succ, Array.replicate_zero, List.push_toArray, List.append_toArray, List.nil_append, List.cons_append]
  gi_wp2_with fail
  refine ⟨trivial, ?_⟩
  refine (callsIn_wide.2 hchk.out).mono ?_
  rintro e w1 ⟨rfl, hb1⟩
  have HB1 := Lib.hid hb1.size
  clear hchk
  gi_wp2_with (gi_at_make; refine make_ints_in rfl _ _ rfl w1.heap.size m.length rfl rfl (by omega) (Nat.le_refl _) ?_; intro w2 hown hb2)
  obtain ⟨u, hu⟩ : ∃ u : Value, u = .slice (some ⟨w1.heap.size, 0, none⟩) m.length m.length := ⟨_, rfl⟩
  rw [← hu] at hown ⊢
  obtain ⟨w3, hw3⟩ : ∃ w3, w2.alloc (.cells #[u] 22) = w3 := ⟨_, rfl⟩
  have hs3 : w3.heap.size = w2.heap.size + 1 := by rw [← hw3]; simp
  have hb3 : Below w2.heap.size w2 w3 := by rw [← hw3]; exact (Below.refl _ _).alloc (Nat.le_refl _) _
  have hbox : w3.cell? ⟨w2.heap.size, 0, none⟩ = some u := by rw [← hw3]; simp
  have hboxf : w3.frozen? ⟨w2.heap.size, 0, none⟩ = false := by rw [← hw3]; simp
  have hown3 : Own w3 w1.heap.size u (List.replicate m.length 0) := hown.kept hb3
  have hb13 : Below w.heap.size w w3 := (hb1.trans (hb2.mono hb1.size)).trans (hb3.mono (Nat.le_trans hb1.size hb2.size))
  have hcl := Lib.hid (closed_calls m (.slice A m.length cap) w.heap.size w3 (Rd.below hr hb13) hfew hv.fits)
  rw [hw3]
  refine ⟨trivial, ?_⟩
  refine (callsIn_wide.2 hcl.out).mono ?_
  rintro e w4 ⟨v4, rfl, hown4, hb4⟩
  clear hcl
  obtain ⟨A4, c4, rfl⟩ := Rd.val hown4.ints
  obtain ⟨c, hc⟩ : ∃ c, c = Odr.closed m := ⟨_, rfl⟩
  have hcl : c.length = m.length := by rw [hc]; exact Odr.length_closed m
  have hcf : Odr.Fits c := by rw [hc]; exact hv.fits.closed
  have hend : Odr.tpart c m.length [] = Odr.turned m := by rw [hc]; exact Odr.tpart_all m
  rw [← hc] at hown4 ⊢
  rw [length_zs, hcl] at hown4 ⊢
  clear hc
  have hb1w : w1.heap.size < w2.heap.size := by
    rw [hu] at hown
    exact hown.lit.2.1
  clear hr hb1 hb2 hb3 hown hw3 hv
  have hb14 : Below w.heap.size w w4 := hb13.trans (hb4.mono hb13.size)
  have hw4 := hb14.size
  have h12 : w1.heap.size < w3.heap.size := by
    rw [hu] at hown3
    exact hown3.lit.2.1
  have HU := Lib.hid hu
  clear hu
  have h1 : w.heap.size ≤ w1.heap.size := HB1.out
  have htab := (hT0.out.below hb14)
  have hg0 := hT0.out.lt
  have hown5 : Own w4 w1.heap.size u (zs (Odr.tpart c 0 [])) := by
    rw [Odr.tpart_zero, hcl]
    have := hown3.kept hb4
    simpa [zs] using this
  have hbox4 := (hb4.cell (p := ⟨w2.heap.size, 0, none⟩) (by simp; omega)).trans hbox
  gi_wp2_with fail
  refine wpIn_loop (fun a wr => ∃ (k : Nat) (rs : List Nat) (y6 y7 y21 y22 y23 y24 y25 y26 y36 : Value), a = { tmps := #[.slice A m.length cap, undef, .slice none 0 0, .nilIface, .nilIface, .pointer (some ⟨w2.heap.size, 0, none⟩), y6, y7, undef, .slice A m.length cap, .nilIface, .nilIface, .bool false, undef, .slice A m.length cap, nv m.length, u, .slice A m.length cap, .slice A4 m.length c4, nv m.length, nv k, y21, y22, y23, y24, y25, y26, undef, undef, undef, undef, undef, undef, undef, undef, undef, y36, undef], defers := marks rs } ∧ k ≤ m.length ∧ MarksOk w4.heap.size rs wr ∧
      Own wr w1.heap.size u (zs (Odr.tpart c k [])) ∧ Own wr w3.heap.size (.slice A4 m.length c4) (zs c) ∧ wr.cell? ⟨w2.heap.size, 0, none⟩ = some u ∧ Tab wr ∧ w4.heap.size ≤ wr.heap.size ∧ Below w.heap.size w wr) (fun a _ => m.length - (intOf (a.tmps.getD 20 undef)).toNat) ⟨0, [], _, _, _, _, _, _, _, _, _, rfl, Nat.zero_le _, MarksOk.nil _ _, hown5, hown4, hbox4, htab, Nat.le_refl _, hb14⟩ ?_
  clear hown5 hown4 hbox4 htab hb14 hown3 hbox hboxf hb4 hb13 hT0
  rintro a wr ⟨k, rs, y6, y7, y21, y22, y23, y24, y25, y26, y36, rfl, hk, hmk, hown, hown4, hbox, htab, hsz, hb⟩
  by_cases hkm : k < m.length
  · obtain ⟨g4, cap4, he4, gb4, gs4, _, gc4, gf4, -⟩ := Own.shape hown4 (by rw [length_zs]; omega)
    rw [length_zs, hcl] at he4
    cases he4
    have gk := gc4 k (by rw [length_zs]; omega)
    rw [zs_getElem] at gk
    have hrow : c.getD k 0 < 4096 := fits12 (l := c) (by omega) (hcf.getD k)
    have hnext := Lib.hid (Odr.tpart_row c k hrow)
    have hjlt : ∀ j, (c.getD k 0).testBit j = true → j < m.length := by
      intro j hj
      have := Odr.rel_lt_right (l := c) hcf (i := k) (j := j) hj
      omega
    have HJ := Lib.hid hjlt
    clear gc4 gf4 hjlt
    obtain ⟨s, hs⟩ : ∃ s, s = c.getD k 0 := ⟨_, rfl⟩
    rw [← hs] at gk hrow hnext HJ
    clear hs
    gi_wp2_with fail
    refine ⟨trivial, ?_⟩
    refine (callsIn_wide.2 (bits_make s _)).mono ?_
    rintro e wb ⟨rfl, hwb⟩
    obtain ⟨B6, hB6⟩ : ∃ B6, B6 = wr.heap.size := ⟨_, rfl⟩
    have hsb : wb.heap.size = wr.heap.size + 2 := by rw [← hwb]; simp
    have hbb : Below wr.heap.size wr wb := by rw [← hwb]; exact ((Below.refl _ wr).alloc (Nat.le_refl _) _).alloc (by simp) _
    have hc6 : wb.cell? ⟨B6, 0, none⟩ = some (nv k) := by rw [← hwb, hB6]; simp
    have hcb : wb.cell? ⟨B6 + 1, 0, none⟩ = some (nv s) := by rw [← hwb, hB6]; simp
    have hsz6 : (wr.alloc (Obj.cells #[Value.int IntKind.i64 ↑k] 3)).heap.size = B6 + 1 := by rw [hB6]; simp
    rw [hsz6, ← hB6]
    have hmkb := hmk.calls hbb
    have hownb := hown.kept hbb
    have hown4b := hown4.kept hbb
    have hboxb := (hbb.cell (p := ⟨w2.heap.size, 0, none⟩) (by simp; omega)).trans hbox
    have htabb := htab.below hbb
    have hBb : Below w.heap.size w wb := hb.trans (hbb.mono hb.size)
    have HB6 := Lib.hid hB6
    have HSB := Lib.hid hsb
    clear hwb hsz6 hmk hown hown4 hbox htab hb hB6 hsb
    gi_wp2_with fail
    refine wpIn_rangeFunc_ownF rfl (by omega) (gf := 75) (lb := #[.pointer (some ⟨B6 + 1, 0, none⟩)]) rfl trivial (enters_of Tryd.func75 (by kernel_rfl) rfl)
      (bits_stops 8 (by omega) (B6 + 1) w.heap.size s hrow wb htabb hg0 hcb) belowK_t (belowK_b (by have := HSB.out; omega)) (Below.refl _ _) (fun _ => rfl)
      (fun pre W => Own W w1.heap.size u (zs (Odr.tpart c k (pre.map (·.1)))) ∧ Own W w3.heap.size (.slice (some ⟨g4, 0, none⟩) m.length c4) (zs c) ∧ W.cell? ⟨w2.heap.size, 0, none⟩ = some u ∧ W.cell? ⟨B6, 0, none⟩ = some (nv k) ∧ Tab W ∧ (MarksOk w4.heap.size rs W ∧ wb.heap.size ≤ W.heap.size) ∧ Below w.heap.size w W)
      (fun _ _ _ => False)
      (OwnFrom.and (ownFrom_own _ _ _) (OwnFrom.and (ownFrom_own _ _ _) (OwnFrom.and (ownFrom_cell1 _ _) (OwnFrom.and (ownFrom_cell1 _ _) (OwnFrom.and ownFrom_tab (OwnFrom.and (ownFrom_marks hmkb.lt) (ownFrom_below (Nat.le_refl _) (by have := HSB.out; omega))))))))
      (fun _ _ _ _ _ h _ _ => h) ⟨hownb, hown4b, hboxb, hc6, htabb, ⟨hmkb, Nat.le_refl _⟩, hBb⟩
      (fun x => { tmps := #[.slice A m.length cap, undef, .slice none 0 0, .nilIface, .nilIface, .pointer (some ⟨w2.heap.size, 0, none⟩), .pointer (some ⟨B6, 0, none⟩), nv s, nv x.1, .slice A m.length cap, .nilIface, .nilIface, .bool false, undef, .slice A m.length cap, nv m.length, u, .slice A m.length cap, .slice (some ⟨g4, 0, none⟩) m.length c4, nv m.length, nv k, .bool true, nv k, .pointer (some ⟨g4, k, none⟩), nv s, nv s, .func (.func 75) #[] #[.pointer (some ⟨B6 + 1, 0, none⟩)], nv x.1, undef, undef, undef, undef, undef, undef, undef, undef, y36, undef], defers := [] }) ?assign ?body ?done ?stop
    case assign =>
      intro l x W K hK
      gi_wp2
      exact hK
    case body =>
      rintro l pre ⟨x, hx⟩ W ⟨i1, i2, i3, i4, i5, i6, i7⟩ _
      have hxm := HJ.out x hx
      obtain ⟨gb, gl, gc, gf, gst⟩ := (HU.out ▸ i1 : Own W w1.heap.size (.slice (some ⟨w1.heap.size, 0, none⟩) m.length m.length) _).lit
      have gx := gc x (by rw [length_zs, Odr.length_tpart]; omega)
      rw [zs_getElem] at gx
      have gfx := gf x
      have hsn := Lib.hid (Odr.tpart_snoc c k (pre.map (·.1)) x (by omega))
      have hx16 : (Odr.tpart c k (pre.map (·.1))).getD x 0 < 2 ^ 13 := by
        rw [Odr.getD_tpart _ _ _ (by omega)]
        exact Nat.lt_of_lt_of_le (Odr.tcell_lt _ _ _ _) (Nat.pow_le_pow_right (by omega) (by omega))
      have HGST := Lib.hid gst
      have I2 := Lib.hid i2
      have I4 := Lib.hid i4
      have I5 := Lib.hid i5
      have I6 := Lib.hid i6
      have I7 := Lib.hid i7
      rw [HU.out] at i3
      generalize (Odr.tpart c k (pre.map (·.1))).getD x 0 = z at *
      have hwk : IntKind.i64.wrap (2 ^ k) = ((2 ^ k : Nat) : Int) := by
        have h1 : 2 ^ k < 2 ^ 62 := Nat.pow_lt_pow_right (by omega) (by omega)
        rw [show (2 : Int) ^ k = ((2 ^ k : Nat) : Int) by rw [Int.natCast_pow]; rfl]
        generalize 2 ^ k = y at h1 ⊢
        exact IntWalk.i64_in _ (by constructor <;> omega)
      obtain ⟨W', hW'⟩ : ∃ W', (W.setCell ⟨w1.heap.size, x, none⟩ (.int .i64 (bits .or .i64 (z : Int) (IntKind.i64.wrap (2 ^ k))))).drew = W' := ⟨_, rfl⟩
      have f1 : KeepsOthers W W' := by rw [← hW']; exact (KeepsOthers.setCell _ _ _).trans (KeepsOthers.drew _)
      have f2 : Below w.heap.size W W' := by rw [← hW']; exact ((Below.refl w.heap.size W).setCell (p := ⟨w1.heap.size, x, none⟩) h1 _).drew
      have f3 : Own W' w1.heap.size u (zs (Odr.tpart c k ((pre ++ [(⟨x, hx⟩ : El s)]).map (·.1)))) := by
        have h := HGST.out x ((z ||| 2 ^ k : Nat) : Int)
        rw [zs_set, ← hsn.out, ← HU.out] at h
        rw [← hW', hwk, bits_or z (2 ^ k) (by omega) (Nat.pow_lt_pow_right (by omega) (by omega))]
        simpa using h.drew
      have f4 : Own W' w3.heap.size (.slice (some ⟨g4, 0, none⟩) m.length c4) (zs c) := by rw [← hW']; exact (Own.other I2.out h12).drew
      have f5 : W'.cell? ⟨w2.heap.size, 0, none⟩ = some u := by
        rw [← hW', HU.out]
        exact (cell_other _ _ _ (by simp; omega)).trans i3
      have f6 : W'.cell? ⟨B6, 0, none⟩ = some (nv k) := by
        rw [← hW']
        exact (cell_other _ _ _ (by have := HB6.out; simp; omega)).trans i4
      have f7 : Tab W' := I5.out.keep f2 hg0
      have f8 : MarksOk w4.heap.size rs W' ∧ wb.heap.size ≤ W'.heap.size := ⟨I6.out.1.others f1, Nat.le_trans I6.out.2 f1.size⟩
      have FIN := Lib.hid (And.intro f1 (And.intro f2 (And.intro f3 (And.intro f4 (And.intro f5 (And.intro f6 (And.intro f7 (And.intro f8 (I7.out.trans f2)))))))))
      rw [← hW'] at FIN
      clear hW' f1 f2 f3 f4 f5 f6 f7 f8
      clear gc gf gst i2 i5 i6 i7 i1 hwk
      gi_wp2_with fail
      gi_region
      all_goals gi_wp2_with fail
      all_goals exact FIN.out
    case done =>
      rintro D xs W hD hxs ⟨i1, i2, i3, i4, i5, ⟨i6, i8⟩, i7⟩ hK
      rw [hxs, hnext.out] at i1
      have hDn : D ∉ rs := fun h => by have := hmkb.lt D h; omega
      have i6' : MarksOk w4.heap.size (D :: rs) W := i6.cons hK (by have := HSB.out; omega) hDn
      have hmarks : marks (D :: rs) = { target := .collected D, args := #[] } :: marks rs := rfl
      rw [← hmarks]
      have II := Lib.hid (And.intro i1 (And.intro i2 (And.intro i3 (And.intro i5 i7))))
      have HM := Lib.hid i6'
      have hszW : w4.heap.size ≤ W.heap.size := by have := HSB.out; omega
      clear i1 i2 i3 i4 i5 i6 i7 i6' hK hmarks hDn hxs
      gi_wp2_with fail
      refine ⟨⟨k + 1, D :: rs, _, _, _, _, _, _, _, _, _, by go_num, by omega, HM.out, II.out.1, II.out.2.1, II.out.2.2.1, II.out.2.2.2.1, hszW, II.out.2.2.2.2⟩, ?_⟩
      simp [intOf]; omega
    case stop =>
      rintro D c pre W _ _ h _
      exact h.elim
  · obtain rfl : k = m.length := by omega
    clear hkm
    rw [hend] at hown
    gi_wp2_with fail
    refine leaves_marks _ _ hmk fun w' hs => ?_
    exact ⟨_, results_tmp2 rfl _ _ _, u, rfl, (hs.own hown).lower h1, (hs.mono (by omega)).below hb⟩
theorem turned_err (l : List Int) (v : Value) (w : World) (hr : Ints w w.heap.size v l) (hne : orderCode l ≠ 0) :
    Calls Tryd.prog 21 #[v] w fun e w' => e = .returned (.tuple #[.slice none 0 0, .iface 56 (nv (orderCode l))]) ∧ Below w.heap.size w w' := by
  have hchk := Lib.hid (check_err l v w hr hne)
  refine (callsIn_wide (n := 9)).1 ?_
  refine callsIn_of_wp_marks Tryd.func21 rfl trivial ?_ rfl
  simp only [Tryd.ntmps21, List.size_toArray, List.length_cons, List.length_nil, Nat.reduceAdd, Nat.reduceSub, Array.replicate_succ, Array.replicate_zero, List.push_toArray, List.append_toArray, List.nil_append, List.cons_append]
  gi_wp2_with fail
  refine ⟨trivial, ?_⟩
  refine (callsIn_wide.2 hchk.out).mono ?_
  rintro e w1 ⟨rfl, hb1⟩
  clear hchk hr
  gi_wp2_with fail
  exact ⟨_, results_tmp2 rfl _ _ _, rfl, hb1⟩


end Go.Proofs.YtpicjikjinkkpaaDoor
