/- Contracts of chain.Ranks: the rank of each thing. Conditions: each contract's own premises. -/
import Derived.Test.YtpicjikjinkkpaaDoorRanksM
import Derived.Test.YtpicjikjinkkpaaDoorTurned
import Derived.Test.YtpicjikjinkkpaaDoorRound
namespace Go.Proofs.YtpicjikjinkkpaaDoor
open Go.RowKit Go.Shelf
attribute [local go_sem] Oper.semAt_some

theorem ranks_err (l : List Int) (v : Value) (w : World) (hr : Ints w w.heap.size v l) (hne : orderCode l ≠ 0) :
    Calls Tryd.prog 39 #[v] w fun e w' => e = .returned (.tuple #[.slice none 0 0, .iface 56 (nv (orderCode l))]) ∧ Below w.heap.size w w' := by
  have hchk := Lib.hid (behind_err l v w hr hne)
  refine (callsIn_wide (n := 9)).1 ?_
  refine callsIn_of_wp_marks Tryd.func39 rfl trivial ?_ rfl
  simp only [Tryd.ntmps39, List.size_toArray, List.length_cons, List.length_nil, Nat.reduceAdd, Nat.reduceSub, Array.replicate_succ, Array.replicate_zero, List.push_toArray, List.append_toArray, List.nil_append, List.cons_append]
  gi_wp2_with fail
  refine ⟨trivial, ?_⟩
  refine (callsIn_wide.2 hchk.out).mono ?_
  rintro e w1 ⟨rfl, hb1⟩
  clear hchk hr
  gi_wp2_with fail
  exact ⟨_, results_tmp2 rfl _ _ _, rfl, hb1⟩

theorem ctr {m : List Nat} (i j k : Nat) (h1 : Odr.rel (Odr.closed m) i j = true) (h2 : Odr.rel (Odr.closed m) j k = true) : Odr.rel (Odr.closed m) i k = true := Odr.closed_trans h1 h2

set_option maxRecDepth 20000 in
set_option maxHeartbeats 2000000 in
theorem ranks_ok (m : List Nat) (v : Value) (w : World) (hr : Ints w w.heap.size v (zs m)) (hv : Odr.Valid m) (hT : Tab w) :
    Calls Tryd.prog 39 #[v] w fun e w' => ∃ v', e = .returned (.tuple #[v', .nilIface]) ∧ Own w' w.heap.size v' (zs (Odr.lof m.length (Odr.rk (Odr.closed m)))) ∧ Below w.heap.size w w' := by
  have hchk := Lib.hid (behind_ok m v w hr hv)
  have hfew := hv.few
  have hT0 := Lib.hid hT
  obtain ⟨A, cap, rfl⟩ := Rd.val hr
  have hlz : (zs m).length = m.length := by simp
  rw [hlz] at hr hchk ⊢
  obtain ⟨c, hc⟩ : ∃ c, c = Odr.closed m := ⟨_, rfl⟩
  have hcl : c.length = m.length := by rw [hc]; exact Odr.length_closed m
  have hcf : Odr.Fits c := by rw [hc]; exact hv.fits.closed
  have htr : ∀ i j k, Odr.rel c i j = true → Odr.rel c j k = true → Odr.rel c i k = true := by rw [hc]; exact ctr
  have hirr : ∀ i, Odr.rel c i i = false := by rw [hc]; exact hv.irr
  have hlt := Lib.hid fun i j (h : Odr.rel c i j = true) => Odr.rk_lt htr hirr h
  have hle := Lib.hid fun j => Odr.rk_le htr hirr j
  have HIRR := Lib.hid hirr
  rw [← hc] at hchk ⊢
  clear hT hr hv hc htr hirr
  generalize m.length = n at *
  refine (callsIn_wide (n := 9)).1 ?_
  refine callsIn_of_wp_marks Tryd.func39 rfl trivial ?_ rfl
  simp only [Tryd.ntmps39, List.size_toArray, List.length_cons, List.length_nil, Nat.reduceAdd, Nat.reduceSub, Array.replicate_succ, Array.replicate_zero, List.push_toArray, List.append_toArray, List.nil_append, List.cons_append]
  gi_wp2_with fail
  refine ⟨trivial, ?_⟩
  refine (callsIn_wide.2 hchk.out).mono ?_
  rintro e w1 ⟨v1, rfl, hown1, hb1⟩
  have HB1 := Lib.hid hb1
  obtain ⟨Ac, cc, rfl⟩ := Rd.val hown1.ints
  rw [length_zs, hcl] at hown1 ⊢
  clear hchk
  gi_wp2_with (gi_at_make; refine make_ints_in rfl _ _ rfl w1.heap.size n rfl rfl (by omega) (Nat.le_refl _) ?_; intro w2 hown hb2)
  obtain ⟨u, hu⟩ : ∃ u : Value, u = .slice (some ⟨w1.heap.size, 0, none⟩) n n := ⟨_, rfl⟩
  rw [← hu] at hown ⊢
  obtain ⟨w3, hw3⟩ : ∃ w3, w2.alloc (.cells #[u] 22) = w3 := ⟨_, rfl⟩
  have hb3 : Below w2.heap.size w2 w3 := by rw [← hw3]; exact (Below.refl _ _).alloc (Nat.le_refl _) _
  have hs3 : w3.heap.size = w2.heap.size + 1 := by rw [← hw3]; simp
  have hbox : w3.cell? ⟨w2.heap.size, 0, none⟩ = some u := by rw [← hw3]; simp
  have hown3 : Own w3 w1.heap.size u (zs (Odr.lof n (Odr.rpass c 0))) := by
    have := hown.kept hb3
    rw [show Odr.rpass c 0 = fun _ => 0 from rfl, Odr.lof_zero]
    simpa [zs] using this
  have hb13 : Below w1.heap.size w1 w3 := hb2.trans (hb3.mono hb2.size)
  have htab := hT0.out.below (hb1.trans (hb13.mono hb1.size))
  have hg0 := hT0.out.lt
  have hc1 := Lib.hid hown1.ints
  have h1 := hb1.size
  have h2 : w1.heap.size < w2.heap.size := by
    rw [hu] at hown
    exact hown.lit.2.1
  have HU := Lib.hid hu
  rw [hw3]
  clear hown1 hown hb3 hb2 hw3 hb1 hu hT0
  refine wpIn_loop (fun a wr => ∃ (p : Nat) (rs : List Nat) (y7 y8 y24 y25 y26 y27 y28 y29 y30 y31 y32 y33 y48 y49 : Value), a = { tmps := #[.slice A n cap, undef, .slice none 0 0, .nilIface, .slice Ac n cc, .nilIface, .pointer (some ⟨w2.heap.size, 0, none⟩), y7, y8, undef, .tuple #[.slice Ac n cc, .nilIface], .slice A n cap, .tuple #[.slice Ac n cc, .nilIface], .slice Ac n cc, .nilIface, .nilIface, .bool false, undef, .slice Ac n cc, nv n, u, .slice Ac n cc, nv n, nv p, y24, y25, y26, y27, y28, y29, y30, y31, y32, y33, undef, undef, undef, undef, undef, undef, undef, undef, undef, undef, undef, undef, undef, undef, y48, y49, undef], defers := marks rs } ∧ p ≤ n ∧ MarksOk w3.heap.size rs wr ∧
      Own wr w1.heap.size u (zs (Odr.lof n (Odr.rpass c p))) ∧ wr.cell? ⟨w2.heap.size, 0, none⟩ = some u ∧ Tab wr ∧ w3.heap.size ≤ wr.heap.size ∧ Below w1.heap.size w1 wr) (fun a _ => n - (intOf (a.tmps.getD 23 undef)).toNat) ⟨0, [], _, _, _, _, _, _, _, _, _, _, _, _, _, _, rfl, Nat.zero_le _, MarksOk.nil _ _, hown3, hbox, htab, Nat.le_refl _, hb13⟩ ?_
  clear hown3 hbox htab hb13
  rintro a wr ⟨p, rs, y7, y8, y24, y25, y26, y27, y28, y29, y30, y31, y32, y33, y48, y49, rfl, hp, hmk, hown, hbox, htab, hsz, hb⟩
  by_cases hpn : p < n
  · gi_wp2_with fail
    refine wpIn_loop (fun a wr => ∃ (k : Nat) (rs : List Nat) (y7 y8 y24 y28 y29 y30 y31 y32 y33 y48 y49 : Value), a = { tmps := #[.slice A n cap, undef, .slice none 0 0, .nilIface, .slice Ac n cc, .nilIface, .pointer (some ⟨w2.heap.size, 0, none⟩), y7, y8, undef, .tuple #[.slice Ac n cc, .nilIface], .slice A n cap, .tuple #[.slice Ac n cc, .nilIface], .slice Ac n cc, .nilIface, .nilIface, .bool false, undef, .slice Ac n cc, nv n, u, .slice Ac n cc, nv n, nv p, y24, .slice Ac n cc, nv n, nv k, y28, y29, y30, y31, y32, y33, undef, undef, undef, undef, undef, undef, undef, undef, undef, undef, undef, undef, undef, undef, y48, y49, undef], defers := marks rs } ∧ k ≤ n ∧ MarksOk w3.heap.size rs wr ∧
        Own wr w1.heap.size u (zs (Odr.lof n (Odr.rrows c (Odr.rpass c p) k))) ∧ wr.cell? ⟨w2.heap.size, 0, none⟩ = some u ∧ Tab wr ∧ w3.heap.size ≤ wr.heap.size ∧ Below w1.heap.size w1 wr) (fun a _ => n - (intOf (a.tmps.getD 27 undef)).toNat) ⟨0, rs, _, _, _, _, _, _, _, _, _, _, _, rfl, Nat.zero_le _, hmk, hown, hbox, htab, hsz, hb⟩ ?_
    clear hmk hown hbox htab hsz hb
    rintro a wr ⟨k, rs, y7, y8, y24, y28, y29, y30, y31, y32, y33, y48, y49, rfl, hk, hmk, hown, hbox, htab, hsz, hb⟩
    by_cases hkn : k < n
    · obtain ⟨g4, o4, cap4, he4, gb4, gk⟩ := Ints.atN (Rd.below hc1.out hb) (k := k) (by rw [hcl]; exact hkn)
      rw [hcl] at he4
      injection he4 with e1 e2 e3
      subst e1 e3
      clear e2
      have hrow : c.getD k 0 < 4096 := fits12 (l := c) (by omega) (hcf.getD k)
      have hnext := Lib.hid (Odr.rpart_row (c := c) (i := k) hrow (Odr.rrows c (Odr.rpass c p) k))
      have hjr : ∀ j, (c.getD k 0).testBit j = true → Odr.rel c k j = true := fun j h => h
      have hjlt : ∀ j, (c.getD k 0).testBit j = true → j < n ∧ j ≠ k := by
        intro j hj
        have h1 := Odr.rel_lt_right (l := c) hcf (i := k) (j := j) hj
        refine ⟨by omega, fun e => ?_⟩
        subst e
        have h2 := HIRR.out j
        unfold Odr.rel at h2
        rw [hj] at h2; cases h2
      have HJ := Lib.hid hjlt
      have HJR := Lib.hid hjr
      clear hjlt hjr
      obtain ⟨s, hs⟩ : ∃ s, s = c.getD k 0 := ⟨_, rfl⟩
      rw [← hs] at gk hrow hnext HJ HJR
      clear hs
      obtain ⟨o, ho⟩ : ∃ o, o = Odr.rrows c (Odr.rpass c p) k := ⟨_, rfl⟩
      have hole : ∀ j, o j ≤ Odr.rk c j := by rw [ho]; exact Odr.rrows_le hlt.out (Odr.rpass_le hlt.out p) k
      have HOLE := Lib.hid hole
      have hfinal := Lib.hid (show Odr.rrow c k o = Odr.rrows c (Odr.rpass c p) (k + 1) by rw [ho]; rfl)
      rw [← ho] at hown hnext
      clear ho hole
      gi_wp2_with fail
      refine ⟨trivial, ?_⟩
      refine (callsIn_wide.2 (bits_make s _)).mono ?_
      rintro e wb ⟨rfl, hwb⟩
      obtain ⟨B7, hB7⟩ : ∃ B7, B7 = wr.heap.size := ⟨_, rfl⟩
      have hsb : wb.heap.size = wr.heap.size + 2 := by rw [← hwb]; simp
      have hbb : Below wr.heap.size wr wb := by rw [← hwb]; exact ((Below.refl _ wr).alloc (Nat.le_refl _) _).alloc (by simp) _
      have hc7 : wb.cell? ⟨B7, 0, none⟩ = some (nv k) := by rw [← hwb, hB7]; simp
      have hcb : wb.cell? ⟨B7 + 1, 0, none⟩ = some (nv s) := by rw [← hwb, hB7]; simp
      have hsz7 : (wr.alloc (Obj.cells #[Value.int IntKind.i64 ↑k] 3)).heap.size = B7 + 1 := by rw [hB7]; simp
      rw [hsz7, ← hB7]
      have hmkb := hmk.calls hbb
      have hownb := hown.kept hbb
      have hboxb := (hbb.cell (p := ⟨w2.heap.size, 0, none⟩) (by simp; omega)).trans hbox
      have htabb := htab.below hbb
      have hBb : Below w1.heap.size w1 wb := hb.trans (hbb.mono hb.size)
      have HB7 := Lib.hid hB7
      have HSB := Lib.hid hsb
      clear hwb hsz7 hmk hown hbox htab hb hB7 hsb
      gi_wp2_with fail
      refine wpIn_rangeFunc_ownF rfl (by omega) (gf := 75) (lb := #[.pointer (some ⟨B7 + 1, 0, none⟩)]) rfl trivial (enters_of Tryd.func75 (by kernel_rfl) rfl)
        (bits_stops 8 (by omega) (B7 + 1) w.heap.size s hrow wb htabb hg0 hcb) belowK_t (belowK_b (by have := HSB.out; omega)) (Below.refl _ _) (fun _ => rfl)
        (fun pre W => Own W w1.heap.size u (zs (Odr.lof n (Odr.rpart k (pre.map (·.1)) o))) ∧ W.cell? ⟨w2.heap.size, 0, none⟩ = some u ∧ W.cell? ⟨B7, 0, none⟩ = some (nv k) ∧ Tab W ∧ (MarksOk w3.heap.size rs W ∧ wb.heap.size ≤ W.heap.size) ∧ Below w1.heap.size w1 W)
        (fun _ _ _ => False)
        (OwnFrom.and (ownFrom_own _ _ _) (OwnFrom.and (ownFrom_cell1 _ _) (OwnFrom.and (ownFrom_cell1 _ _) (OwnFrom.and ownFrom_tab (OwnFrom.and (ownFrom_marks hmkb.lt) (ownFrom_below (Nat.le_refl _) (by have := HSB.out; omega)))))))
        (fun _ _ _ _ _ h _ _ => h) ⟨by rw [show ([] : List (El s)).map (·.1) = [] from rfl, Odr.rpart_nil]; exact hownb, hboxb, hc7, htabb, ⟨hmkb, Nat.le_refl _⟩, hBb⟩
        (fun x => { tmps := #[.slice A n cap, undef, .slice none 0 0, .nilIface, .slice (some ⟨g4, o4, none⟩) n cc, .nilIface, .pointer (some ⟨w2.heap.size, 0, none⟩), .pointer (some ⟨B7, 0, none⟩), nv s, nv x.1, .tuple #[.slice (some ⟨g4, o4, none⟩) n cc, .nilIface], .slice A n cap, .tuple #[.slice (some ⟨g4, o4, none⟩) n cc, .nilIface], .slice (some ⟨g4, o4, none⟩) n cc, .nilIface, .nilIface, .bool false, undef, .slice (some ⟨g4, o4, none⟩) n cc, nv n, u, .slice (some ⟨g4, o4, none⟩) n cc, nv n, nv p, y24, .slice (some ⟨g4, o4, none⟩) n cc, nv n, nv k, .bool true, nv k, .pointer (some ⟨g4, o4 + k, none⟩), nv s, nv s, .func (.func 75) #[] #[.pointer (some ⟨B7 + 1, 0, none⟩)], nv x.1, undef, undef, undef, undef, undef, undef, undef, undef, undef, undef, undef, undef, undef, y48, y49, undef], defers := [] }) ?assign ?body ?done ?stop
      case assign =>
        intro l x W K hK
        gi_wp2
        exact hK
      case body =>
        rintro l pre ⟨x, hx⟩ W ⟨i1, i3, i4, i5, i6, i7⟩ _
        obtain ⟨hxn, hxk⟩ := HJ.out x hx
        obtain ⟨gb, gl, gc, gf, gst⟩ := (HU.out ▸ i1 : Own W w1.heap.size (.slice (some ⟨w1.heap.size, 0, none⟩) n n) _).lit
        have gx := gc x (by rw [length_zs, Odr.length_lof]; exact hxn)
        rw [zs_getElem, Odr.getD_lof _ hxn] at gx
        have gk' := gc k (by rw [length_zs, Odr.length_lof]; exact hkn)
        rw [zs_getElem, Odr.getD_lof _ hkn] at gk'
        have gfx := gf x
        have hpk : k ∉ pre.map (·.1) := fun h => by
          obtain ⟨y, _, hy⟩ := List.mem_map.1 h
          exact (HJ.out y.1 y.2).2 hy
        have hpr : ∀ j ∈ pre.map (·.1), Odr.rel c k j = true := fun j h => by
          obtain ⟨y, _, hy⟩ := List.mem_map.1 h
          rw [← hy]; exact HJR.out y.1 y.2
        have hsn := Lib.hid (Odr.lof_set (n := n) (x := x) (Odr.rpart_snoc k (pre.map (·.1)) o x hxk hpk))
        have hz1 := Nat.le_trans (Odr.rpart_le hlt.out hpr HOLE.out x) (hle.out x)
        have hz2 := Nat.le_trans (Odr.rpart_le hlt.out hpr HOLE.out k) (hle.out k)
        rw [hcl] at hz1 hz2
        have HGST := Lib.hid gst
        have I4 := Lib.hid i4
        have I5 := Lib.hid i5
        have I6 := Lib.hid i6
        have I7 := Lib.hid i7
        rw [HU.out] at i3
        clear hpk hpr
        generalize Odr.rpart k (pre.map (·.1)) o x = z1 at *
        generalize Odr.rpart k (pre.map (·.1)) o k = z2 at *
        have hsum : IntKind.i64.wrap ((z2 : Int) + 1) = (z2 : Int) + 1 := IntWalk.i64_in _ (by constructor <;> omega)
        have hfin : ∀ t : Int, t = ((max z1 (z2 + 1) : Nat) : Int) → KeepsOthers W (W.setCell ⟨w1.heap.size, x, none⟩ (.int .i64 t)).drew ∧ Below w.heap.size W (W.setCell ⟨w1.heap.size, x, none⟩ (.int .i64 t)).drew ∧
            Own (W.setCell ⟨w1.heap.size, x, none⟩ (.int .i64 t)).drew w1.heap.size u (zs (Odr.lof n (Odr.rpart k ((pre ++ [(⟨x, hx⟩ : El s)]).map (·.1)) o))) ∧ (W.setCell ⟨w1.heap.size, x, none⟩ (.int .i64 t)).drew.cell? ⟨w2.heap.size, 0, none⟩ = some u ∧
            (W.setCell ⟨w1.heap.size, x, none⟩ (.int .i64 t)).drew.cell? ⟨B7, 0, none⟩ = some (nv k) ∧ Tab (W.setCell ⟨w1.heap.size, x, none⟩ (.int .i64 t)).drew ∧
            (MarksOk w3.heap.size rs (W.setCell ⟨w1.heap.size, x, none⟩ (.int .i64 t)).drew ∧ wb.heap.size ≤ (W.setCell ⟨w1.heap.size, x, none⟩ (.int .i64 t)).drew.heap.size) ∧ Below w1.heap.size w1 (W.setCell ⟨w1.heap.size, x, none⟩ (.int .i64 t)).drew := by
          intro t ht
          obtain ⟨W', hW'⟩ : ∃ W', (W.setCell ⟨w1.heap.size, x, none⟩ (.int .i64 t)).drew = W' := ⟨_, rfl⟩
          rw [hW']
          have f1 : KeepsOthers W W' := by rw [← hW']; exact (KeepsOthers.setCell _ _ _).trans (KeepsOthers.drew _)
          have f2 : Below w.heap.size W W' := by rw [← hW']; exact ((Below.refl w.heap.size W).setCell (p := ⟨w1.heap.size, x, none⟩) h1 _).drew
          have f3 : Own W' w1.heap.size u (zs (Odr.lof n (Odr.rpart k ((pre ++ [(⟨x, hx⟩ : El s)]).map (·.1)) o))) := by
            have h := HGST.out x t
            rw [ht, zs_set, ← hsn.out, ← HU.out] at h
            rw [← hW', ht]
            simpa using h.drew
          have f5 : W'.cell? ⟨w2.heap.size, 0, none⟩ = some u := by
            rw [← hW', HU.out]
            exact (cell_other _ _ _ (by simp; omega)).trans i3
          have f6 : W'.cell? ⟨B7, 0, none⟩ = some (nv k) := by
            rw [← hW']
            exact (cell_other _ _ _ (by have := HB7.out; simp; omega)).trans i4
          have f7 : Tab W' := I5.out.keep f2 hg0
          have f8 : MarksOk w3.heap.size rs W' ∧ wb.heap.size ≤ W'.heap.size := ⟨I6.out.1.others f1, Nat.le_trans I6.out.2 f1.size⟩
          have f9 : Below w1.heap.size w1 W' := by rw [← hW']; exact (I7.out.setCell (p := ⟨w1.heap.size, x, none⟩) (Nat.le_refl _) _).drew
          exact ⟨f1, f2, f3, f5, f6, f7, f8, f9⟩
        have HFIN := Lib.hid hfin
        clear gc gf gst i5 i6 i7 i1 hfin
        gi_wp2_with fail
        refine region_tail_round (k := 13) (by kernel_rfl) (by kernel_rfl) (by kernel_rfl) ?_
        simp only [List.take_succ_cons, List.take_zero, List.drop_succ_cons, List.drop_zero]
        repeat still_step
        refine wpStill_nil ?_
        go_wp2
        all_goals exact HFIN.out _ (by omega)
      case done =>
        rintro D xs W hD hxs ⟨i1, i3, i4, i5, ⟨i6, i8⟩, i7⟩ hK
        rw [hxs, hnext.out, hfinal.out] at i1
        have hDn : D ∉ rs := fun h => by have := hmkb.lt D h; omega
        have i6' : MarksOk w3.heap.size (D :: rs) W := i6.cons hK (by have := HSB.out; omega) hDn
        have hmarks : marks (D :: rs) = { target := .collected D, args := #[] } :: marks rs := rfl
        rw [← hmarks]
        have II := Lib.hid (And.intro i1 (And.intro i3 (And.intro i5 i7)))
        have HM := Lib.hid i6'
        have hszW : w3.heap.size ≤ W.heap.size := by have := HSB.out; omega
        clear i1 i3 i4 i5 i6 i7 i6' hK hmarks hDn hxs
        gi_wp2_with fail
        refine ⟨⟨k + 1, D :: rs, _, _, _, _, _, _, _, _, _, _, _, by go_num, by omega, HM.out, II.out.1, II.out.2.1, II.out.2.2.1, hszW, II.out.2.2.2⟩, ?_⟩
        simp [intOf]; omega
      case stop =>
        rintro D d pre W _ _ h _
        exact h.elim
    · obtain rfl : k = n := by omega
      have hown' : Own wr w1.heap.size u (zs (Odr.lof k (Odr.rpass c (p + 1)))) := by
        rw [show Odr.rpass c (p + 1) = Odr.rrows c (Odr.rpass c p) k by rw [Odr.rpass, hcl]]; exact hown
      have II := Lib.hid (And.intro hmk (And.intro hown' (And.intro hbox (And.intro htab (And.intro hsz hb)))))
      clear hmk hown hown' hbox htab hsz hb
      gi_wp2_with fail
      refine ⟨⟨p + 1, rs, _, _, _, _, _, _, _, _, _, _, _, _, _, _, by go_num, by omega, II.out.1, II.out.2.1, II.out.2.2.1, II.out.2.2.2.1, II.out.2.2.2.2.1, II.out.2.2.2.2.2⟩, ?_⟩
      simp [intOf]; omega
  · obtain rfl : p = n := by omega
    have hend : Odr.lof p (Odr.rpass c p) = Odr.lof p (Odr.rk c) := Odr.lof_congr fun j _ => by
      have := Odr.rpass_all hlt.out j
      rwa [hcl] at this
    rw [hend] at hown
    have HOWN := Lib.hid hown
    have HMK := Lib.hid hmk
    have HBB := Lib.hid (HB1.out.trans (hb.mono h1))
    have HSZ := Lib.hid (show w.heap.size ≤ w3.heap.size by omega)
    clear hown hend hmk hb htab hsz
    gi_wp2_with fail
    refine leaves_marks _ _ HMK.out fun w' hs => ?_
    exact ⟨_, results_tmp2 rfl _ _ _, u, rfl, (hs.own HOWN.out).lower h1, (hs.mono HSZ.out).below HBB.out⟩

end Go.Proofs.YtpicjikjinkkpaaDoor
