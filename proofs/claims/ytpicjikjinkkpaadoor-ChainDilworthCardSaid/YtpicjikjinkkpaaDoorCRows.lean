/- Contracts of chain.Rows: as few rows as can be. Conditions: each contract's own premises. -/
import Derived.Test.YtpicjikjinkkpaaDoorCFill
import Derived.Test.YtpicjikjinkkpaaDoorNearM
import Derived.Test.YtpicjikjinkkpaaDoorCMake
import Derived.Test.YtpicjikjinkkpaaDoorRanks
import Derived.Test.YtpicjikjinkkpaaDoorMany
import Derived.Test.YtpicjikjinkkpaaDoorMarks
import Derived.Test.YtpicjikjinkkpaaDoorOrder2
import Derived.Deep.RegionHeld3
import Derived.Deep.CutRange
namespace Go.Proofs.YtpicjikjinkkpaaDoor
open Go.RowKit Go.Shelf
attribute [local go_sem] Oper.semAt_some

theorem crows_err (l : List Int) (v : Value) (w : World) (hr : Ints w w.heap.size v l) (hne : orderCode l ≠ 0) :
    Calls Tryd.prog 42 #[v] w fun e w' => e = .returned (.tuple #[.slice none 0 0, .iface 56 (nv (orderCode l))]) ∧ Below w.heap.size w w' := by
  have hchk := Lib.hid (behind_err l v w hr hne)
  refine (callsIn_wide (n := 9)).1 ?_
  refine callsIn_of_wp_marks Tryd.func42 rfl trivial ?_ rfl
  simp only [Tryd.ntmps42, List.size_toArray, List.length_cons, List.length_nil, Nat.reduceAdd, Nat.reduceSub, Array.replicate_succ, Array.replicate_zero, List.push_toArray, List.append_toArray, List.nil_append, List.cons_append]
  gi_wp2_with fail
  refine ⟨trivial, ?_⟩
  refine (callsIn_wide.2 hchk.out).mono ?_
  rintro e w1 ⟨rfl, hb1⟩
  clear hchk hr
  gi_wp2_with fail
  exact ⟨_, results_tmp2 rfl _ _ _, rfl, hb1⟩
set_option maxRecDepth 20000 in
set_option maxHeartbeats 16000000 in
theorem crows_ok (m : List Nat) (v : Value) (w : World) (hr : Ints w w.heap.size v (zs m)) (hv : Odr.Valid m) (hT : Tab w) :
    Calls Tryd.prog 42 #[v] w fun e w' => ∃ v' r, Odr.fillOf (Odr.closed m) = some r ∧ e = .returned (.tuple #[v', .nilIface]) ∧ Ints w' w'.heap.size v' (zs r) ∧ Below w.heap.size w w' := by
  obtain ⟨r, hrr⟩ := Odr.rows_some hv
  have HRR := Lib.hid hrr
  have hchk := Lib.hid (behind_ok m v w hr hv)
  have hwid := Lib.hid fun (w5 : World) (h5 : Below w.heap.size w w5) => widest_ok m v w5 ((Rd.below hr h5).more h5.size) hv (hT.below h5)
  have hfew := hv.few
  have HT := Lib.hid hT
  obtain ⟨A, cap, rfl⟩ := Rd.val hr
  have hlz : (zs m).length = m.length := by simp
  rw [hlz] at hr hchk hwid ⊢
  have hcl : (Odr.closed m).length = m.length := Odr.length_closed m
  have HCF := Lib.hid (show Odr.Fits (Odr.closed m) from hv.fits.closed)
  clear hr hT hv hrr
  generalize Odr.closed m = c at *
  generalize m.length = n at *
  have hw12 : Odr.widest c < 4096 := Nat.lt_of_lt_of_le (Odr.widest_lt c) (by rw [hcl]; exact Nat.le_trans (Nat.pow_le_pow_right (by omega) hfew) (by decide))
  have hmany := Lib.hid fun w5 : World => many_calls (Odr.widest c) w5 hw12
  have HMO := Lib.hid (show Odr.mostOf c = Odr.pop 12 (Odr.widest c) from rfl)
  have HM12 := Lib.hid (show Odr.pop 12 (Odr.widest c) ≤ 12 from Odr.cnt_le 12 _)
  generalize Odr.pop 12 (Odr.widest c) = most at *
  generalize Odr.widest c = wid at *
  refine (callsIn_wide (n := 9)).1 ?_
  refine callsIn_of_wp_marks Tryd.func42 rfl trivial ?_ rfl
  simp only [Tryd.ntmps42, List.size_toArray, List.length_cons, List.length_nil, Nat.reduceAdd, Nat.reduceSub, Array.replicate_succ, Array.replicate_zero, List.push_toArray, List.append_toArray, List.nil_append, List.cons_append]
  gi_wp2_with fail
  refine ⟨trivial, ?_⟩
  refine (callsIn_wide.2 hchk.out).mono ?_
  rintro e w1 ⟨v1, rfl, hown1, hb1⟩
  have HB1 := Lib.hid hb1
  have HWI := Lib.hid (hwid.out w1 hb1)
  obtain ⟨Ac, cc, rfl⟩ := Rd.val hown1.ints
  rw [length_zs, hcl] at hown1 ⊢
  clear hchk hwid hb1
  gi_wp2_with fail
  refine ⟨trivial, ?_⟩
  refine (callsIn_wide.2 HWI.out).mono ?_
  rintro e w2 ⟨rfl, hb2⟩
  have HB2 := Lib.hid (HB1.out.trans (hb2.mono HB1.out.size))
  have HO2 := Lib.hid (hown1.kept hb2)
  clear HWI hown1 hb2
  gi_wp2_with fail
  obtain ⟨ZN, hmk, hzo⟩ := run_makeN n (by omega)
  refine wpIn_wide.2 ?_
  have HZ := Lib.hid (show Made ZN n from hzo)
  clear hzo
  have HSZ : ∀ o1 o2 o3 : Obj, w2.heap.size + 1 + 1 + 1 ≤ (((w2.alloc o1).alloc o2).alloc o3).drew.heap.size := fun o1 o2 o3 => by
    show _ ≤ (((w2.alloc o1).alloc o2).alloc o3).heap.size
    simp
  have HBL : ∀ o1 o2 o3 : Obj, Below w2.heap.size w2 (((w2.alloc o1).alloc o2).alloc o3).drew := fun o1 o2 o3 => ((((Below.refl _ _).alloc (Nat.le_refl _) _).alloc (by simp) _).alloc (by simp; omega) _).drew
  have HLL := Lib.hid (And.intro HSZ HBL)
  clear HSZ HBL
  go_cut [7] from 27 to 35 (fun s7 wX => ∃ gn go B : Nat, s7 = .pointer (some ⟨B, 0, none⟩) ∧ Hid (CovAt wX B gn go (w2.heap.size + 1 + 1 + 1) n (List.replicate n 0) (.slice none 0 0) most [] (List.replicate n 0)) ∧ Hid (Below w2.heap.size w2 wX ∧ w2.heap.size ≤ gn ∧ w2.heap.size ≤ go ∧ w2.heap.size ≤ B))
  case first =>
    refine wp_region_noPanic ?_
    go_region_with (go_at_call 66; (with_reducible refine (hmany.out _).mono ?_); rintro e w9 ⟨rfl, rfl⟩)
    all_goals
      refine NoPanic.normal ?_
      go_wp2_with fail
      go_meet
      with_reducible (first | refine cov_ex (cov3 _ _ _ _) ?_ ?_ ?_ (HLL.out.1 _ _ _) (HLL.out.2 _ _ _) ?_ | refine cov_ex (cov2 _ _ _ _) ?_ ?_ ?_ (HLL.out.1 _ _ _) (HLL.out.2 _ _ _) ?_ | refine cov_ex (cov1 _ _ _ _) ?_ ?_ ?_ (HLL.out.1 _ _ _) (HLL.out.2 _ _ _) ?_)
      · with_reducible (first | exact made1 HZ.out _ _ | exact made2 HZ.out _ _ | exact made3 HZ.out _ _)
      · with_reducible (first | exact made1 HZ.out _ _ | exact made2 HZ.out _ _ | exact made3 HZ.out _ _)
      · clear HLL HZ hmany; omega
      · clear HLL HZ hmany; omega
  case rest =>
    rename_i K hK
    have HK := Lib.hid hK
    clear hK
    obtain ⟨gn, go, B, rfl, HC0, HX0⟩ := hcut
    clear hmk HZ HLL hmany hw12
    have HBW := Lib.hid (HB2.out.trans (HX0.out.1.mono HB2.out.size))
    have HOC := Lib.hid (HO2.out.kept (HX0.out.1))
    have hoff : ∀ k, (Value.slice Ac n cc).ownBlock = some k → ¬ k = gn := fun k hk e => by
      have := (row_lt HO2.out k hk).2
      have := HX0.out.2.1
      omega
    have HOFF := Lib.hid hoff
    have hws : w.heap.size ≤ w2.heap.size := HB2.out.size
    have hgw : w2.heap.size ≤ gn := HX0.out.2.1
    have hgc : gn < wc.heap.size := Nat.lt_of_lt_of_le HC0.out.ltn HC0.out.lw
    have hBc : B < wc.heap.size := Nat.lt_of_lt_of_le HC0.out.ltB HC0.out.lw
    have hBn : gn ≠ B := HC0.out.nn
    have hlc : w2.heap.size + 1 + 1 + 1 ≤ wc.heap.size := HC0.out.lw
    have hgt : 2 < w.heap.size := HT.out.lt
    clear hoff HB1 HB2 HO2
    refine HK.out _ _ ?_
    clear HK
    gi_wp2_with fail
    refine wpIn_loop (fun a wr => ∃ (k : Nat) (rs : List Nat) (y8 y9 y39 y40 y41 y42 y43 y44 y45 y46 y47 y48 y49 y50 y51 y52 y63 : Value), a = { tmps := #[.slice A n cap, undef, .slice none 0 0, .nilIface, .slice Ac n cc, .nilIface, nv wid, .pointer (some ⟨B, 0, none⟩), y8, y9, undef, .tuple #[.slice Ac n cc, .nilIface], .slice A n cap, .tuple #[.slice Ac n cc, .nilIface], .slice Ac n cc, .nilIface, .nilIface, .bool false, undef, .tuple #[nv wid, .nilIface], .slice A n cap, .tuple #[nv wid, .nilIface], nv wid, .nilIface, .nilIface, .bool false, undef, u27, u28, u29, u30, u31, u32, u33, u34, u35, .slice Ac n cc, nv n, nv k, y39, y40, y41, y42, y43, y44, y45, y46, y47, y48, y49, y50, y51, y52, undef, undef, undef, undef, undef, undef, undef, undef, undef, undef, y63, undef, undef, undef], defers := marks rs } ∧ k ≤ n ∧ MarksOk wc.heap.size rs wr ∧ CovAt wr B gn go (w2.heap.size + 1 + 1 + 1) n (Odr.nl c k k []) (.slice none 0 0) most [] (List.replicate n 0) ∧ Only (fun j => j = gn) wc wr) (fun a _ => n - (intOf (a.tmps.getD 38 undef)).toNat) ⟨0, [], _, _, _, _, _, _, _, _, _, _, _, _, _, _, _, _, _, rfl, Nat.zero_le _, MarksOk.nil _ _, by rw [Odr.nl_zero, hcl]; exact HC0.out, Only.refl _ _⟩ ?_
    rintro a wr ⟨k, rs, y8, y9, y39, y40, y41, y42, y43, y44, y45, y46, y47, y48, y49, y50, y51, y52, y63, rfl, hk, hmk, hcov, honly⟩
    have hbw : Below w.heap.size w wr := HBW.out.trans (honly.below HBW.out.size (fun j (e : j = gn) => by omega))
    have hszr : wc.heap.size ≤ wr.heap.size := honly.size
    have hown4 := HOC.out.only honly (fun j hj => HOFF.out j hj)
    by_cases hkm : k < n
    · obtain ⟨g4, cap4, he4, gb4, gs4, _, gc4, gf4, -⟩ := Own.shape hown4 (by rw [length_zs]; omega)
      rw [length_zs, hcl] at he4
      cases he4
      have gk := gc4 k (by rw [length_zs]; omega)
      rw [zs_getElem] at gk
      have hrow : c.getD k 0 < 4096 := Nat.lt_of_lt_of_le (HCF.out.getD k) (by rw [hcl]; exact Nat.le_trans (Nat.pow_le_pow_right (by omega) hfew) (by decide))
      have hnext := Lib.hid (Odr.nl_next (a := k + 1) (k := k) hrow)
      have HNR := Lib.hid (Odr.nl_row HCF.out (k := k) (by omega))
      have hjlt : ∀ j, (c.getD k 0).testBit j = true → j < n := by
        intro j hj
        have := Odr.rel_lt_right (l := c) HCF.out (i := k) (j := j) hj
        omega
      have HJ := Lib.hid hjlt
      have hnk := Odr.nl_lt c k k k []
      have hn0 := hcov.nearAt (k := k) (by simp; omega)
      have hnf := hcov.near.lit.2.2.2.1 k
      have hc0 := hcov.c0
      clear gc4 gf4 hjlt
      have hz16 : (Odr.nl c k k []).getD k 0 < 2 ^ 13 := Nat.lt_of_lt_of_le hnk (by rw [hcl]; exact Nat.pow_le_pow_right (by omega) (by omega))
      obtain ⟨s, hs⟩ : ∃ s, s = c.getD k 0 := ⟨_, rfl⟩
      rw [← hs] at gk hrow hnext HJ HNR
      have HS := Lib.hid hs
      obtain ⟨z, hz⟩ : ∃ z, z = (Odr.nl c k k []).getD k 0 := ⟨_, rfl⟩
      rw [← hz] at hn0 HNR hz16
      have hzz := hz
      clear hs hz hnk
      have hbo := bits_or z s (by omega) (by omega)
      have A0 : (wr.alloc (.cells #[nv k] 3)).cell? ⟨B, 0, none⟩ = some (sl0 gn n) := (hcov.alloc _).c0
      have An : (wr.alloc (.cells #[nv k] 3)).cell? ⟨gn, k, none⟩ = some (nv z) := by
        have := (hcov.alloc (.cells #[nv k] 3)).nearAt (k := k) (by simp; omega)
        rw [← hzz] at this
        exact this
      have Af : (wr.alloc (.cells #[nv k] 3)).frozen? ⟨gn, k, none⟩ = false := (hcov.alloc _).near.lit.2.2.2.1 k
      clear hn0 hnf hc0 hzz
      have HCV := Lib.hid hcov
      have HMK := Lib.hid hmk
      have HON := Lib.hid honly
      have HBR := Lib.hid hbw
      have HO4 := Lib.hid hown4
      have gnk : gn < wr.heap.size := by omega
      have gBk : B < wr.heap.size := by omega
      clear hcov hmk honly hbw hown4
      gi_wp2_with fail
      refine ⟨trivial, ?_⟩
      refine (callsIn_wide.2 (bits_make s _)).mono ?_
      rintro e wb ⟨rfl, hwb⟩
      obtain ⟨B6, hB6⟩ : ∃ B6, B6 = wr.heap.size := ⟨_, rfl⟩
      have hsz6 : ((wr.setCell ⟨gn, k, none⟩ (.int .i64 ((z ||| s : Nat) : Int))).alloc (Obj.cells #[Value.int IntKind.i64 ↑k] 3)).heap.size = B6 + 1 := by rw [hB6]; simp
      have hsb : wb.heap.size = B6 + 2 := by rw [← hwb, hB6]; simp
      have key : ∀ wz : World, ((wz.alloc (.cells #[nv k] 3)).alloc (.cells #[nv s] 3)).cell? ⟨wz.heap.size, 0, none⟩ = some (nv k) ∧ ((wz.alloc (.cells #[nv k] 3)).alloc (.cells #[nv s] 3)).cell? ⟨wz.heap.size + 1, 0, none⟩ = some (nv s) := fun wz => ⟨by simp, by simp⟩
      have key2 := key (wr.setCell ⟨gn, k, none⟩ (.int .i64 ((z ||| s : Nat) : Int)))
      rw [hwb, World.size_setCell, ← hB6] at key2
      obtain ⟨hc6, hcb⟩ := key2
      clear key
      have hcovb : CovAt wb B gn go (w2.heap.size + 1 + 1 + 1) n (Odr.nl c (k + 1) k []) (.slice none 0 0) most [] (List.replicate n 0) := by
        rw [← hwb, HNR.out]
        exact ((HCV.out.setNear k (z ||| s)).alloc _).alloc _
      have honlyb : Only (fun j => j = gn) wc wb := by
        rw [← hwb]
        exact ((HON.out.setCell (p := ⟨gn, k, none⟩) (.inl rfl) _).alloc _).alloc _
      have hmkb : MarksOk wc.heap.size rs wb := HMK.out.only (S := fun j => j = gn) (by
        rw [← hwb]
        exact (((Only.refl (fun j => j = gn) wr).setCell (p := ⟨gn, k, none⟩) (.inl rfl) _).alloc _).alloc _) (fun j (e : j = gn) => by omega)
      have hbwb : Below w.heap.size w wb := HBW.out.trans (honlyb.below HBW.out.size (fun j (e : j = gn) => by omega))
      have htabb := HT.out.below hbwb
      have HB6 := Lib.hid hB6
      rw [hsz6, ← hB6]
      have hg6 : gn < B6 := by omega
      have hw6 : wc.heap.size ≤ B6 := by omega
      have hww6 : w.heap.size ≤ B6 := by have := HBW.out.size; omega
      clear hwb hsz6 HCV HNR HMK HON HBR HO4 A0 An Af gnk gBk hB6
      gi_wp2_with fail
      refine wpIn_rangeFunc_ownF rfl (by omega) (gf := 75) (lb := #[.pointer (some ⟨B6 + 1, 0, none⟩)]) rfl trivial (enters_of Tryd.func75 (by kernel_rfl) rfl)
        (bits_stops 8 (by omega) (B6 + 1) w.heap.size s hrow wb htabb hgt hcb) belowK_t (belowK_b (by omega)) (Below.refl _ _) (fun _ => rfl)
        (fun pre W => CovAt W B gn go (w2.heap.size + 1 + 1 + 1) n (Odr.nl c (k + 1) k (pre.map (·.1))) (.slice none 0 0) most [] (List.replicate n 0) ∧ W.cell? ⟨B6, 0, none⟩ = some (nv k) ∧ (MarksOk wc.heap.size rs W ∧ wb.heap.size ≤ W.heap.size) ∧ Only (fun j => j = gn) wc W)
        (fun _ _ _ => False)
        (OwnFrom.and (ownFrom_cov _ _ _ _ _) (OwnFrom.and (ownFrom_cell1 _ _) (OwnFrom.and (ownFrom_marks hmkb.lt) (ownFrom_onlyC (by omega)))))
        (fun _ _ _ _ _ h _ _ => h) ⟨hcovb, hc6, ⟨hmkb, Nat.le_refl _⟩, honlyb⟩
        (fun x => { tmps := #[.slice A n cap, undef, .slice none 0 0, .nilIface, .slice (some ⟨g4, 0, none⟩) n cc, .nilIface, nv wid, .pointer (some ⟨B, 0, none⟩), .pointer (some ⟨B6, 0, none⟩), nv s, nv x.1, .tuple #[.slice (some ⟨g4, 0, none⟩) n cc, .nilIface], .slice A n cap, .tuple #[.slice (some ⟨g4, 0, none⟩) n cc, .nilIface], .slice (some ⟨g4, 0, none⟩) n cc, .nilIface, .nilIface, .bool false, undef, .tuple #[nv wid, .nilIface], .slice A n cap, .tuple #[nv wid, .nilIface], nv wid, .nilIface, .nilIface, .bool false, undef, u27, u28, u29, u30, u31, u32, u33, u34, u35, .slice (some ⟨g4, 0, none⟩) n cc, nv n, nv k, .bool true, nv k, .pointer (some ⟨g4, k, none⟩), nv s, .pointer (some ⟨B, 0, none⟩), sl0 gn n, nv k, .pointer (some ⟨gn, k, none⟩), nv z, nv s, nv (z ||| s), .pointer (some ⟨gn, k, none⟩), nv s, .func (.func 75) #[] #[.pointer (some ⟨B6 + 1, 0, none⟩)], nv x.1, undef, undef, undef, undef, undef, undef, undef, undef, undef, y63, undef, undef, undef], defers := [] }) ?assign ?body ?done ?stop
      case assign =>
        intro l x W K hK
        gi_wp2
        exact hK
      case body =>
        rintro l pre ⟨x, hx⟩ W ⟨i1, i2, ⟨i3, i5⟩, i4⟩ _
        have hxm := HJ.out x hx
        have gx := i1.nearAt (k := x) (by simp; omega)
        have gfx := i1.near.lit.2.2.2.1 x
        have hc0 := i1.c0
        have hsn := Lib.hid (Odr.nl_snoc (c := c) (a := k + 1) (k := k) (x := x) (js := pre.map (·.1)) (by omega) (by omega))
        have hx16 : (Odr.nl c (k + 1) k (pre.map (·.1))).getD x 0 < 2 ^ 13 := Nat.lt_of_lt_of_le (Odr.nl_lt _ _ _ _ _) (by rw [hcl]; exact Nat.pow_le_pow_right (by omega) (by omega))
        have I1 := Lib.hid i1
        have I3 := Lib.hid i3
        have I4 := Lib.hid i4
        clear i1 i3 i4
        obtain ⟨z2, hz2⟩ : ∃ z2, z2 = (Odr.nl c (k + 1) k (pre.map (·.1))).getD x 0 := ⟨_, rfl⟩
        rw [← hz2] at gx hsn hx16
        clear hz2
        have hwk : IntKind.i64.wrap (2 ^ k) = ((2 ^ k : Nat) : Int) := by
          have h1 : 2 ^ k < 2 ^ 62 := Nat.pow_lt_pow_right (by omega) (by omega)
          rw [show (2 : Int) ^ k = ((2 ^ k : Nat) : Int) by rw [Int.natCast_pow]; rfl]
          generalize 2 ^ k = y at h1 ⊢
          exact IntWalk.i64_in _ (by constructor <;> omega)
        obtain ⟨W', hW'⟩ : ∃ W', (W.setCell ⟨gn, x, none⟩ (.int .i64 (bits .or .i64 (z2 : Int) (IntKind.i64.wrap (2 ^ k))))).drew = W' := ⟨_, rfl⟩
        have f1 : KeepsOthers W W' := by rw [← hW']; exact (KeepsOthers.setCell _ _ _).trans (KeepsOthers.drew _)
        have f2 : Below w.heap.size W W' := by rw [← hW']; exact ((Below.refl w.heap.size W).setCell (p := ⟨gn, x, none⟩) (by show w.heap.size ≤ gn; omega) _).drew
        have f3 : CovAt W' B gn go (w2.heap.size + 1 + 1 + 1) n (Odr.nl c (k + 1) k ((pre ++ [(⟨x, hx⟩ : El s)]).map (·.1))) (.slice none 0 0) most [] (List.replicate n 0) := by
          have h : CovAt (W.setCell ⟨gn, x, none⟩ (.int .i64 ((z2 ||| 2 ^ k : Nat) : Int))).drew B gn go (w2.heap.size + 1 + 1 + 1) n ((Odr.nl c (k + 1) k (pre.map (·.1))).set x (z2 ||| 2 ^ k)) (.slice none 0 0) most [] (List.replicate n 0) := (I1.out.setNear x (z2 ||| 2 ^ k)).drewN 1
          rw [← hsn.out] at h
          rw [← hW', hwk, bits_or z2 (2 ^ k) (by omega) (Nat.pow_lt_pow_right (by omega) (by omega))]
          simpa using h
        have f4 : W'.cell? ⟨B6, 0, none⟩ = some (nv k) := by
          rw [← hW']
          exact (cell_other _ _ _ (by simp; omega)).trans i2
        have f5 : Only (fun j => j = gn) wc W' := by
          rw [← hW']
          exact (I4.out.setCell (p := ⟨gn, x, none⟩) (.inl rfl) _).drew
        have f8 : MarksOk wc.heap.size rs W' ∧ wb.heap.size ≤ W'.heap.size := ⟨I3.out.others f1, Nat.le_trans i5 f1.size⟩
        have FIN := Lib.hid (And.intro f1 (And.intro f2 (And.intro f3 (And.intro f4 (And.intro f8 f5)))))
        rw [← hW'] at FIN
        clear hW' f1 f2 f3 f4 f5 f8 hwk I1 I3 I4
        gi_wp2_with fail
        gi_region
        all_goals gi_wp2_with fail
        all_goals exact FIN.out
      case done =>
        rintro D xs W hD hxs ⟨i1, i2, ⟨i3, i5⟩, i4⟩ hK
        rw [hxs, hnext.out] at i1
        have hDn : D ∉ rs := fun h => by have := hmkb.lt D h; omega
        have i3' : MarksOk wc.heap.size (D :: rs) W := i3.cons hK (by omega) hDn
        have hmarks : marks (D :: rs) = { target := .collected D, args := #[] } :: marks rs := rfl
        rw [← hmarks]
        have II := Lib.hid (And.intro i1 i4)
        have HM := Lib.hid i3'
        clear i1 i2 i3 i4 i5 i3' hK hmarks hDn hxs
        gi_wp2_with fail
        refine ⟨⟨k + 1, D :: rs, _, _, _, _, _, _, _, _, _, _, _, _, _, _, _, _, _, by go_num, by omega, HM.out, II.out.1, II.out.2⟩, ?_⟩
        simp [intOf]; omega
      case stop =>
        rintro D c' pre W _ _ h _
        exact h.elim
    · obtain rfl : k = n := by omega
      clear hkm
      have hnn : Odr.nl c k k [] = Odr.nearOf c := by rw [← hcl]; exact Odr.nl_all c
      rw [hnn] at hcov
      have hfil := Lib.hid (fill_ok B gn go (w2.heap.size + 1 + 1 + 1) k (Odr.nearOf c) most hfew HM12.out (by simp [hcl]) (fun j => Nat.lt_of_lt_of_le (Odr.nearOf_lt c j) (Nat.pow_le_pow_right (by omega) (by omega))) k 0 [] (List.replicate k 0) (.slice none 0 0) wr (by omega) (Nat.zero_le _) (fun j => by simp) (by simp) hcov)
      have hfe : Dil.fill (Odr.nearOf c) most k 0 [] = some r := by
        have := HRR.out
        unfold Odr.fillOf at this
        rw [HMO.out, hcl] at this
        exact this
      rw [hfe] at hfil
      clear hcov hfe
      have HON := Lib.hid honly
      have HMK := Lib.hid hmk
      have HBR := Lib.hid hbw
      clear honly hmk hbw hown4
      gi_wp2_with fail
      refine ⟨trivial, ?_⟩
      refine (callsIn_wide.2 hfil.out).mono ?_
      rintro e w5 ⟨rfl, rv5, rows5, out5, hc5, hl5, ho5, -, hr5, -⟩
      have hout := hr5 r rfl
      rw [List.take_zero, List.nil_append] at hout
      subst hout
      have hc2 := hc5.c2
      have HOUT := Lib.hid hc5.out
      have hm5 : MarksOk wc.heap.size rs w5 := HMK.out.only ho5 (fun j hj => by
        rcases hj with e | e | e
        · omega
        · have h1 := HC0.out.lto
          have h2 := HC0.out.lw
          omega
        · cases e)
      have hb5 : Below w.heap.size w w5 := HBR.out.trans (ho5.below HBR.out.size (fun j hj => by
        rcases hj with e | e | e
        · have := HX0.out.2.2.2; omega
        · have := HX0.out.2.2.1; omega
        · cases e))
      have HM5 := Lib.hid hm5
      have HB5 := Lib.hid hb5
      have HR5 := Lib.hid HRR.out
      clear hfil hc5 ho5 hr5 hm5 hb5
      gi_wp2_with fail
      refine leaves_marks _ _ HM5.out fun w' hs => ?_
      exact ⟨_, results_tmp2 rfl _ _ _, _, _, HR5.out, rfl, (hs.own HOUT.out).ints, (hs.mono HBW.out.size).below HB5.out⟩
end Go.Proofs.YtpicjikjinkkpaaDoor
