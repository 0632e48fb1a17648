/- Contract of view.Edges. Conditions: the contract's own premises. (Printed by wip/gen/vcommit.py.) -/
import Derived.Test.YtkindaadadggoaaDoorVTwo
namespace Go.Proofs.YtkindaadadggoaaDoor
open Go.RowKit Go.Shelf
attribute [local go_sem] Oper.semAt_some

set_option maxRecDepth 20000 in
set_option maxHeartbeats 4000000 in
theorem vedges_calls (v : Vw.V) (b : Nat) (vs : Nat → Value) (w : World) (h : StAt w b v vs) (hI : Vw.Inv v) (hT : Tab w) :
    Calls Tryd.prog 56 #[.pointer (some ⟨b, 0, none⟩)] w fun e w' => ∃ v1 v2, e = .returned (.tuple #[v1, v2]) ∧ Own w' w.heap.size v1 (zs (Vw.ed v).1) ∧ Own w' w.heap.size v2 (zs (Vw.ed v).2) ∧ Below w.heap.size w w' := by
  refine (callsIn_wide (n := 9)).1 ?_
  refine callsIn_of_wp_marks Tryd.func56 rfl trivial ?_ rfl
  simp only [Tryd.ntmps56, List.size_toArray, List.length_cons, List.length_nil, Nat.reduceAdd, Nat.reduceSub, Array.replicate_succ, Array.replicate_zero, List.push_toArray, List.append_toArray, List.nil_append, List.cons_append]
  gi_wp2_with fail
  obtain ⟨w1, hw1, z1, b1, k1, -⟩ := boxedV w (.pointer (some ⟨b, 0, none⟩)) 44
  obtain ⟨w2, hw2, z2, b2, k2, f1⟩ := boxedV w1 (.slice none 0 0) 26
  obtain ⟨W3, hw3, z3, b3, k3, f2⟩ := boxedV w2 (.slice none 0 0) 26
  rw [hw1, hw2, hw3]
  have hb3 : Below w.heap.size w W3 := (b1.trans (b2.mono (by omega))).trans (b3.mono (by omega))
  have hs3 : W3.heap.size = w.heap.size + 1 + 1 + 1 := by omega
  have c0 : W3.cell? ⟨w.heap.size, 0, none⟩ = some (.pointer (some ⟨b, 0, none⟩)) := ((b2.trans (b3.mono (by omega))).cell (p := ⟨w.heap.size, 0, none⟩) (by simp; omega)).trans k1
  have c1 : W3.cell? ⟨w.heap.size + 1, 0, none⟩ = some (.slice none 0 0) := by
    rw [z1] at k2
    exact (b3.cell (p := ⟨w.heap.size + 1, 0, none⟩) (by simp; omega)).trans k2
  have g1 : W3.frozen? ⟨w.heap.size + 1, 0, none⟩ = false := by
    rw [z1] at f1
    exact (b3.frozen (p := ⟨w.heap.size + 1, 0, none⟩) (by simp; omega)).trans f1
  have c2 : W3.cell? ⟨w.heap.size + 1 + 1, 0, none⟩ = some (.slice none 0 0) := by
    rw [z2, z1] at k3
    exact k3
  rw [z2, z1] at f2
  clear hw1 hw2 hw3 z1 z2 z3 b1 b2 b3 k1 k2 k3 f1
  obtain ⟨B, hB⟩ : ∃ B, B = w.heap.size := ⟨_, rfl⟩
  rw [← hB] at c0 c1 c2 g1 f2 hs3 ⊢
  have HBw := Lib.hid hB
  clear hB
  have hmk := run_make5
  refine wpIn_wide.2 ?_
  refine wp_mono (Q := fun e a' W' => e = .normal ∧ ∃ g1 g2 : Nat, a' = { tmps := #[.pointer (some ⟨b, 0, none⟩), .pointer (some ⟨B, 0, none⟩), .pointer (some ⟨B + 1, 0, none⟩), .pointer (some ⟨B + 1 + 1, 0, none⟩), undef, undef, undef, undef, undef, undef, undef, undef, undef, .slice (some ⟨g1, 0, none⟩) 5 5, .slice (some ⟨g2, 0, none⟩) 5 5, undef, undef, undef, undef, undef, undef, undef, undef, undef, undef, undef, undef, undef, undef, undef, undef, undef, undef, undef, undef, undef, undef, undef, undef, undef, undef, undef, undef, undef, undef, undef, undef, undef, undef, undef, undef, undef, undef, undef, undef, undef, undef, undef, undef, undef, undef, undef, undef, undef, undef, undef, undef, undef, undef, undef, undef, undef, undef, undef, undef, undef, undef, undef, undef, undef, undef, undef, undef, undef, undef, undef, undef, undef, undef, undef, undef, undef, undef, undef, undef, undef, undef, undef, undef, undef, undef, undef, undef, undef, undef, undef, undef, undef, undef, undef, undef, undef, undef, undef, undef, undef, undef, undef, undef, undef, undef, undef, undef, undef, undef, undef, undef, undef, undef], defers := [] } ∧ Two B b w W' g1 g2 [0, 0, 0, 0, 0] [0, 0, 0, 0, 0]) ?_ (fun e a' W' hh => ?_)
  · go_region
    all_goals refine ⟨rfl, _, _, rfl, ?_⟩
    · exact two_laid hs3 (by rw [HBw.out]; exact hb3) c0 c1 g1 c2 f2 (.inl ⟨rfl, rfl⟩)
    · exact two_laid hs3 (by rw [HBw.out]; exact hb3) c0 c1 g1 c2 f2 (.inr ⟨rfl, rfl⟩)
  clear c0 c1 c2 g1 f2 hs3 hb3 hmk W3
  obtain ⟨rfl, g1, g2, rfl, h2⟩ := hh
  rename_i W4 _
  have hst := h.below (by have := h2.bw; rwa [HBw.out] at this)
  have HCM := Lib.hid (show ∀ w5, StAt w5 b v vs → Calls Tryd.prog 30 #[.pointer (some ⟨b, 0, none⟩)] w5 fun e w' => e = .returned (nv (Vw.com v)) ∧ Below w5.heap.size w5 w' from fun w5 h5 => vcommitted_calls v b vs w5 h5)
  have HS := Lib.hid h
  have HT := Lib.hid hT
  have c0 := h2.c0
  have H2 := Lib.hid h2
  clear h2 h hT
  gi_wp2_with fail
  refine ⟨trivial, ?_⟩
  refine (callsIn_wide.2 (HCM.out _ hst)).mono ?_
  rintro e W5 ⟨rfl, hb5⟩
  have h5 := H2.out.below hb5
  have hst5 := hst.below hb5
  have c0 := h5.c0
  have v0 : W5.cell? ⟨b, 46, none⟩ = some (vs 0) := hst5.ver (i := 0) (by decide)
  have v1 : W5.cell? ⟨b, 47, none⟩ = some (vs 1) := hst5.ver (i := 1) (by decide)
  have v2 : W5.cell? ⟨b, 48, none⟩ = some (vs 2) := hst5.ver (i := 2) (by decide)
  have v3 : W5.cell? ⟨b, 49, none⟩ = some (vs 3) := hst5.ver (i := 3) (by decide)
  have H5 := Lib.hid h5
  clear hb5 H2 HCM h5 hst5 hst
  have HI := Lib.hid hI
  have HC := Lib.hid (show Vw.com v < 32 from Vw.comTo_lt v 5)
  have HMC := Lib.hid (show bitsOf (Vw.com v) = Vw.committed v from mem_com)
  obtain ⟨cm, hcm⟩ : ∃ cm, cm = Vw.com v := ⟨_, rfl⟩
  rw [← hcm] at HC HMC ⊢
  clear hcm hI
  gi_wp2_with fail
  clear c0 v0 v1 v2 v3
  have HRI := Lib.hid fun (m : Nat) (hm : m < 4) (w5 : World) => run_veridx vs m hm w5
  obtain ⟨A, hA⟩ : ∃ A, A = Value.agg #[vs 0, vs 1, vs 2, vs 3] := ⟨_, rfl⟩
  rw [← hA] at HRI ⊢
  clear hA
  refine wpIn_loop (fun a W => ∃ (m : Nat) (rs : List Nat) (y5 y6 y7 y8 y22 y23 y24 y25 y26 y27 y28 y29 y30 y31 y32 y33 y34 y35 y36 y37 y38 y39 y40 y41 y42 y43 y44 y45 y46 y47 y48 y49 y50 y51 y52 y126 : Value), a = { tmps := #[.pointer (some ⟨b, 0, none⟩), .pointer (some ⟨B, 0, none⟩), .pointer (some ⟨B + 1, 0, none⟩), .pointer (some ⟨B + 1 + 1, 0, none⟩), nv cm, y5, y6, y7, y8, undef, undef, undef, undef, .slice (some ⟨g1, 0, none⟩) 5 5, .slice (some ⟨g2, 0, none⟩) 5 5, .pointer (some ⟨b, 0, none⟩), nv cm, .pointer (some ⟨b, 0, none⟩), .pointer (some ⟨b, 0, none⟩), .pointer (some ⟨b, 46, none⟩), A, nv m, y22, y23, y24, y25, y26, y27, y28, y29, y30, y31, y32, y33, y34, y35, y36, y37, y38, y39, y40, y41, y42, y43, y44, y45, y46, y47, y48, y49, y50, y51, y52, undef, undef, undef, undef, undef, undef, undef, undef, undef, undef, undef, undef, undef, undef, undef, undef, undef, undef, undef, undef, undef, undef, undef, undef, undef, undef, undef, undef, undef, undef, undef, undef, undef, undef, undef, undef, undef, undef, undef, undef, undef, undef, undef, undef, undef, undef, undef, undef, undef, undef, undef, undef, undef, undef, undef, undef, undef, undef, undef, undef, undef, undef, undef, undef, undef, undef, undef, undef, undef, undef, undef, undef, undef, y126, undef, undef], defers := marks rs } ∧ m ≤ 4 ∧ MarksOk B rs W ∧ Two B b w W g1 g2 (Vw.edTo v m).1 (Vw.edTo v m).2) (fun a _ => 4 - (intOf (a.tmps.getD 21 undef)).toNat) ⟨0, [], _, _, _, _, _, _, _, _, _, _, _, _, _, _, _, _, _, _, _, _, _, _, _, _, _, _, _, _, _, _, _, _, _, _, _, _, rfl, Nat.zero_le _, MarksOk.nil _ _, H5.out⟩ ?_
  clear H5
  rintro a W ⟨m, rs, y5, y6, y7, y8, y22, y23, y24, y25, y26, y27, y28, y29, y30, y31, y32, y33, y34, y35, y36, y37, y38, y39, y40, y41, y42, y43, y44, y45, y46, y47, y48, y49, y50, y51, y52, y126, rfl, hm, hmk, h5⟩
  by_cases hm4 : m < 4
  · have hst := HS.out.below (by have := h5.bw; rwa [HBw.out] at this)
    have hln := HI.out.ver_len hm4
    have hfew := HI.out.few hm4
    obtain ⟨g, cap, hv, hg1, hg2, hc⟩ := HS.out.lit hm4 hln
    have HPOS := Lib.hid fun (k : Nat) (hk : k + 1 < (Vw.verl v m).length) => HI.out.ver_pos hm4 hk
    have HAT := Lib.hid fun k => HI.out.ver_at hm4 k
    have HFK := Lib.hid fun (n : Nat) (hn : n + 1 ≤ (Vw.verl v m).length) => Vw.five_kTo HI.out hm4 (Vw.five_edTo HI.out m (by omega)).1 n hn
    have hidx : ∀ w5 : World, (Instr.index 102 A (nv m)).run Tryd.prog w5 = .ok (.slice (some ⟨g, 0, none⟩) (Vw.verl v m).length cap) w5 := fun w5 => hv ▸ HRI.out m hm4 w5
    have i1 : (m : Int) < 4 := by omega
    have H5 := Lib.hid h5
    have HMK := Lib.hid hmk
    have HC5 := Lib.hid hc
    have HV := Lib.hid hv
    have hbB : b < B := by rw [HBw.out]; exact HS.out.1.lt
    have hgB : g < B := by
      rw [HBw.out]
      have := HS.out.own hm4
      rw [hv] at this
      exact (this g rfl).2
    clear hst hc hv h5 hmk
    generalize hll : Vw.verl v m = l at *
    have HLL := Lib.hid hll
    clear hll
    gi_wp2_with fail
    obtain ⟨W6, hW6⟩ : ∃ W6, (W.alloc (.cells #[.int .i64 (m : Int)] 3)).alloc (.cells #[.slice (some ⟨g, 0, none⟩) l.length cap] 101) = W6 := ⟨_, rfl⟩
    have hb6 : Below W.heap.size W W6 := by rw [← hW6]; exact ((Below.refl _ _).alloc (Nat.le_refl _) _).alloc (by simp) _
    have k6 : KeepsOthers W W6 := by rw [← hW6]; exact (KeepsOthers.alloc _ _).trans (KeepsOthers.alloc _ _)
    have hs6 : W6.heap.size = W.heap.size + 2 := by rw [← hW6]; simp
    have d0 : W6.cell? ⟨W.heap.size, 0, none⟩ = some (nv m) := by rw [← hW6]; simp
    have d1 : W6.cell? ⟨W.heap.size + 1, 0, none⟩ = some (.slice (some ⟨g, 0, none⟩) l.length cap) := by rw [← hW6]; simp
    rw [hW6]
    have h6 := H5.out.below hb6
    have hmk6 := HMK.out.others k6
    obtain ⟨B5, hB5⟩ : ∃ B5, B5 = W.heap.size := ⟨_, rfl⟩
    have hB5B : B + 5 ≤ B5 := by rw [hB5]; exact H5.out.sz
    rw [← hB5] at d0 d1 hs6 ⊢
    clear hW6 hb6 k6 hB5 hidx H5 HMK
    obtain ⟨E1, hE1⟩ : ∃ E1, E1 = (Vw.edTo v m).1 := ⟨_, rfl⟩
    obtain ⟨E2, hE2⟩ : ∃ E2, E2 = (Vw.edTo v m).2 := ⟨_, rfl⟩
    rw [← hE1, ← hE2] at h6
    rw [← hE1] at HFK
    have HEE := Lib.hid (And.intro hE1 hE2)
    clear hE1 hE2
    refine wpIn_loop (fun a W' => ∃ (k : Nat) (y8 y25 y26 y27 y28 y29 y30 y31 y32 y33 y34 y35 y36 y37 y38 y39 y40 y41 y42 y43 y44 y45 y46 y47 y48 y49 y50 : Value), a = { tmps := #[.pointer (some ⟨b, 0, none⟩), .pointer (some ⟨B, 0, none⟩), .pointer (some ⟨B + 1, 0, none⟩), .pointer (some ⟨B + 1 + 1, 0, none⟩), nv cm, .pointer (some ⟨B5, 0, none⟩), .pointer (some ⟨B5 + 1, 0, none⟩), nv k, y8, undef, undef, undef, undef, .slice (some ⟨g1, 0, none⟩) 5 5, .slice (some ⟨g2, 0, none⟩) 5 5, .pointer (some ⟨b, 0, none⟩), nv cm, .pointer (some ⟨b, 0, none⟩), .pointer (some ⟨b, 0, none⟩), .pointer (some ⟨b, 46, none⟩), A, nv m, .bool true, nv m, .slice (some ⟨g, 0, none⟩) l.length cap, y25, y26, y27, y28, y29, y30, y31, y32, y33, y34, y35, y36, y37, y38, y39, y40, y41, y42, y43, y44, y45, y46, y47, y48, y49, y50, y51, y52, undef, undef, undef, undef, undef, undef, undef, undef, undef, undef, undef, undef, undef, undef, undef, undef, undef, undef, undef, undef, undef, undef, undef, undef, undef, undef, undef, undef, undef, undef, undef, undef, undef, undef, undef, undef, undef, undef, undef, undef, undef, undef, undef, undef, undef, undef, undef, undef, undef, undef, undef, undef, undef, undef, undef, undef, undef, undef, undef, undef, undef, undef, undef, undef, undef, undef, undef, undef, undef, undef, undef, undef, undef, y126, undef, undef], defers := marks rs } ∧ (1 ≤ k ∧ k ≤ l.length) ∧ Two B b w W' g1 g2 (Vw.kTo l E1 (k - 1)) E2 ∧ MarksOk B rs W' ∧ W'.cell? ⟨B5, 0, none⟩ = some (nv m) ∧ W'.cell? ⟨B5 + 1, 0, none⟩ = some (.slice (some ⟨g, 0, none⟩) l.length cap)) (fun a _ => l.length - (intOf (a.tmps.getD 7 undef)).toNat) ⟨1, _, _, _, _, _, _, _, _, _, _, _, _, _, _, _, _, _, _, _, _, _, _, _, _, _, _, _, rfl, ⟨Nat.le_refl _, hln⟩, h6, hmk6, d0, d1⟩ ?_
    clear h6 hmk6 d0 d1
    rintro a W' ⟨k, y8, y25, y26, y27, y28, y29, y30, y31, y32, y33, y34, y35, y36, y37, y38, y39, y40, y41, y42, y43, y44, y45, y46, y47, y48, y49, y50, rfl, ⟨hk1, hk2⟩, h6, hmk6, d0, d1⟩
    by_cases hkl : k < l.length
    · have hst := HS.out.below (by have := h6.bw; rwa [HBw.out] at this)
      have hcc : ∀ n, n < l.length → W'.cell? ⟨g, n * 2, none⟩ = some (iv (l.getD n Vw.dv).1) := fun n hn => by
        exact (h6.bw.cell (p := ⟨g, n * 2, none⟩) (by show g < B; omega)).trans (HC5.out n hn).1
      have cA := hcc (k - 1) (by omega)
      obtain ⟨c, hc5, hc⟩ := HPOS.out (k - 1) (by omega)
      rw [show k - 1 + 1 = k by omega] at hc
      have cB := hcc k hkl
      rw [hc, show iv (c : Int) = nv c from rfl] at cB
      clear hcc
      have c1 := h6.c1.1
      have w1 : IntKind.i64.wrap ((k : Int) - 1) = (k : Int) - 1 := IntWalk.i64_in _ (by constructor <;> omega)
      have w2 : (0 : Int) ≤ (k : Int) - 1 := by omega
      have w3 : (k : Int) < (l.length : Int) := by omega
      have w4 : ((k : Int) - 1).toNat = k - 1 := by omega
      have w5 : (k : Int) - 1 < (l.length : Int) := by omega
      have HSTEP := Lib.hid (show Vw.kTo l E1 k = if 0 ≤ (l.getD (k - 1) Vw.dv).1 then Odr.more (Vw.kTo l E1 (k - 1)) (l.getD (k - 1) Vw.dv).1.toNat (l.getD k Vw.dv).1.toNat else Vw.kTo l E1 (k - 1) from by
        obtain ⟨q, rfl⟩ : ∃ q, k = q + 1 := ⟨k - 1, by omega⟩
        rfl)
      rw [hc] at HSTEP
      have hat := HAT.out (k - 1)
      have h32 := (HFK.out (k - 1) (by omega)).lt
      generalize l.getD (k - 1) Vw.dv = pv at *
      generalize hKT : Vw.kTo l E1 (k - 1) = KT at *
      clear hc hKT hst
      by_cases hpv : 0 ≤ pv.1
      · have HN := Lib.hid (HSTEP.out.trans (if_pos hpv))
        obtain ⟨a, ha⟩ : ∃ a : Nat, pv.1 = (a : Int) := ⟨pv.1.toNat, by omega⟩
        rw [ha] at cA hat
        rw [show iv (a : Int) = nv a from rfl] at cA
        rw [ha, Int.toNat_natCast, Int.toNat_natCast] at HN
        have ha5 : a < 5 := by omega
        have x1 := h6.cellX ha5
        have x2 := h6.frX a
        obtain ⟨xa, hxa⟩ : ∃ xa, xa = KT.getD a 0 := ⟨_, rfl⟩
        rw [← hxa] at x1
        have hor := bits_or_shl xa c (by have := h32 a; omega) (by omega)
        have HXA := Lib.hid hxa
        have i2 : (a : Int) < 5 := by omega
        have H6 := Lib.hid h6
        have HM6 := Lib.hid hmk6
        clear h6 hmk6 hpv ha HSTEP h32 hat hxa
        gi_wp2_with fail
        refine wpIn_wide.2 ?_
        refine wp_region_still_tail 12 (by kernel_rfl) (by kernel_rfl) ?_
        simp only [List.take_succ_cons, List.take_zero, List.drop_succ_cons, List.drop_zero]
        repeat still_step
        refine wpStill_nil ?_
        go_wp2_with fail
        gi_wp2_with fail
        refine ⟨⟨k + 1, _, _, _, _, _, _, _, _, _, _, _, _, _, _, _, _, _, _, _, _, _, _, _, _, _, _, _, by go_num, ⟨by omega, by omega⟩, ?_, ?_, ?_, ?_⟩, ?_⟩
        · rw [show k + 1 - 1 = k by omega, HN.out, HXA.out]
          exact (H6.out.moreX a c).drew
        · exact HM6.out.others ((KeepsOthers.setCell _ _ _).trans (KeepsOthers.drew _))
        · have := H6.out.l1
          exact (cell_other _ _ _ (by show B5 ≠ g1; omega)).trans d0
        · have := H6.out.l1
          exact (cell_other _ _ _ (by show B5 + 1 ≠ g1; omega)).trans d1
        · simp [intOf]; omega
      · have HN := Lib.hid (HSTEP.out.trans (if_neg hpv))
        have H6 := Lib.hid h6
        have HM6 := Lib.hid hmk6
        have t1 : decide (0 ≤ pv.1) = false := decide_eq_false hpv
        clear h6 hmk6 HSTEP h32 hat
        gi_wp2_with fail
        refine ⟨⟨k + 1, rfl, ⟨by omega, by omega⟩, ?_, HM6.out⟩, ?_⟩
        · rw [show k + 1 - 1 = k by omega, HN.out]
          exact H6.out
        · simp [intOf]; omega
    · obtain rfl : k = l.length := by omega
      have w3 : decide ((l.length : Int) < (l.length : Int)) = false := decide_eq_false (by omega)
      have H6 := Lib.hid h6
      have HM6 := Lib.hid hmk6
      have hsz6 : B5 + 2 ≤ W'.heap.size := by
        obtain ⟨o, ho, _⟩ := cells_of_cell d1
        have h1 : B5 + 1 < W'.heap.size := (Array.getElem?_eq_some_iff.1 ho).1
        omega
      clear h6 hmk6
      gi_wp2_with fail
      refine ⟨trivial, ?_⟩
      refine (callsIn_wide.2 (bits_make cm _)).mono ?_
      rintro e wb ⟨rfl, hwb⟩
      obtain ⟨G, hG⟩ : ∃ G, G = W'.heap.size := ⟨_, rfl⟩
      have hsb : wb.heap.size = G + 1 := by rw [← hwb, hG]; simp
      have hbb : Below W'.heap.size W' wb := by rw [← hwb]; exact (Below.refl _ W').alloc (Nat.le_refl _) _
      have hcb : wb.cell? ⟨G, 0, none⟩ = some (nv cm) := by rw [← hwb, hG]; simp
      rw [← hG]
      have hmkb := HM6.out.calls hbb
      have h7 := H6.out.below hbb
      have e0 := (hbb.cell (p := ⟨B5, 0, none⟩) (by simp; omega)).trans d0
      have e1 := (hbb.cell (p := ⟨B5 + 1, 0, none⟩) (by simp; omega)).trans d1
      have htabb := HT.out.below (by have := h7.bw; rwa [HBw.out] at this)
      have hTB : 2 < B := by rw [HBw.out]; exact HT.out.lt
      rw [← hG] at hsz6
      have HSB := Lib.hid hsb
      clear hwb hbb d0 d1 H6 HM6 hG hsb
      have hcm32 := HC.out
      obtain ⟨S, hS⟩ : ∃ S : List Nat × List Nat, S = (Vw.kTo l E1 (l.length - 1), E2) := ⟨_, rfl⟩
      have h7' : Two B b w wb g1 g2 S.1 S.2 := by rw [hS]; exact h7
      have HEND := Lib.hid (show Vw.bTo v m S (Vw.committed v) = Vw.edTo v (m + 1) by
        rw [hS, HEE.out.1, HEE.out.2, ← HLL.out]; rfl)
      have H5S := Lib.hid (show Vw.Five S.1 ∧ Vw.Five S.2 from by
        rw [hS]
        exact ⟨HFK.out _ (by omega), by rw [HEE.out.2]; exact (Vw.five_edTo HI.out m (by omega)).2⟩)
      clear h7 hS HFK
      gi_wp2_with fail
      refine wpIn_rangeFunc_ownF rfl (by omega) (gf := 81) (lb := #[.pointer (some ⟨G, 0, none⟩)]) rfl trivial (enters_of Tryd.func81 (by kernel_rfl) rfl)
        (bits_stops 8 (by omega) G B cm (by omega) wb htabb hTB hcb) belowK_t (belowK_b (by have := HSB.out; omega)) (Below.refl _ _) (fun _ => rfl)
        (fun pre W => Two B b w W g1 g2 (Vw.bTo v m S (pre.map (·.1))).1 (Vw.bTo v m S (pre.map (·.1))).2 ∧ W.cell? ⟨B5, 0, none⟩ = some (nv m) ∧ W.cell? ⟨B5 + 1, 0, none⟩ = some (.slice (some ⟨g, 0, none⟩) l.length cap) ∧ (MarksOk B rs W ∧ wb.heap.size ≤ W.heap.size))
        (fun _ _ _ => False)
        (OwnFrom.and (ownFrom_two _ _ (by have := HSB.out; omega)) (OwnFrom.and (ownFrom_cell1 _ _) (OwnFrom.and (ownFrom_cell1 _ _) (ownFrom_marks hmkb.lt))))
        (fun _ _ _ _ _ h _ _ => h) ⟨h7', e0, e1, ⟨hmkb, Nat.le_refl _⟩⟩
        (fun y => { tmps := #[.pointer (some ⟨b, 0, none⟩), .pointer (some ⟨B, 0, none⟩), .pointer (some ⟨B + 1, 0, none⟩), .pointer (some ⟨B + 1 + 1, 0, none⟩), nv cm, .pointer (some ⟨B5, 0, none⟩), .pointer (some ⟨B5 + 1, 0, none⟩), nv l.length, y8, nv y.1, undef, undef, undef, .slice (some ⟨g1, 0, none⟩) 5 5, .slice (some ⟨g2, 0, none⟩) 5 5, .pointer (some ⟨b, 0, none⟩), nv cm, .pointer (some ⟨b, 0, none⟩), .pointer (some ⟨b, 0, none⟩), .pointer (some ⟨b, 46, none⟩), A, nv m, .bool true, nv m, .slice (some ⟨g, 0, none⟩) l.length cap, nv l.length, .slice (some ⟨g, 0, none⟩) l.length cap, nv l.length, .bool false, y29, y30, y31, y32, y33, y34, y35, y36, y37, y38, y39, y40, y41, y42, y43, y44, y45, y46, y47, y48, y49, y50, nv cm, .func (.func 81) #[] #[.pointer (some ⟨G, 0, none⟩)], nv y.1, undef, undef, undef, undef, undef, undef, undef, undef, undef, undef, undef, undef, undef, undef, undef, undef, undef, undef, undef, undef, undef, undef, undef, undef, undef, undef, undef, undef, undef, undef, undef, undef, undef, undef, undef, undef, undef, undef, undef, undef, undef, undef, undef, undef, undef, undef, undef, undef, undef, undef, undef, undef, undef, undef, undef, undef, undef, undef, undef, undef, undef, undef, undef, undef, undef, undef, undef, undef, undef, undef, undef, undef, y126, undef, undef], defers := [] }) ?assign ?body ?done ?stop
      case assign =>
        intro lf y W K hK
        gi_wp2
        exact hK
      case body =>
        rintro lf pre ⟨i, hi⟩ W ⟨j1, j2, j3, j4⟩ _
        have hi5 : i < 5 := by
          rcases Nat.lt_or_ge i 5 with g | g
          · exact g
          · have h1 := Nat.ge_two_pow_of_testBit hi
            have h2 : 2 ^ 5 ≤ 2 ^ i := Nat.pow_le_pow_right (by omega) g
            have := HC.out
            omega
        have hst := HS.out.below (by have := j1.bw; rwa [HBw.out] at this)
        have q0 : W.cell? ⟨b, 1 + i * 9, none⟩ = some (nv (Vw.tx v i).ph) := hst.tx (c := 0) hi5 (by decide)
        have q1 : W.cell? ⟨b, 1 + i * 9 + 1, none⟩ = some (nv (Vw.tx v i).bg) := hst.tx (c := 1) hi5 (by decide)
        have q2 : W.cell? ⟨b, 1 + i * 9 + 2, none⟩ = some (nv (Vw.tx v i).en) := hst.tx (c := 2) hi5 (by decide)
        have q3 : W.cell? ⟨b, 1 + i * 9 + 3, none⟩ = some (nv (Vw.tx v i).rds) := hst.tx (c := 3) hi5 (by decide)
        have q4 : W.cell? ⟨b, 1 + i * 9 + 4, none⟩ = some (nv (Vw.tx v i).wrt) := hst.tx (c := 4) hi5 (by decide)
        have q5 : W.cell? ⟨b, 1 + i * 9 + 5, none⟩ = some (iv ((Vw.tx v i).frm.getD 0 0)) := hst.tx (c := 5) hi5 (by decide)
        have q6 : W.cell? ⟨b, 1 + i * 9 + 6, none⟩ = some (iv ((Vw.tx v i).frm.getD 1 0)) := hst.tx (c := 6) hi5 (by decide)
        have q7 : W.cell? ⟨b, 1 + i * 9 + 7, none⟩ = some (iv ((Vw.tx v i).frm.getD 2 0)) := hst.tx (c := 7) hi5 (by decide)
        have q8 : W.cell? ⟨b, 1 + i * 9 + 8, none⟩ = some (iv ((Vw.tx v i).frm.getD 3 0)) := hst.tx (c := 8) hi5 (by decide)
        have c0 := j1.c0
        have i2 : (i : Int) < 5 := by omega
        have HSN := Lib.hid (show Vw.bTo v m S ((pre ++ [(⟨i, hi⟩ : El cm)]).map (·.1)) = if (Vw.tx v i).rds.testBit m = true then Vw.vTo v i l (Vw.bTo v m S (pre.map (·.1))) l.length else Vw.bTo v m S (pre.map (·.1)) from by
          rw [List.map_append]
          refine (Vw.bTo_snoc v m S _ i).trans ?_
          unfold Vw.istep
          rw [HLL.out])
        have HFS := Lib.hid (show Vw.Five (Vw.bTo v m S (pre.map (·.1))).1 ∧ Vw.Five (Vw.bTo v m S (pre.map (·.1))).2 from Vw.five_bTo HI.out hm4 _ (fun x hx => by
          obtain ⟨y, _, rfl⟩ := List.mem_map.1 hx
          rcases Nat.lt_or_ge y.1 5 with g | g
          · exact g
          · have h1 := Nat.ge_two_pow_of_testBit y.2
            have h2 : 2 ^ 5 ≤ 2 ^ y.1 := Nat.pow_le_pow_right (by omega) g
            have := HC.out
            omega) H5S.out)
        have hrd := HI.out.rlt i
        have HHA := Lib.hid fun (w5 : World) => has_calls (Vw.tx v i).rds m w5 (by omega) (by omega)
        have J1 := Lib.hid j1
        have J4 := Lib.hid (And.intro j3 j4)
        obtain ⟨SP, hSP⟩ : ∃ SP, SP = Vw.bTo v m S (pre.map (·.1)) := ⟨_, rfl⟩
        rw [← hSP] at HSN HFS J1
        generalize (Vw.tx v i).frm.getD 0 0 = f0 at *
        generalize (Vw.tx v i).frm.getD 1 0 = f1 at *
        generalize (Vw.tx v i).frm.getD 2 0 = f2 at *
        generalize (Vw.tx v i).frm.getD 3 0 = f3 at *
        obtain ⟨rd, hrd'⟩ : ∃ rd, rd = (Vw.tx v i).rds := ⟨_, rfl⟩
        obtain ⟨bg, hbg⟩ : ∃ bg, bg = (Vw.tx v i).bg := ⟨_, rfl⟩
        obtain ⟨en, hen⟩ : ∃ en, en = (Vw.tx v i).en := ⟨_, rfl⟩
        rw [← hrd'] at q3 HSN HHA
        rw [← hbg] at q1
        rw [← hen] at q2
        have HBG := Lib.hid hbg
        have HEN := Lib.hid hen
        have s5 : B5 < W.heap.size := by have := HSB.out; have := j4.2; omega
        have s6 : B5 + 1 < W.heap.size := by have := HSB.out; have := j4.2; omega
        clear hst j1 j4 hrd hrd' hbg hen hSP
        gi_wp2_with fail
        refine ⟨trivial, CallsIn.inRound lf ((callsIn_wide.2 (HHA.out _)).mono ?_)⟩
        rintro e w7 ⟨rfl, rfl⟩
        by_cases hrm : rd.testBit m = true
        · have HN := Lib.hid (HSN.out.trans (if_pos hrm))
          rw [hrm]
          gi_wp2_with fail
          obtain ⟨W7, hW7⟩ : ∃ W7, W.alloc (.cells #[.int .i64 ((Vw.tx v i).ph : Int), .int .i64 (bg : Int), .int .i64 (en : Int), .int .i64 (rd : Int), .int .i64 ((Vw.tx v i).wrt : Int), .int .i64 f0, .int .i64 f1, .int .i64 f2, .int .i64 f3] 99) = W7 := ⟨_, rfl⟩
          have hb7 : Below W.heap.size W W7 := by rw [← hW7]; exact (Below.refl _ _).alloc (Nat.le_refl _) _
          have k7 : KeepsOthers W W7 := by rw [← hW7]; exact KeepsOthers.alloc _ _
          have hs7 : W7.heap.size = W.heap.size + 1 := by rw [← hW7]; simp
          have p1 : W7.cell? ⟨W.heap.size, 1, none⟩ = some (nv bg) := by rw [← hW7, World.cell?_alloc_new]; rfl
          have p2 : W7.cell? ⟨W.heap.size, 2, none⟩ = some (nv en) := by rw [← hW7, World.cell?_alloc_new]; rfl
          rw [hW7]
          have h8 := J1.out.below hb7
          have r0 := (hb7.cell (p := ⟨B5, 0, none⟩) s5).trans j2
          have r1 := (hb7.cell (p := ⟨B5 + 1, 0, none⟩) s6).trans j3
          have b7 : Below B W W7 := hb7.mono (by omega)
          obtain ⟨T, hT⟩ : ∃ T, T = W.heap.size := ⟨_, rfl⟩
          rw [← hT] at p1 p2 hs7 s5 s6 ⊢
          have HTT := Lib.hid hT
          clear hT hW7 hb7 q0 q1 q2 q3 q4 q5 q6 q7 q8 hrm HSN HHA
          refine wpIn_loop (fun a W8 => ∃ (n : Nat) (y12 y54 y55 y56 y57 y58 y59 y60 y61 y62 y63 y64 y68 y69 y70 y71 y72 y73 y74 y75 y76 y77 y78 y79 y80 y81 y82 y83 y84 y85 y86 y87 y88 y89 y90 y91 y92 y93 y94 y95 y96 y97 y98 y99 y100 y101 y102 y103 y104 y105 y106 y107 y108 y109 y110 y111 y112 y113 y114 y115 y116 y117 y118 y119 y120 y121 y122 y123 y124 y125 : Value), a = { tmps := #[.pointer (some ⟨b, 0, none⟩), .pointer (some ⟨B, 0, none⟩), .pointer (some ⟨B + 1, 0, none⟩), .pointer (some ⟨B + 1 + 1, 0, none⟩), nv cm, .pointer (some ⟨B5, 0, none⟩), .pointer (some ⟨B5 + 1, 0, none⟩), nv l.length, y8, nv i, .pointer (some ⟨T, 0, none⟩), undef, y12, .slice (some ⟨g1, 0, none⟩) 5 5, .slice (some ⟨g2, 0, none⟩) 5 5, .pointer (some ⟨b, 0, none⟩), nv cm, .pointer (some ⟨b, 0, none⟩), .pointer (some ⟨b, 0, none⟩), .pointer (some ⟨b, 46, none⟩), A, nv m, .bool true, nv m, .slice (some ⟨g, 0, none⟩) l.length cap, nv l.length, .slice (some ⟨g, 0, none⟩) l.length cap, nv l.length, .bool false, y29, y30, y31, y32, y33, y34, y35, y36, y37, y38, y39, y40, y41, y42, y43, y44, y45, y46, y47, y48, y49, y50, nv cm, .func (.func 81) #[] #[.pointer (some ⟨G, 0, none⟩)], nv i, y54, y55, y56, y57, y58, y59, y60, y61, y62, y63, y64, .slice (some ⟨g, 0, none⟩) l.length cap, nv l.length, nv n, y68, y69, y70, y71, y72, y73, y74, y75, y76, y77, y78, y79, y80, y81, y82, y83, y84, y85, y86, y87, y88, y89, y90, y91, y92, y93, y94, y95, y96, y97, y98, y99, y100, y101, y102, y103, y104, y105, y106, y107, y108, y109, y110, y111, y112, y113, y114, y115, y116, y117, y118, y119, y120, y121, y122, y123, y124, y125, y126, undef, undef], defers := [] } ∧ n ≤ l.length ∧ Two B b w W8 g1 g2 (Vw.vTo v i l SP n).1 (Vw.vTo v i l SP n).2 ∧ KeepsOthers W W8 ∧ Below B W W8 ∧ (W8.cell? ⟨T, 1, none⟩ = some (nv bg) ∧ W8.cell? ⟨T, 2, none⟩ = some (nv en)) ∧ W8.cell? ⟨B5, 0, none⟩ = some (nv m) ∧ W8.cell? ⟨B5 + 1, 0, none⟩ = some (.slice (some ⟨g, 0, none⟩) l.length cap) ∧ T < W8.heap.size) (fun a _ => l.length - (intOf (a.tmps.getD 67 undef)).toNat) ⟨0, _, _, _, _, _, _, _, _, _, _, _, _, _, _, _, _, _, _, _, _, _, _, _, _, _, _, _, _, _, _, _, _, _, _, _, _, _, _, _, _, _, _, _, _, _, _, _, _, _, _, _, _, _, _, _, _, _, _, _, _, _, _, _, _, _, _, _, _, _, _, rfl, Nat.zero_le _, h8, k7, b7, ⟨p1, p2⟩, r0, r1, by rw [hs7]; omega⟩ ?_
          clear h8 k7 b7 p1 p2 r0 r1 hs7 W7
          rintro a W8 ⟨n, y12, y54, y55, y56, y57, y58, y59, y60, y61, y62, y63, y64, y68, y69, y70, y71, y72, y73, y74, y75, y76, y77, y78, y79, y80, y81, y82, y83, y84, y85, y86, y87, y88, y89, y90, y91, y92, y93, y94, y95, y96, y97, y98, y99, y100, y101, y102, y103, y104, y105, y106, y107, y108, y109, y110, y111, y112, y113, y114, y115, y116, y117, y118, y119, y120, y121, y122, y123, y124, y125, rfl, hn, h8, k8, b8, ⟨p1, p2⟩, r0, r1, hs8⟩
          by_cases hnl : n < l.length
          · have hcc := HC5.out n hnl
            have cA : W8.cell? ⟨g, n * 2, none⟩ = some (iv (l.getD n Vw.dv).1) := (h8.bw.cell (p := ⟨g, n * 2, none⟩) (by show g < B; omega)).trans hcc.1
            have cB : W8.cell? ⟨g, n * 2 + 1, none⟩ = some (nv (l.getD n Vw.dv).2) := (h8.bw.cell (p := ⟨g, n * 2 + 1, none⟩) (by show g < B; omega)).trans hcc.2
            have hat := HAT.out n
            have HSTEP := Lib.hid (show Vw.vTo v i l SP (n + 1) = Vw.vstepE v i (l.getD n Vw.dv) (Vw.vTo v i l SP n) from rfl)
            have hF := Vw.five_vTo HI.out hi5 hm4 HFS.out n
            rw [HLL.out] at hF
            have hF1 := hF.1.lt
            have hF2 := hF.2.lt
            obtain ⟨p, hp⟩ : ∃ p, p = l.getD n Vw.dv := ⟨_, rfl⟩
            rw [← hp] at cA cB hat HSTEP
            generalize Vw.vTo v i l SP n = R at *
            have i3 : (n : Int) < (l.length : Int) := by omega
            have sg : g < W8.heap.size := by omega
            have sb : b < W8.heap.size := by omega
            have sB : B < W8.heap.size := by omega
            have s1 : B + 1 < W8.heap.size := by omega
            have s2 : B + 1 + 1 < W8.heap.size := by omega
            have s5' : B5 < W8.heap.size := by omega
            have l1 := h8.l1
            have l2 := h8.l2
            have sg1 : g1 < W8.heap.size := by omega
            have sg2 : g2 < W8.heap.size := by omega
            have c0 := h8.c0
            have c1 := h8.c1.1
            have c2 := h8.c2.1
            have H8 := Lib.hid h8
            have K8 := Lib.hid k8
            have B8 := Lib.hid b8
            clear h8 k8 b8 hcc hp hF
            have HSK : (p.1 = (i : Int) ∨ p.1 < 0) → Vw.vTo v i l SP (n + 1) = R := fun hh => by
              rw [HSTEP.out]; unfold Vw.vstepE; rw [if_pos hh]
            have HFIN := Lib.hid (show ∀ W9 : World, Two B b w W9 g1 g2 (Vw.vTo v i l SP (n + 1)).1 (Vw.vTo v i l SP (n + 1)).2 → KeepsOthers W8 W9 → Below B W8 W9 → (∀ q : Addr, B5 ≤ q.block → q.block < W8.heap.size → W9.cell? q = W8.cell? q) →
                n + 1 ≤ l.length ∧ Two B b w W9 g1 g2 (Vw.vTo v i l SP (n + 1)).1 (Vw.vTo v i l SP (n + 1)).2 ∧ KeepsOthers W W9 ∧ Below B W W9 ∧ (W9.cell? ⟨T, 1, none⟩ = some (nv bg) ∧ W9.cell? ⟨T, 2, none⟩ = some (nv en)) ∧ W9.cell? ⟨B5, 0, none⟩ = some (nv m) ∧ W9.cell? ⟨B5 + 1, 0, none⟩ = some (.slice (some ⟨g, 0, none⟩) l.length cap) ∧ T < W9.heap.size from fun W9 h1 h2 h3 h4 =>
              ⟨hnl, h1, K8.out.trans h2, B8.out.trans h3, ⟨(h4 ⟨T, 1, none⟩ (by show B5 ≤ T; omega) hs8).trans p1, (h4 ⟨T, 2, none⟩ (by show B5 ≤ T; omega) hs8).trans p2⟩, (h4 ⟨B5, 0, none⟩ (Nat.le_refl _) s5').trans r0, (h4 ⟨B5 + 1, 0, none⟩ (Nat.le_succ _) (by show B5 + 1 < W8.heap.size; omega)).trans r1, Nat.lt_of_lt_of_le hs8 h3.size⟩)
            clear r0 r1
            by_cases he : p.1 = (i : Int)
            · have HV1 := Lib.hid (HSK (.inl he))
              have t1 : (p.1 == (i : Int)) = true := by simpa using he
              clear HSK HSTEP he
              gi_wp2_with fail
              refine ⟨⟨n + 1, _, _, _, _, _, _, _, _, _, _, _, _, _, _, _, _, _, _, _, _, _, _, _, _, _, _, _, _, _, _, _, _, _, _, _, _, _, _, _, _, _, _, _, _, _, _, _, _, _, _, _, _, _, _, _, _, _, _, _, _, _, _, _, _, _, _, _, _, _, _, by go_num, HFIN.out _ ?_ (KeepsOthers.alloc _ _) ((Below.refl B W8).alloc (by omega) _) (fun q _ hq => World.cell?_alloc_old _ _ _ (Nat.ne_of_lt hq))⟩, ?_⟩
              · rw [HV1.out]; exact H8.out.alloc _
              · simp [intOf]; omega
            by_cases h0 : p.1 < 0
            · have HV1 := Lib.hid (HSK (.inr h0))
              have t1 : (p.1 == (i : Int)) = false := by simpa using he
              have t2 : decide (p.1 < 0) = true := decide_eq_true h0
              clear HSK HSTEP he h0
              gi_wp2_with fail
              refine ⟨⟨n + 1, _, _, _, _, _, _, _, _, _, _, _, _, _, _, _, _, _, _, _, _, _, _, _, _, _, _, _, _, _, _, _, _, _, _, _, _, _, _, _, _, _, _, _, _, _, _, _, _, _, _, _, _, _, _, _, _, _, _, _, _, _, _, _, _, _, _, _, _, _, _, by go_num, HFIN.out _ ?_ (KeepsOthers.alloc _ _) ((Below.refl B W8).alloc (by omega) _) (fun q _ hq => World.cell?_alloc_old _ _ _ (Nat.ne_of_lt hq))⟩, ?_⟩
              · rw [HV1.out]; exact H8.out.alloc _
              · simp [intOf]; omega
            clear HSK
            obtain ⟨c, hc⟩ : ∃ c : Nat, p.1 = (c : Int) := ⟨p.1.toNat, by omega⟩
            have hc5 : c < 5 := by omega
            have hci : c ≠ i := by omega
            have t1 : ((c : Int) == (i : Int)) = false := by simp; omega
            have i4 : (c : Int) < 5 := by omega
            have HP1 := Lib.hid hc
            rw [hc, show iv (c : Int) = nv c from rfl] at cA
            obtain ⟨p2n, hp2n⟩ : ∃ p2n, p2n = p.2 := ⟨_, rfl⟩
            rw [← hp2n] at cB
            by_cases hbg' : p2n ≤ bg
            · have HV1 := Lib.hid (show Vw.vTo v i l SP (n + 1) = (Odr.more R.1 c i, R.2) from by
                rw [HSTEP.out]; unfold Vw.vstepE; rw [if_neg (by omega), if_pos (by rw [← HBG.out, ← hp2n]; exact hbg'), hc, Int.toNat_natCast])
              obtain ⟨xa, hxa⟩ : ∃ xa, xa = R.1.getD c 0 := ⟨_, rfl⟩
              have x1 := H8.out.cellX hc5
              rw [← hxa] at x1
              have x2 := H8.out.frX c
              have hor := bits_or_shl xa i (by rw [hxa]; have := hF1 c; omega) (by omega)
              have HXA := Lib.hid hxa
              have i5 : (p2n : Int) ≤ (bg : Int) := by omega
              clear hxa hc hp2n hF1 hF2 hat HSTEP he h0
              gi_wp2_with fail
              refine region_tail_round (k := 9) (by kernel_rfl) (by kernel_rfl) (by kernel_rfl) ?_
              simp only [List.take_succ_cons, List.take_zero, List.drop_succ_cons, List.drop_zero]
              repeat still_step
              refine wpStill_nil ?_
              go_wp2
              dsimp only [NormalOnly]
              gi_wp2_with fail
              refine ⟨⟨n + 1, _, _, _, _, _, _, _, _, _, _, _, _, _, _, _, _, _, _, _, _, _, _, _, _, _, _, _, _, _, _, _, _, _, _, _, _, _, _, _, _, _, _, _, _, _, _, _, _, _, _, _, _, _, _, _, _, _, _, _, _, _, _, _, _, _, _, _, _, _, _, by go_num, HFIN.out _ ?_ ?_ ?_ (fun q hq0 hq => ?_)⟩, ?_⟩
              · rw [HV1.out]
                have h9 := ((H8.out.moreX c i).alloc (.cells #[.int .i64 (c : Int), .int .i64 (p2n : Int)] 106)).drew
                rw [← HXA.out] at h9
                exact h9
              · exact ((KeepsOthers.setCell _ _ _).trans (KeepsOthers.alloc _ _)).trans (KeepsOthers.drew _)
              · exact (((Below.refl B W8).setCell (p := ⟨g1, c, none⟩) (by show B ≤ g1; omega) _).alloc (by simp; omega) _).drew
              · exact (World.cell?_alloc_old _ _ _ (by simp; omega)).trans (World.cell?_setCell_far _ _ _ _ (by show g1 ≠ q.block; omega))
              · simp [intOf]; omega
            · have HV1 := Lib.hid (show Vw.vTo v i l SP (n + 1) = (Odr.more R.1 i c, if (Vw.tx v c).bg < en then Odr.more R.2 i c else R.2) from by
                rw [HSTEP.out]; unfold Vw.vstepE; rw [if_neg (by omega), if_neg (by rw [← HBG.out, ← hp2n]; exact hbg'), hc, Int.toNat_natCast, HEN.out])
              obtain ⟨xa, hxa⟩ : ∃ xa, xa = R.1.getD i 0 := ⟨_, rfl⟩
              have x1 := H8.out.cellX hi5
              rw [← hxa] at x1
              have x2 := H8.out.frX i
              have hor := bits_or_shl xa c (by rw [hxa]; have := hF1 i; omega) (by omega)
              have HXA := Lib.hid hxa
              have i5 : (bg : Int) < (p2n : Int) := by omega
              clear hxa hc hp2n hF1 hat HSTEP he h0
              gi_wp2_with fail
              refine region_tail_round (k := 9) (by kernel_rfl) (by kernel_rfl) (by kernel_rfl) ?_
              simp only [List.take_succ_cons, List.take_zero, List.drop_succ_cons, List.drop_zero]
              repeat still_step
              refine wpStill_nil ?_
              go_wp2
              dsimp only [NormalOnly]
              obtain ⟨W9, hW9⟩ : ∃ W9, ((W8.setCell ⟨g1, i, none⟩ (.int .i64 (bits .or .i64 (xa : Int) (wrap64 (2 ^ c))))).alloc (.cells #[.int .i64 (c : Int), .int .i64 (p2n : Int)] 106)).drew = W9 := ⟨_, rfl⟩
              have h9 : Two B b w W9 g1 g2 (Odr.more R.1 i c) R.2 := by
                rw [← hW9, hor]
                have h9 := ((H8.out.moreX i c).alloc (.cells #[.int .i64 (c : Int), .int .i64 (p2n : Int)] 106)).drew
                rw [← HXA.out] at h9
                exact h9
              have K9 := Lib.hid (show KeepsOthers W8 W9 from by rw [← hW9]; exact ((KeepsOthers.setCell _ _ _).trans (KeepsOthers.alloc _ _)).trans (KeepsOthers.drew _))
              have B9 := Lib.hid (show Below B W8 W9 from by rw [← hW9]; exact (((Below.refl B W8).setCell (p := ⟨g1, i, none⟩) (by show B ≤ g1; omega) _).alloc (by simp; omega) _).drew)
              have q9 : ∀ q : Addr, B5 ≤ q.block → q.block < W8.heap.size → W9.cell? q = W8.cell? q := fun q hq0 hq => by
                rw [← hW9]
                exact (World.cell?_alloc_old _ _ _ (by simp; omega)).trans (World.cell?_setCell_far _ _ _ _ (by show g1 ≠ q.block; omega))
              obtain ⟨V, hV⟩ : ∃ V, V = W8.heap.size := ⟨_, rfl⟩
              have u1 : W9.cell? ⟨V, 0, none⟩ = some (nv c) := by
                rw [← hW9, hV]
                show (World.alloc _ _).cell? _ = _
                rw [show W8.heap.size = (W8.setCell ⟨g1, i, none⟩ (.int .i64 (bits .or .i64 (xa : Int) (wrap64 (2 ^ c))))).heap.size from by simp, World.cell?_alloc_new]
                rfl
              have p2' := (q9 ⟨T, 2, none⟩ (by show B5 ≤ T; omega) hs8).trans p2
              have Q9 := Lib.hid q9
              have cb : W9.cell? ⟨b, 1 + c * 9 + 1, none⟩ = some (nv (Vw.tx v c).bg) := (HS.out.below (by have := h9.bw; rwa [HBw.out] at this)).tx (c := 1) hc5 (by decide)
              have c0' := h9.c0
              have c2' := h9.c2.1
              have z1 := h9.cellY hi5
              have z2 := h9.frY i
              have H9 := Lib.hid h9
              rw [hW9, ← hV]
              have HV := Lib.hid hV
              have i6 : (i : Int) < 5 := i2
              obtain ⟨ya, hya⟩ : ∃ ya, ya = R.2.getD i 0 := ⟨_, rfl⟩
              rw [← hya] at z1
              have hor2 := bits_or_shl ya c (by rw [hya]; have := hF2 i; omega) (by omega)
              have HYA := Lib.hid hya
              clear hW9 h9 q9 hV hor x1 x2 c0 c1 c2 p1 p2 cA cB sg sb sB s1 s2 s5' sg1 sg2 hya hF2
              by_cases hlt : (Vw.tx v c).bg < en
              · have HV2 := Lib.hid (show Vw.vTo v i l SP (n + 1) = (Odr.more R.1 i c, Odr.more R.2 i c) from by rw [HV1.out, if_pos hlt])
                clear HV1
                have i7 : ((Vw.tx v c).bg : Int) < (en : Int) := by omega
                generalize (Vw.tx v c).bg = bgc at *
                gi_wp2_with fail
                refine region_tail_round (k := 10) (by kernel_rfl) (by kernel_rfl) (by kernel_rfl) ?_
                simp only [List.take_succ_cons, List.take_zero, List.drop_succ_cons, List.drop_zero]
                repeat still_step
                refine wpStill_nil ?_
                go_wp2
                dsimp only [NormalOnly]
                gi_wp2_with fail
                refine region_tail_round (k := 9) (by kernel_rfl) (by kernel_rfl) (by kernel_rfl) ?_
                simp only [List.take_succ_cons, List.take_zero, List.drop_succ_cons, List.drop_zero]
                repeat still_step
                refine wpStill_nil ?_
                go_wp2
                dsimp only [NormalOnly]
                gi_wp2_with fail
                refine ⟨⟨n + 1, _, _, _, _, _, _, _, _, _, _, _, _, _, _, _, _, _, _, _, _, _, _, _, _, _, _, _, _, _, _, _, _, _, _, _, _, _, _, _, _, _, _, _, _, _, _, _, _, _, _, _, _, _, _, _, _, _, _, _, _, _, _, _, _, _, _, _, _, _, _, by go_num, HFIN.out _ ?_ ?_ ?_ (fun q hq0 hq => ?_)⟩, ?_⟩
                · rw [HV2.out]
                  have h9 := H9.out.moreY i c
                  rw [← HYA.out] at h9
                  first
                    | exact h9.drew.drew
                    | exact h9.drewN 2
                    | exact h9.drew
                · first
                    | exact (K9.out.trans (KeepsOthers.setCell _ _ _)).trans ((KeepsOthers.drew _).trans (KeepsOthers.drew _))
                    | exact (K9.out.trans (KeepsOthers.setCell _ _ _)).trans (KeepsOthers.drewN _ 2)
                    | exact (K9.out.trans (KeepsOthers.setCell _ _ _)).trans (KeepsOthers.drew _)
                · first
                    | exact (B9.out.setCell (p := ⟨g2, i, none⟩) (by show B ≤ g2; omega) _).drew.drew
                    | exact drn (B9.out.setCell (p := ⟨g2, i, none⟩) (by show B ≤ g2; omega) _) 2
                    | exact (B9.out.setCell (p := ⟨g2, i, none⟩) (by show B ≤ g2; omega) _).drew
                · exact (World.cell?_setCell_far W9 _ _ _ (by show g2 ≠ q.block; omega)).trans (Q9.out q hq0 hq)
                · simp [intOf]; omega
              · have HV2 := Lib.hid (show Vw.vTo v i l SP (n + 1) = (Odr.more R.1 i c, R.2) from by rw [HV1.out, if_neg hlt])
                clear HV1
                have i7 : (en : Int) ≤ ((Vw.tx v c).bg : Int) := by omega
                generalize (Vw.tx v c).bg = bgc at *
                gi_wp2_with fail
                refine region_tail_round (k := 10) (by kernel_rfl) (by kernel_rfl) (by kernel_rfl) ?_
                simp only [List.take_succ_cons, List.take_zero, List.drop_succ_cons, List.drop_zero]
                repeat still_step
                refine wpStill_nil ?_
                go_wp2
                dsimp only [NormalOnly]
                gi_wp2_with fail
                refine ⟨⟨n + 1, _, _, _, _, _, _, _, _, _, _, _, _, _, _, _, _, _, _, _, _, _, _, _, _, _, _, _, _, _, _, _, _, _, _, _, _, _, _, _, _, _, _, _, _, _, _, _, _, _, _, _, _, _, _, _, _, _, _, _, _, _, _, _, _, _, _, _, _, _, _, by go_num, HFIN.out _ ?_ ?_ ?_ (fun q hq0 hq => ?_)⟩, ?_⟩
                · rw [HV2.out]
                  exact H9.out.drew
                · exact K9.out.trans (KeepsOthers.drew _)
                · exact B9.out.drew
                · exact Q9.out q hq0 hq
                · simp [intOf]; omega
          · obtain rfl : n = l.length := by omega
            have w3 : decide ((l.length : Int) < (l.length : Int)) = false := decide_eq_false (by omega)
            have H8 := Lib.hid h8
            have K8 := Lib.hid k8
            have B8 := Lib.hid b8
            have R0 := Lib.hid (And.intro r0 r1)
            clear h8 k8 b8 r0 r1 p1 p2
            gi_wp2_with fail
            refine ⟨K8.out, B8.out, ?_, R0.out.1, R0.out.2, J4.out.2.1.others K8.out, by have := J4.out.2.2; have := HTT.out; omega⟩
            rw [HN.out]
            exact H8.out
        · have HN := Lib.hid (HSN.out.trans (if_neg hrm))
          rw [show rd.testBit m = false by simpa using hrm]
          gi_wp2_with fail
          refine ⟨KeepsOthers.alloc _ _, (Below.refl B W).alloc (by omega) _, ?_, (World.cell?_alloc_old _ _ _ (Nat.ne_of_lt s5)).trans j2, (World.cell?_alloc_old _ _ _ (Nat.ne_of_lt s6)).trans j3, J4.out.2.1.others (KeepsOthers.alloc _ _), by have := J4.out.2.2; simp; omega⟩
          rw [HN.out]
          exact J1.out.alloc _
      case done =>
        rintro D xs W hD hxs ⟨j1, j2, j3, ⟨j4, j5⟩⟩ hK
        rw [hxs, HMC.out, HEND.out] at j1
        have hDn : D ∉ rs := fun h => by have := hmkb.lt D h; omega
        have HM := Lib.hid (show MarksOk B (D :: rs) W from j4.cons hK (by have := HSB.out; omega) hDn)
        have hmarks : marks (D :: rs) = { target := .collected D, args := #[] } :: marks rs := rfl
        rw [← hmarks]
        have J1 := Lib.hid j1
        clear j1 j2 j3 j4 hK hmarks hDn hxs
        gi_wp2_with fail
        refine ⟨⟨m + 1, D :: rs, _, _, _, _, _, _, _, _, _, _, _, _, _, _, _, _, _, _, _, _, _, _, _, _, _, _, _, _, _, _, _, _, _, _, _, _, by go_num, by omega, HM.out, J1.out⟩, ?_⟩
        simp [intOf]; omega
      case stop =>
        rintro D d pre W _ _ h _
        exact h.elim
  · obtain rfl : m = 4 := by omega
    have H5 := Lib.hid h5
    have HMK := Lib.hid hmk
    clear h5 hmk
    gi_wp2_with fail
    refine wpIn_wide.2 ?_
    have c1 := H5.out.c1.1
    have f1 := H5.out.c1.2
    have c2 := H5.out.c2.1
    have f2 := H5.out.c2.2
    go_region
    have HX : Two B b w ((W.setCell ⟨B + 1, 0, none⟩ (.slice (some ⟨g1, 0, none⟩) 5 5)).setCell ⟨B + 1 + 1, 0, none⟩ (.slice (some ⟨g2, 0, none⟩) 5 5)).drew g1 g2 (Vw.edTo v 4).1 (Vw.edTo v 4).2 := H5.out.again
    have HXH := Lib.hid HX
    have x1 := HX.c1.1
    have x2 := HX.c2.1
    have HM := Lib.hid (HMK.out.others (((KeepsOthers.setCell W ⟨B + 1, 0, none⟩ (.slice (some ⟨g1, 0, none⟩) 5 5)).trans (KeepsOthers.setCell _ ⟨B + 1 + 1, 0, none⟩ (.slice (some ⟨g2, 0, none⟩) 5 5))).trans (KeepsOthers.drew _)))
    obtain ⟨W8, hW8⟩ : ∃ W8, ((W.setCell ⟨B + 1, 0, none⟩ (.slice (some ⟨g1, 0, none⟩) 5 5)).setCell ⟨B + 1 + 1, 0, none⟩ (.slice (some ⟨g2, 0, none⟩) 5 5)).drew = W8 := ⟨_, rfl⟩
    rw [hW8] at x1 x2 HM HXH ⊢
    clear HX hW8 c1 c2 f1 f2 H5 HMK
    gi_wp2_with fail
    refine leaves_marks _ _ HM.out fun w' hs => ?_
    have y1 := hs.cellV x1
    have y2 := hs.cellV x2
    refine ⟨.tuple #[.slice (some ⟨g1, 0, none⟩) 5 5, .slice (some ⟨g2, 0, none⟩) 5 5], by simp [results, Tryd.results56, go_sem, y1, y2], _, _, rfl, ?_⟩
    rw [← HBw.out]
    exact ⟨hs.own HXH.out.o1, hs.own HXH.out.o2, Shut.below HXH.out.bw hs⟩
end Go.Proofs.YtkindaadadggoaaDoor
