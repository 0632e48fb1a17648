/- The walk of FoldSwaps: at every input it returns true. Conditions: none beyond the table's. -/
import Derived.Test.YtoedgncbgkdmoaaDoorFoldQ
namespace Go.Proofs.YtoedgncbgkdmoaaDoor
open Go.RowKit

namespace Fld
/-- two neighbours change places -/
def swapAt (t : List Nat) (i : Nat) : List Nat := (t.set i (t.getD (i - 1) 0)).set (i - 1) (t.getD i 0)
theorem split_two {t : List Nat} {i : Nat} (h1 : 1 ≤ i) (h2 : i < t.length) : ∃ p q, t = p ++ t.getD (i - 1) 0 :: t.getD i 0 :: q ∧ swapAt t i = p ++ t.getD i 0 :: t.getD (i - 1) 0 :: q := by
  have e : t = t.take (i - 1) ++ t.getD (i - 1) 0 :: t.getD i 0 :: t.drop (i + 1) := by
    rw [List.getD_eq_getElem?_getD, List.getD_eq_getElem?_getD, List.getElem?_eq_getElem h2, List.getElem?_eq_getElem (by omega : i - 1 < t.length)]
    have e1 := List.drop_eq_getElem_cons (l := t) (i := i - 1) (by omega)
    have e2 := List.drop_eq_getElem_cons (l := t) (i := i) h2
    rw [show i - 1 + 1 = i by omega, e2] at e1
    have e3 := (List.take_append_drop (i - 1) t).symm
    rw [e1] at e3
    exact e3
  refine ⟨t.take (i - 1), t.drop (i + 1), e, ?_⟩
  have hl : (t.take (i - 1)).length = i - 1 := by rw [List.length_take]; omega
  unfold swapAt
  generalize t.getD (i - 1) 0 = a at *
  generalize t.getD i 0 = b at *
  generalize t.drop (i + 1) = q at *
  generalize t.take (i - 1) = p at *
  rw [e]
  have hi : i = p.length + 1 := by omega
  rw [hi, List.set_append_right _ _ (by omega), show p.length + 1 - p.length = 1 by omega, List.set_append_right _ _ (by omega), show p.length + 1 - 1 - p.length = 0 by omega]
  rfl
theorem steps_swapAt {m t : List Nat} (hg : Good m) (ht : ∀ x ∈ t, x < m.length) {i : Nat} (h1 : 1 ≤ i) (h2 : i < t.length) :
    steps m t = steps m (swapAt t i) ↔ t.getD i 0 = t.getD (i - 1) 0 ∨ Odr.rel m (t.getD i 0) (t.getD (i - 1) 0) = true := by
  obtain ⟨p, q, e1, e2⟩ := split_two h1 h2
  have hp : ∀ x ∈ p, x < m.length := fun x hx => ht x (by rw [e1]; exact List.mem_append_left _ hx)
  have hq : ∀ x ∈ q, x < m.length := fun x hx => ht x (by rw [e1]; exact List.mem_append_right _ (List.mem_cons_of_mem _ (List.mem_cons_of_mem _ hx)))
  have ha : t.getD (i - 1) 0 < m.length := ht _ (by rw [List.getD_eq_getElem?_getD, List.getElem?_eq_getElem (by omega : i - 1 < t.length)]; exact List.getElem_mem _)
  have hb : t.getD i 0 < m.length := ht _ (by rw [List.getD_eq_getElem?_getD, List.getElem?_eq_getElem h2]; exact List.getElem_mem _)
  have h := steps_swap hg p q hp hq ha hb
  rw [← e1, ← e2] at h
  rw [h]
  constructor
  · rintro (h | h)
    · exact .inl h.symm
    · exact .inr (hg.2.2.2 _ _ h)
  · rintro (h | h)
    · exact .inl h.symm
    · exact .inr (hg.2.2.2 _ _ h)
theorem mem_swapAt {n : Nat} {t : List Nat} (ht : ∀ x ∈ t, x < n) {i : Nat} (h2 : i < t.length) : ∀ x ∈ swapAt t i, x < n := by
  intro x hx
  unfold swapAt at hx
  rcases List.mem_or_eq_of_mem_set hx with hx | rfl
  · rcases List.mem_or_eq_of_mem_set hx with hx | rfl
    · exact ht x hx
    · exact ht _ (by rw [List.getD_eq_getElem?_getD, List.getElem?_eq_getElem (by omega : i - 1 < t.length)]; exact List.getElem_mem _)
  · exact ht _ (by rw [List.getD_eq_getElem?_getD, List.getElem?_eq_getElem h2]; exact List.getElem_mem _)
end Fld

theorem layl (w : World) (l : List Int) (h : l.length ≤ 100) : ∃ w1, w.alloc (.cells (l.map fun x => (.int .i64 x : Value)).toArray 3) = w1 ∧ w1.heap.size = w.heap.size + 1 ∧ Below w.heap.size w w1 ∧
    Ints w1 w1.heap.size (.slice (some ⟨w.heap.size, 0, none⟩) l.length l.length) l := by
  refine ⟨_, rfl, by simp, (Below.refl _ _).alloc (Nat.le_refl _) _, ?_⟩
  have := Ints.lit w l 3 (by unfold maxLen; omega)
  rw [World.size_alloc]
  exact this
theorem Ints.later {w w' : World} {v : Value} {l : List Int} (h : Ints w w.heap.size v l) (hb : Below w.heap.size w w') : Ints w' w'.heap.size v l := (Rd.below h hb).more hb.size

set_option maxRecDepth 20000 in
set_option maxHeartbeats 1000000 in
theorem foldFact_calls (w : World) (hT : Tab w) : Calls Tryd.prog 9 #[] w fun e w' => e = .returned (.bool true) ∧ Below w.heap.size w w' := by
  have hg : Fld.Good [2, 1, 0] := (Fld.goodB_iff (by decide) (by unfold Odr.Fits; decide)).1 (by decide)
  have hs : Fld.steps [2, 1, 0] [1, 0, 2] = [3, 4] := by decide +kernel
  have hd : decide (Fld.steps [2, 1, 0] [1, 0, 2] = Fld.steps [2, 1, 0] [0, 1, 2]) = true := by decide +kernel
  obtain ⟨wa, hwa, sa, hba, la⟩ := layl w [2, 1, 0] (by decide)
  obtain ⟨wb, hwb, sb, hbb, lb⟩ := layl wa [1, 0, 2] (by decide)
  have hb2 := hba.trans (hbb.mono hba.size)
  have hst := Lib.hid (fsteps_ok [2, 1, 0] [1, 0, 2] _ _ wb (la.later hbb) lb hg (by decide) (by decide) (hT.below hb2))
  rw [hs] at hst
  simp only [List.map_cons, List.map_nil] at hwa hwb
  have HWA := Lib.hid hwa
  have HWB := Lib.hid hwb
  have SA := Lib.hid sa
  have HT := Lib.hid hT
  have HG := Lib.hid hg
  have HD := Lib.hid hd
  have HB2 := Lib.hid hb2
  clear hwa hwb la lb sb hba hbb hT hg hs hd hb2 sa
  go_enter Tryd.func9, Tryd.ntmps9
  go_wp2_with fail
  rw [HWA.out, ← SA.out, HWB.out]
  refine hst.out.mono ?_
  rintro e w1 ⟨v1, rfl, hown, hb1⟩
  have hb3 := HB2.out.trans (hb1.mono HB2.out.size)
  obtain ⟨wc, hwc, sc, hbc, lc⟩ := layl w1 [2, 1, 0] (by decide)
  obtain ⟨wd, hwd, sd, hbd, ld⟩ := layl wc [1, 0, 2] (by decide)
  obtain ⟨we, hwe, se, hbe, le⟩ := layl wd [0, 1, 2] (by decide)
  have hb4 := ((hb3.trans (hbc.mono hb3.size)).trans (hbd.mono (Nat.le_trans hb3.size hbc.size))).trans (hbe.mono (Nat.le_trans hb3.size (Nat.le_trans hbc.size hbd.size)))
  have hsm := Lib.hid (same_ok [2, 1, 0] [1, 0, 2] [0, 1, 2] _ _ _ we ((lc.later hbd).later hbe) (ld.later hbe) le HG.out (by decide) (by decide) (by decide) (by decide) (HT.out.below hb4))
  rw [HD.out] at hsm
  have hown2 := Lib.hid (((hown.kept hbc).kept hbd).kept hbe)
  simp only [List.map_cons, List.map_nil] at hwc hwd hwe
  have HWC := Lib.hid hwc
  have HWD := Lib.hid hwd
  have HWE := Lib.hid hwe
  have SC := Lib.hid sc
  have SD := Lib.hid sd
  have HB4 := Lib.hid hb4
  clear hst hwc hwd hwe lc ld le se hbc hbd hbe hb1 hb3 hown hb4 sc sd
  go_wp2_with fail
  rw [HWC.out, ← SC.out, HWD.out, ← SD.out, HWE.out]
  refine hsm.out.mono ?_
  rintro e w2 ⟨rfl, hb5⟩
  have hb6 := HB4.out.trans (hb5.mono HB4.out.size)
  obtain ⟨wf, hwf, sf, hbf, lf⟩ := layl w2 [3, 4] (by decide)
  have hj := Lib.hid (ints_calls v1 _ _ _ wf.heap.size wf (Nat.le_refl _) ((hown2.out.kept hb5).kept hbf).ints lf)
  rw [show decide (zs [3, 4] = [3, 4]) = true from by decide] at hj
  simp only [List.map_cons, List.map_nil] at hwf
  have HWF := Lib.hid hwf
  have HB6 := Lib.hid (hb6.trans (hbf.mono hb6.size))
  clear hsm hwf lf hb5 hb6 hbf sf
  go_wp2_with fail
  rw [HWF.out]
  refine hj.out.mono ?_
  rintro e w3 ⟨rfl, hb7⟩
  have hb8 := HB6.out.trans (hb7.mono HB6.out.size)
  clear hj hb7
  go_wp2_with fail
  go_ret
  exact ⟨rfl, hb8⟩

theorem bit12 (s i : Nat) (w : World) (hs : s < 4096) (hi : i < 64) : Calls Tryd.prog 11 #[nv s, nv i] w fun e w' => e = .returned (.bool (s.testBit i)) ∧ w = w' :=
  bit_calls s i w (by omega) (by omega)
theorem bitq (s i n : Nat) (w : World) (hs : s < 4096) (hi : i < 64) : Calls Tryd.prog 11 #[nv s, nv i] (w.drewN n) fun e w'' => e = .returned (.bool (s.testBit i)) ∧ ∃ m, w'' = w.drewN m :=
  Calls.quiet_of_same ((bit12 s i (w.drewN n) hs hi).mono fun _ _ ⟨a, b⟩ => ⟨a, b.symm⟩)
theorem swaps_err (l p : List Int) (f v : Value) (n : Int) (w : World) (hf : Ints w w.heap.size f l) (hv : Ints w w.heap.size v p) (hne : wordCode l p ≠ 0) (hT : Tab w) :
    Calls Tryd.prog 3 #[f, v, .int .i64 n] w fun e w' => e = .returned (.bool true) ∧ Below w.heap.size w w' := by
  have hfact := Lib.hid (foldFact_calls w hT)
  have hsc : sameCode l p p ≠ 0 := by unfold sameCode; rw [if_pos hne]; exact hne
  have HS := Lib.hid hsc
  have HF := Lib.hid hf
  have HV := Lib.hid hv
  clear hne hsc hf hv
  go_enter Tryd.func3, Tryd.ntmps3
  go_wp2_with fail
  refine hfact.out.mono ?_
  rintro e w1 ⟨rfl, hb1⟩
  have hs := Lib.hid (same_err l p p f v v w1 (HF.out.later hb1) (HV.out.later hb1) (HV.out.later hb1) HS.out (hT.below hb1))
  clear hfact
  go_wp2_with fail
  refine hs.out.mono ?_
  rintro e w2 ⟨rfl, hb2⟩
  clear hs
  go_wp2_with fail
  go_ret
  exact ⟨rfl, hb1.trans (hb2.mono hb1.size)⟩

set_option maxRecDepth 100000 in
set_option maxHeartbeats 4000000 in
theorem swaps_ok (m t : List Nat) (f v : Value) (n : Int) (w : World) (hf : Ints w w.heap.size f (zs m)) (hv : Ints w w.heap.size v (zs t)) (hg : Fld.Good m) (hl : t.length ≤ 24) (ht : ∀ x ∈ t, x < m.length) (hT : Tab w) :
    Calls Tryd.prog 3 #[f, v, .int .i64 n] w fun e w' => e = .returned (.bool true) ∧ Below w.heap.size w w' := by
  have hfact := Lib.hid (foldFact_calls w hT)
  have HF := Lib.hid hf
  have HV := Lib.hid hv
  have HG := Lib.hid hg
  have HT := Lib.hid ht
  have HTB := Lib.hid hT
  clear hf hv hg ht hT
  go_enter Tryd.func3, Tryd.ntmps3
  go_wp2_with fail
  refine hfact.out.mono ?_
  rintro e w1 ⟨rfl, hb1⟩
  have hs := Lib.hid (same_ok m t t f v v w1 (HF.out.later hb1) (HV.out.later hb1) (HV.out.later hb1) HG.out hl HT.out hl HT.out (HTB.out.below hb1))
  rw [show decide (Fld.steps m t = Fld.steps m t) = true by simp] at hs
  clear hfact
  go_wp2_with fail
  refine hs.out.mono ?_
  rintro e w2 ⟨rfl, hb2⟩
  have hbb := hb1.trans (hb2.mono hb1.size)
  clear hs hb1 hb2
  have hv2 := HV.out.later hbb
  obtain ⟨A, cap, rfl⟩ := Rd.val hv2
  rw [length_zs] at hv2
  by_cases hin : 1 ≤ n ∧ n < t.length
  · obtain ⟨i, rfl⟩ : ∃ i : Nat, n = i := ⟨n.toNat, by omega⟩
    have h1 : 1 ≤ i := by omega
    have h2 : i < t.length := by omega
    clear hin
    have hd1 : decide ((i : Int) < 1) = false := by simp; omega
    have hd2 : decide (t.length ≤ i) = false := by simp; omega
    have hd3 : decide ((t.length : Int) ≤ (i : Int)) = false := by simp; omega
    rw [length_zs]
    obtain ⟨b0, off, cc, he, hB0, hci⟩ := Ints.atN hv2 h2
    cases he
    obtain ⟨b0', off', cc', he, hB0', hcj⟩ := Ints.atN hv2 (k := i - 1) (by omega)
    cases he
    have e1 : IntKind.i64.wrap ((i : Int) - 1) = (i : Int) - 1 := IntWalk.i64_in _ (by constructor <;> omega)
    have e2 : (0 : Int) ≤ (i : Int) - 1 := by omega
    have e2' : (1 : Int) ≤ (i : Int) := by omega
    have e3 : ((i : Int) - 1).toNat = i - 1 := by omega
    have e4 : (i : Int) - 1 < (t.length : Int) := by omega
    have hsw := Lib.hid (Fld.steps_swapAt HG.out HT.out h1 h2)
    have hmw := Lib.hid (Fld.mem_swapAt HT.out h2)
    have hlw := Lib.hid (show (Fld.swapAt t i).length = t.length by simp [Fld.swapAt])
    have hxa : t.getD (i - 1) 0 < m.length := HT.out _ (by rw [List.getD_eq_getElem?_getD, List.getElem?_eq_getElem (by omega : i - 1 < t.length)]; exact List.getElem_mem _)
    have hxb : t.getD i 0 < m.length := HT.out _ (by rw [List.getD_eq_getElem?_getD, List.getElem?_eq_getElem h2]; exact List.getElem_mem _)
    have hsa := Lib.hid (show (t.set i (t.getD (i - 1) 0)).set (i - 1) (t.getD i 0) = Fld.swapAt t i from rfl)
    generalize t.getD (i - 1) 0 = a at *
    generalize t.getD i 0 = b at *
    have HV2 := Lib.hid hv2
    clear hv2
    go_wp2_with (at_builtin; refine append_ints rfl _ _ rfl w2.heap.size _ [] rfl (Own.nil _ _) (.slice (some ⟨b0, off, none⟩) t.length cap) (zs t) w2.heap.size rfl HV2.out (by simp; omega) (Nat.le_refl _) ?_; intro v1 w3 hown hb3 hg1; clear hg1; obtain ⟨A1, c1, rfl⟩ := Rd.val hown.ints; simp only [List.nil_append, length_zs] at hown ⊢; obtain ⟨g, c2, he, gb, gs, _, gc, gf, gst⟩ := Own.shape hown (by rw [length_zs]; omega); rw [length_zs] at he; injection he with he hn3 he3; subst he; subst he3; clear hn3; have hgf := gf i; have hgf' := gf (i - 1); have GST := Lib.hid gst; have hgi := gc i (by rw [length_zs]; exact h2); have hgj := gc (i - 1) (by rw [length_zs]; omega); have hne : b0 ≠ g := (by omega); have d1 := (hb3.cell (p := ⟨b0, off + i, none⟩) hB0).trans hci; have d2 := (hb3.cell (p := ⟨b0, off + (i - 1), none⟩) hB0).trans hcj; clear gc gf gst hown hci hcj)
    have hn := HG.out.1
    obtain ⟨w5, hw5⟩ : ∃ w5, (w3.setCell ⟨g, i, none⟩ (nv a)).setCell ⟨g, i - 1, none⟩ (nv b) = w5 := ⟨_, rfl⟩
    rw [hw5]
    have hb5 : Below w2.heap.size w3 w5 := by rw [← hw5]; exact ((Below.refl _ _).setCell (p := ⟨g, i, none⟩) gb _).setCell (p := ⟨g, i - 1, none⟩) gb _
    have hown5 := GST.out i (a : Int)
    rw [zs_set] at hown5
    have hown6 := (Own.lit hown5).2.2.2.2 (i - 1) (b : Int)
    rw [zs_set, hsa.out, hw5] at hown6
    have hb25 := hb3.trans hb5
    have hbc5 := hbb.trans (hb25.mono hbb.size)
    have hi6 := hown6.ints
    have hs5 := Lib.hid (same_ok m t (Fld.swapAt t i) f (.slice (some ⟨b0, off, none⟩) t.length cap) (.slice (some ⟨g, 0, none⟩) t.length c1) w5 (HF.out.later hbc5) ((Rd.below HV2.out hb25).more hb25.size) hi6 HG.out hl HT.out (by rw [hlw.out]; exact hl) hmw.out (HTB.out.below hbc5))
    have D1 := (hb5.cell (p := ⟨b0, off + i, none⟩) hB0).trans d1
    have D2 := (hb5.cell (p := ⟨b0, off + (i - 1), none⟩) hB0).trans d2
    have hs25 := hb25.size
    clear hown5 hown6 hi6 hw5 hb5 d1 d2 hgi hgj hgf hgf' GST hb3 hb25 hbb hsa hmw hlw
    (with_reducible refine hs5.out.mono ?_)
    rintro e w6 ⟨rfl, hb6⟩
    clear hs5
    have E1 := (hb6.cell (p := ⟨b0, off + i, none⟩) (by simp; omega)).trans D1
    have E2 := (hb6.cell (p := ⟨b0, off + (i - 1), none⟩) (by simp; omega)).trans D2
    have hbw6 := hbc5.trans (hb6.mono hbc5.size)
    obtain ⟨bf, of, cf, he, _, hcf⟩ := Ints.atN (Rd.below HF.out hbw6) hxb
    subst he
    have hf64 : m.getD b 0 < 4096 := fits12 (l := m) (by omega) (HG.out.2.1.getD b)
    have hrel := Lib.hid (show Odr.rel m b a = (m.getD b 0).testBit a from rfl)
    generalize m.getD b 0 = fb at *
    have HB := Lib.hid hbw6
    clear D1 D2 hb6 hbc5 hbw6
    have h1' : (1 : Int) ≤ (i : Int) := e2'
    have h2' : (i : Int) < (t.length : Int) := by omega
    by_cases hab : b = a
    · have hd : decide (Fld.steps m t = Fld.steps m (Fld.swapAt t i)) = true := by simp only [decide_eq_true_eq]; exact hsw.out.2 (.inl hab)
      have hbe : ((b : Int) == (a : Int)) = true := by simp; omega
      rw [hd]
      clear hd hab hsw
      go_wp2_with fail
      go_quiet (fail)
      go_wp2_with fail
      go_ret
      exact ⟨by simp, drn HB.out _⟩
    · have hd : decide (Fld.steps m t = Fld.steps m (Fld.swapAt t i)) = fb.testBit a := by
        rw [← hrel.out, Bool.eq_iff_iff, decide_eq_true_eq, hsw.out]
        exact ⟨fun h => h.resolve_left hab, .inr⟩
      have hbe : ((b : Int) == (a : Int)) = false := by simp; omega
      rw [hd]
      clear hd hab hsw
      go_wp2_with fail
      go_quiet ((go_at_call 11; exact bitq _ _ _ _ hf64 (by omega)))
      go_wp2_with fail
      go_ret
      exact ⟨by simp, drn HB.out _⟩
  · have hcase : (decide (n < 1) = true) ∨ (decide (n < 1) = false ∧ decide ((t.length : Int) ≤ n) = true) := by
      by_cases h : n < 1
      · exact .inl (by simp [h])
      · exact .inr ⟨by simp; omega, by simp; omega⟩
    clear hin
    rw [length_zs]
    rcases hcase with hd | ⟨hd, hd2⟩
    all_goals
      go_wp2_with fail
      go_ret
      exact ⟨rfl, hbb⟩
theorem fswaps_calls (l p : List Int) (f v : Value) (n : Int) (w : World) (hf : Ints w w.heap.size f l) (hv : Ints w w.heap.size v p) (hT : Tab w) :
    Calls Tryd.prog 3 #[f, v, .int .i64 n] w fun e w' => e = .returned (.bool true) ∧ Below w.heap.size w w' := by
  by_cases h : wordCode l p = 0
  · obtain ⟨m, t, rfl, rfl, hg, hl, ht⟩ := wordCode_zero h
    exact swaps_ok m t f v n w hf hv hg hl ht hT
  · exact swaps_err l p f v n w hf hv h hT
end Go.Proofs.YtoedgncbgkdmoaaDoor
