/- Contracts of package lock in one: Do at every deed, New, Acts. Conditions: each contract's own premises. -/
import Derived.Test.YtkindaadadggoaaDoorTabH
import Derived.Test.YtkindaadadggoaaDoorAny
namespace Go.Proofs.YtkindaadadggoaaDoor
open Go.RowKit

theorem ldo_any (l : Lk.L) (k tx it : Nat) (wt : Int) (b : Nat) (v : Value) (w : World) (h : TabAt w b l v) (hI : Lk.Inv l) (hk : k < 3) (d2 : tx < 5) (d3 : it < 4) (u : Nat) :
    Calls Tryd.prog 34 #[.pointer (some ⟨b, 0, none⟩), .agg #[nv k, nv tx, nv it, iv wt]] w fun e w' => e = .returned (errv (Lk.lstep l (k, tx, it, u)).2) ∧ TabTo w b v (Lk.lstep l (k, tx, it, u)).1 w' := by
  unfold Lk.lstep
  simp only
  have hk : k = 0 ∨ k = 1 ∨ k = 2 := by omega
  rcases hk with rfl | rfl | rfl
  · rw [if_pos (by decide)]
    by_cases hs : l.shr.testBit tx = true
    · rw [if_pos hs]; exact ldo_share_shr l tx it wt b v w h hI d2 d3 hs
    · rw [if_neg hs]
      have hs' : l.shr.testBit tx = false := by simpa using hs
      by_cases hb : Lk.blk l tx it 0 = 0
      · rw [if_neg (by simpa using hb)]
        exact ldo_share_yes l tx it wt b v w h hI d2 d3 hs' hb
      · rw [if_pos hb]; exact ldo_share_blk l tx it wt b v w h hI d2 d3 hs' hb
  · rw [if_pos (by decide)]
    by_cases hs : l.shr.testBit tx = true
    · rw [if_pos hs]; exact ldo_own_shr l tx it wt b v w h hI d2 d3 hs
    · rw [if_neg hs]
      have hs' : l.shr.testBit tx = false := by simpa using hs
      by_cases hb : Lk.blk l tx it 1 = 0
      · rw [if_neg (by simpa using hb)]
        exact ldo_own_yes l tx it wt b v w h hI d2 d3 hs' hb
      · rw [if_pos hb]; exact ldo_own_blk l tx it wt b v w h hI d2 d3 hs' hb
  · rw [if_neg (by decide), if_pos rfl]
    unfold Lk.freed
    simp only [Lk.reads, Lk.mine, decide_eq_false_iff_not]
    cases hr : (l.rdr.getD it 0).testBit tx
    · by_cases hm : l.wtr.getD it 0 = tx + 1
      · rw [if_neg (fun h => h.2 hm), if_pos hm]
        exact ldo_free_w l tx it wt b v w h hI d2 d3 hr hm
      · rw [if_pos ⟨rfl, hm⟩]
        exact ldo_free_no l tx it wt b v w h hI d2 d3 hr hm
    · rw [if_neg (fun h => by cases h.1)]
      by_cases hm : l.wtr.getD it 0 = tx + 1
      · rw [if_pos hm]
        exact ldo_free_rw l tx it wt b v w h hI d2 d3 hr hm
      · rw [if_neg hm]
        exact ldo_free_r l tx it wt b v w h hI d2 d3 hr hm
theorem ldo_do (l : Lk.L) (tx it wt : Nat) (b : Nat) (v : Value) (w : World) (h : TabAt w b l v) (hI : Lk.Inv l) (d2 : tx < 5) (d3 : it < 4) (hw2 : wt < 2) :
    Calls Tryd.prog 34 #[.pointer (some ⟨b, 0, none⟩), .agg #[.int .i64 3, nv tx, nv it, nv wt]] w fun e w' => e = .returned (errv (Lk.lstep l (3, tx, it, wt)).2) ∧ TabTo w b v (Lk.lstep l (3, tx, it, wt)).1 w' := by
  have hl24 : l.acts.length ≤ 24 := hI.2.2.2.2.2.2.1
  unfold Lk.lstep
  simp only
  rw [if_neg (by decide), if_neg (by decide)]
  have hw : wt = 0 ∨ wt = 1 := by omega
  simp only [Lk.reads, Lk.mine, decide_eq_false_iff_not]
  by_cases hm : l.wtr.getD it 0 = tx + 1
  · rw [if_neg (fun h => h.1 hm)]
    by_cases hl : l.acts.length = 24
    · rw [if_pos hl]; exact ldo_do_fullm l tx it wt b v w h hI d2 d3 hm hw2 hl
    · rw [if_neg hl]; exact ldo_do_m l tx it wt b v w h hI d2 d3 hm hw2 (by omega)
  · rcases hw with rfl | rfl
    · cases hr : (l.rdr.getD it 0).testBit tx
      · rw [if_pos ⟨hm, .inr rfl⟩]
        exact ldo_do_no0 l tx it b v w h hI d2 d3 hr hm
      · rw [if_neg (fun h => by rcases h.2 with h | h <;> cases h)]
        by_cases hl : l.acts.length = 24
        · rw [if_pos hl]; exact ldo_do_fullr l tx it b v w h hI d2 d3 hr hm hl
        · rw [if_neg hl]; exact ldo_do_r l tx it b v w h hI d2 d3 hr hm (by omega)
    · rw [if_pos ⟨hm, .inl rfl⟩]
      exact ldo_do_no1 l tx it b v w h hI d2 d3 hm


abbrev Deed4 := Int × Int × Int × Int
def deedOk (d : Deed4) : Prop := (0 ≤ d.1 ∧ d.1 ≤ 3) ∧ (0 ≤ d.2.1 ∧ d.2.1 ≤ 4) ∧ (0 ≤ d.2.2.1 ∧ d.2.2.1 ≤ 3) ∧ (d.1 = 3 → 0 ≤ d.2.2.2 ∧ d.2.2.2 ≤ 1)
instance (d : Deed4) : Decidable (deedOk d) := by unfold deedOk; infer_instance

set_option maxHeartbeats 1000000 in
theorem in_bad (d : Deed4) (w : World) (h : ¬ deedOk d) :
    Calls Tryd.prog 67 #[.agg #[iv d.1, iv d.2.1, iv d.2.2.1, iv d.2.2.2]] w fun e w' => e = .returned (.bool false) ∧ w.alloc (.cells #[iv d.1, iv d.2.1, iv d.2.2.1, iv d.2.2.2] 49) = w' := by
  obtain ⟨k, tx, it, wt⟩ := d
  unfold deedOk at h
  simp only at h ⊢
  by_cases h1 : 0 ≤ k ∧ k ≤ 3
  · by_cases h2 : 0 ≤ tx ∧ tx ≤ 4
    · by_cases h3 : 0 ≤ it ∧ it ≤ 3
      · have h4 : k = 3 ∧ ¬ (0 ≤ wt ∧ wt ≤ 1) := by
          by_cases e : k = 3
          · exact ⟨e, fun g => h ⟨h1, h2, h3, fun _ => g⟩⟩
          · exact absurd ⟨h1, h2, h3, fun g => absurd g e⟩ h
        obtain ⟨hk, h4⟩ := h4
        subst hk
        have H4 := Lib.hid h4
        obtain ⟨o3, o4⟩ := h2
        obtain ⟨o5, o6⟩ := h3
        clear h4 h h1
        go_enter Tryd.func67, Tryd.ntmps67
        go_wp2_with (go_at_call 57; first | (refine (within_yes _ _ _ _ (by omega) (by omega)).mono ?_; rintro e w' ⟨rfl, rfl⟩) | (refine (within_no _ _ _ _ H4.out).mono ?_; rintro e w' ⟨rfl, rfl⟩))
        go_ret
        exact ⟨rfl, rfl⟩
      · have H3 := Lib.hid h3
        obtain ⟨o1, o2⟩ := h1
        obtain ⟨o3, o4⟩ := h2
        clear h3 h
        go_enter Tryd.func67, Tryd.ntmps67
        go_wp2_with (go_at_call 57; first | (refine (within_yes _ _ _ _ (by omega) (by omega)).mono ?_; rintro e w' ⟨rfl, rfl⟩) | (refine (within_no _ _ _ _ H3.out).mono ?_; rintro e w' ⟨rfl, rfl⟩))
        go_ret
        exact ⟨rfl, rfl⟩
    · have H2 := Lib.hid h2
      obtain ⟨o1, o2⟩ := h1
      clear h2 h
      go_enter Tryd.func67, Tryd.ntmps67
      go_wp2_with (go_at_call 57; first | (refine (within_yes _ _ _ _ (by omega) (by omega)).mono ?_; rintro e w' ⟨rfl, rfl⟩) | (refine (within_no _ _ _ _ H2.out).mono ?_; rintro e w' ⟨rfl, rfl⟩))
      go_ret
      exact ⟨rfl, rfl⟩
  · have H1 := Lib.hid h1
    clear h1 h
    go_enter Tryd.func67, Tryd.ntmps67
    go_wp2_with (go_at_call 57; refine (within_no _ _ _ _ H1.out).mono ?_; rintro e w' ⟨rfl, rfl⟩)
    go_ret
    exact ⟨rfl, rfl⟩
set_option maxRecDepth 20000 in
theorem ldo_bad (l : Lk.L) (d : Deed4) (b : Nat) (v : Value) (w : World) (h : TabAt w b l v) (hbad : ¬ deedOk d) :
    Calls Tryd.prog 34 #[.pointer (some ⟨b, 0, none⟩), .agg #[iv d.1, iv d.2.1, iv d.2.2.1, iv d.2.2.2]] w fun e w' => e = .returned (errv 1) ∧ TabTo w b v l w' := by
  have hin := Lib.hid fun w5 => in_bad d w5 hbad
  have HF := Lib.hid (TabTo.same h (.cells #[iv d.1, iv d.2.1, iv d.2.2.1, iv d.2.2.2] 49) (.cells #[iv d.1, iv d.2.1, iv d.2.2.1, iv d.2.2.2] 49) 0)
  obtain ⟨x0, x1, x2, x3⟩ := d
  simp only at hin HF ⊢
  clear h hbad
  go_enter Tryd.func34, Tryd.ntmps34
  go_wp2_with fail
  (with_reducible refine (hin.out _).mono ?_)
  rintro e w5 ⟨rfl, rfl⟩
  clear hin
  go_wp2_with fail
  go_ret
  exact ⟨rfl, HF.out⟩
/-- what becomes of a table, whatever comes -/
def lstepI (l : Lk.L) (d : Deed4) : Lk.L × Nat := if deedOk d then Lk.lstep l (d.1.toNat, d.2.1.toNat, d.2.2.1.toNat, if d.1 = 3 then d.2.2.2.toNat else 0) else (l, 1)
def deedN (d : Deed4) : Lk.N4 := (d.1.toNat, d.2.1.toNat, d.2.2.1.toNat, d.2.2.2.toNat)
theorem lstepI_ok {d : Deed4} (h : deedOk d) : Lk.Ok4 (d.1.toNat, d.2.1.toNat, d.2.2.1.toNat, if d.1 = 3 then d.2.2.2.toNat else 0) := by
  obtain ⟨⟨h1, h2⟩, ⟨h3, h4⟩, ⟨h5, h6⟩, h7⟩ := h
  refine ⟨by show d.1.toNat < 4; omega, by show d.2.1.toNat < 5; omega, by show d.2.2.1.toNat < 4; omega, fun _ => ?_⟩
  show (if d.1 = 3 then d.2.2.2.toNat else 0) < 2
  split
  · rename_i e
    have := h7 e
    omega
  · omega
theorem Lk.Inv.stepI {l : Lk.L} (h : Lk.Inv l) (d : Deed4) : Lk.Inv (lstepI l d).1 := by
  unfold lstepI
  split
  · exact Lk.inv_step h (lstepI_ok (by assumption))
  · exact h
theorem ldo_calls (l : Lk.L) (d : Deed4) (b : Nat) (v : Value) (w : World) (h : TabAt w b l v) (hI : Lk.Inv l) :
    Calls Tryd.prog 34 #[.pointer (some ⟨b, 0, none⟩), .agg #[iv d.1, iv d.2.1, iv d.2.2.1, iv d.2.2.2]] w fun e w' => e = .returned (errv (lstepI l d).2) ∧ TabTo w b v (lstepI l d).1 w' := by
  unfold lstepI
  by_cases hok : deedOk d
  · rw [if_pos hok]
    obtain ⟨p, q, r, s⟩ := d
    obtain ⟨⟨h1, h2⟩, ⟨h3, h4⟩, ⟨h5, h6⟩, h7⟩ := hok
    simp only at h1 h2 h3 h4 h5 h6 h7 ⊢
    obtain ⟨k, rfl⟩ := Int.eq_ofNat_of_zero_le h1
    obtain ⟨tx, rfl⟩ := Int.eq_ofNat_of_zero_le h3
    obtain ⟨it, rfl⟩ := Int.eq_ofNat_of_zero_le h5
    by_cases hk : k = 3
    · subst hk
      obtain ⟨a, c⟩ := h7 rfl
      obtain ⟨wt, rfl⟩ := Int.eq_ofNat_of_zero_le a
      exact ldo_do l tx it wt b v w h hI (by omega) (by omega) (by omega)
    · rw [if_neg (by omega)]
      exact ldo_any l k tx it s b v w h hI (by omega) (by omega) (by omega) 0
  · rw [if_neg hok]
    exact ldo_bad l d b v w h hok
theorem lnew_calls (w : World) : Calls Tryd.prog 33 #[] w fun e w' => e = .returned (.pointer (some ⟨w.heap.size, 0, none⟩)) ∧ TabAt w' w.heap.size Lk.l0 (.slice none 0 0) ∧ Below w.heap.size w w' := by
  go_enter Tryd.func33, Tryd.ntmps33
  go_wp2_with fail
  go_ret
  refine ⟨rfl, ⟨World.rowIs_alloc w _ _ _ fun i hi => ?_, OwnA.nil _ _⟩, (Below.refl _ _).alloc (Nat.le_refl _) _⟩
  have hi : i < 25 := hi
  have hc : i = 0 ∨ i = 1 ∨ i = 2 ∨ i = 3 ∨ i = 4 ∨ i = 5 ∨ i = 6 ∨ i = 7 ∨ i = 8 ∨ i = 9 ∨ i = 10 ∨ i = 11 ∨ i = 12 ∨ i = 13 ∨ i = 14 ∨ i = 15 ∨ i = 16 ∨ i = 17 ∨ i = 18 ∨ i = 19 ∨ i = 20 ∨ i = 21 ∨ i = 22 ∨ i = 23 ∨ i = 24 := by omega
  rcases hc with rfl | rfl | rfl | rfl | rfl | rfl | rfl | rfl | rfl | rfl | rfl | rfl | rfl | rfl | rfl | rfl | rfl | rfl | rfl | rfl | rfl | rfl | rfl | rfl | rfl <;> first | rfl | simp [lcell, wcell, Lk.l0]
theorem lacts_calls (l : Lk.L) (b : Nat) (v : Value) (w : World) (h : TabAt w b l v) (hl : l.acts.length ≤ 24) :
    Calls Tryd.prog 35 #[.pointer (some ⟨b, 0, none⟩)] w fun e w' => ∃ v', e = .returned v' ∧ OwnA w' w.heap.size v' (Sch.zacts l.acts) ∧ Below w.heap.size w w' := by
  have h1 := h.acts
  have HA := Lib.hid h.2.acts
  have hsz : (Sch.zacts l.acts).length = l.acts.length := by simp
  obtain ⟨A, cap, rfl⟩ := Rd.val HA.out
  rw [hsz] at *
  clear h hsz
  go_enter Tryd.func35, Tryd.ntmps35
  go_wp2_with (at_builtin; refine append_acts_any rfl _ _ rfl w.heap.size _ [] (Sch.zacts l.acts) rfl (OwnA.nil _ _) w.heap.size A cap (by rw [Sch.length_zacts]; rfl) (by rw [Sch.length_zacts]; exact HA.out) (by simp; omega) (Nat.le_refl _) ?_; intro v1 w1 hown hb)
  go_ret
  exact ⟨_, rfl, by simpa using hown, hb⟩
end Go.Proofs.YtkindaadadggoaaDoor
