/- Contract of view.Do at every deed. Conditions: the contract's own premises. -/
import Derived.Test.YtkindaadadggoaaDoorVCommit
namespace Go.Proofs.YtkindaadadggoaaDoor
open Go.RowKit

/-- is it a deed that may be? -/
def vokI (d : Deed4V) : Prop := (3 ≤ d.1 ∧ d.1 ≤ 5) ∧ (0 ≤ d.2.1 ∧ d.2.1 ≤ 4) ∧ (d.1 = 3 → (0 ≤ d.2.2.1 ∧ d.2.2.1 ≤ 3) ∧ (0 ≤ d.2.2.2 ∧ d.2.2.2 ≤ 1))
instance (d : Deed4V) : Decidable (vokI d) := by unfold vokI; infer_instance
def natD (d : Deed4V) : Vw.D4 := (d.1.toNat, d.2.1.toNat, d.2.2.1.toNat, d.2.2.2.toNat)
def vstepI (v : Vw.V) (d : Deed4V) : Vw.V × Int × Nat := if vokI d then Vw.vstep v (natD d) else (v, 0, 1)
theorem okD_nat {d : Deed4V} (h : vokI d) : Vw.OkD (natD d) := by
  obtain ⟨⟨h1, h2⟩, ⟨h3, h4⟩, h5⟩ := h
  refine ⟨by show 3 ≤ d.1.toNat; omega, by show d.1.toNat ≤ 5; omega, by show d.2.1.toNat < 5; omega, fun h => ?_⟩
  have h6 : d.1.toNat = 3 := h
  obtain ⟨⟨g1, g2⟩, g3, g4⟩ := h5 (by omega)
  exact ⟨by show d.2.2.1.toNat < 4; omega, by show d.2.2.2.toNat < 2; omega⟩
theorem Vw.Inv.stepI {v : Vw.V} (h : Vw.Inv v) (d : Deed4V) : Vw.Inv (vstepI v d).1 := by
  unfold vstepI
  split
  · rename_i hd; exact Vw.inv_step h (okD_nat hd)
  · exact h
theorem StTo.from_below {w w1 w2 : World} {b : Nat} {v : Vw.V} {vs : Nat → Value} (hb : Below w.heap.size w w1) (h : StTo w1 b vs v w2) : StTo w b vs v w2 := by
  obtain ⟨vs', h1, h2, h3⟩ := h
  refine ⟨vs', h1, (Only.of_below hb (Nat.le_refl _) (FootV b vs)).trans h2 (fun _ h => .inl h), fun k hk => ?_⟩
  rcases h3 k hk with q | q
  · exact .inl q
  · exact .inr (Nat.le_trans hb.size q)

set_option maxRecDepth 20000 in
set_option maxHeartbeats 2000000 in
theorem vdo_commit (v : Vw.V) (x : Nat) (i u : Int) (b : Nat) (vs : Nat → Value) (w : World) (h : StAt w b v vs) (hI : Vw.Inv v) (hx : x < 5) (hp : (Vw.tx v x).ph = 1) (hT : Tab w) (hTb : 2 < b) :
    Calls Tryd.prog 25 #[.pointer (some ⟨b, 0, none⟩), dval (.int .i64 5) (nv x) (iv i) (iv u)] w fun e w' => (Vw.stale v x = true → e = .returned (.tuple #[.int .i64 0, .iface 93 (.int .i64 6)]) ∧ StTo w b vs (Vw.put v x { Vw.tx v x with ph := 3 }) w') ∧
      (Vw.stale v x = false → e = .returned (.tuple #[.int .i64 (-1), .nilIface]) ∧ StTo w b vs (Vw.commit v x) w') := by
  have h0 := h.alloc (dobj (.int .i64 5) (nv x) (iv i) (iv u))
  have h1 := h0.ph hx
  have hb := h.1.lt
  have hB : ∀ n, Below w.heap.size w ((w.alloc (dobj (.int .i64 5) (nv x) (iv i) (iv u))).drewN n) := fun n => drn ((Below.refl _ _).alloc (Nat.le_refl _) _) n
  have hc := Lib.hid fun n => vcommit_calls v x b vs ((w.alloc (dobj (.int .i64 5) (nv x) (iv i) (iv u))).drewN n) (h0.drewN n) hI hx hp (hT.below (hB n)) hTb
  have HB := Lib.hid hB
  rw [hp] at h1
  generalize hq : Vw.put v x { Vw.tx v x with ph := 3 } = v3 at *
  generalize Vw.commit v x = v2 at *
  generalize Vw.stale v x = st at *
  clear h h0 hI hp hT hB hq
  go_enter Tryd.func25, Tryd.ntmps25
  go_wp2_with (go_at_call 57; refine (within_yes _ _ _ _ (by omega) (by omega)).mono ?_; rintro e w' ⟨rfl, rfl⟩)
  go_quiet (fail)
  go_wp2_with fail
  (with_reducible refine (hc.out _).mono ?_)
  rintro e w2 ⟨ha, hb2⟩
  have HBB := Lib.hid (HB.out nq)
  clear hc HB
  cases st with
  | true =>
    obtain ⟨rfl, ht⟩ := ha rfl
    have HT := Lib.hid (StTo.from_below HBB.out ht)
    clear ha hb2 ht
    go_wp2_with fail
    go_ret2
    exact ⟨rfl, HT.out⟩
  | false =>
    obtain ⟨rfl, ht⟩ := hb2 rfl
    have HT := Lib.hid (StTo.from_below HBB.out ht)
    clear ha hb2 ht
    go_wp2_with fail
    go_ret2
    exact ⟨rfl, HT.out⟩
set_option maxRecDepth 20000 in
set_option maxHeartbeats 2000000 in
theorem vdo_bad (d : Deed4V) (b : Nat) (w : World) (hbad : ¬ vokI d) :
    Calls Tryd.prog 25 #[.pointer (some ⟨b, 0, none⟩), dval (iv d.1) (iv d.2.1) (iv d.2.2.1) (iv d.2.2.2)] w fun e w' => e = .returned (.tuple #[.int .i64 0, .iface 93 (.int .i64 1)]) ∧ Below w.heap.size w w' := by
  obtain ⟨k, x, i, u⟩ := d
  unfold vokI at hbad
  simp only at hbad ⊢
  have HF := Lib.hid ((Below.refl w.heap.size w).alloc (Nat.le_refl _) (dobj (iv k) (iv x) (iv i) (iv u)))
  by_cases h1 : 3 ≤ k ∧ k ≤ 5
  · by_cases h2 : 0 ≤ x ∧ x ≤ 4
    · have h3 : k = 3 ∧ ¬ ((0 ≤ i ∧ i ≤ 3) ∧ (0 ≤ u ∧ u ≤ 1)) := by
        refine ⟨Classical.byContradiction fun hk => hbad ⟨h1, h2, fun e => absurd e hk⟩, fun hh => hbad ⟨h1, h2, fun _ => hh⟩⟩
      obtain ⟨rfl, h3⟩ := h3
      obtain ⟨o1, o2⟩ := h2
      by_cases h4 : 0 ≤ i ∧ i ≤ 3
      · have H5 := Lib.hid (show ¬ (0 ≤ u ∧ u ≤ 1) from fun h => h3 ⟨h4, h⟩)
        obtain ⟨o3, o4⟩ := h4
        clear h1 h3 hbad
        go_enter Tryd.func25, Tryd.ntmps25
        go_wp2_with (go_at_call 57; first | (refine (within_yes _ _ _ _ (by omega) (by omega)).mono ?_; rintro e w' ⟨rfl, rfl⟩) | (refine (within_no _ _ _ _ H5.out).mono ?_; rintro e w' ⟨rfl, rfl⟩))
        go_ret2
        exact ⟨rfl, HF.out⟩
      · have H4 := Lib.hid h4
        clear h1 h3 h4 hbad
        go_enter Tryd.func25, Tryd.ntmps25
        go_wp2_with (go_at_call 57; first | (refine (within_yes _ _ _ _ (by omega) (by omega)).mono ?_; rintro e w' ⟨rfl, rfl⟩) | (refine (within_no _ _ _ _ H4.out).mono ?_; rintro e w' ⟨rfl, rfl⟩))
        go_ret2
        exact ⟨rfl, HF.out⟩
    · have H2 := Lib.hid h2
      obtain ⟨o1, o2⟩ := h1
      clear h2 hbad
      go_enter Tryd.func25, Tryd.ntmps25
      go_wp2_with (go_at_call 57; first | (refine (within_yes _ _ _ _ (by omega) (by omega)).mono ?_; rintro e w' ⟨rfl, rfl⟩) | (refine (within_no _ _ _ _ H2.out).mono ?_; rintro e w' ⟨rfl, rfl⟩))
      go_ret2
      exact ⟨rfl, HF.out⟩
  · have H1 := Lib.hid h1
    clear h1 hbad
    go_enter Tryd.func25, Tryd.ntmps25
    go_wp2_with (go_at_call 57; refine (within_no _ _ _ _ H1.out).mono ?_; rintro e w' ⟨rfl, rfl⟩)
    go_ret2
    exact ⟨rfl, HF.out⟩
/-- Do at every deed -/
theorem vdo_calls (v : Vw.V) (d : Deed4V) (b : Nat) (vs : Nat → Value) (w : World) (h : StAt w b v vs) (hI : Vw.Inv v) (hT : Tab w) (hTb : 2 < b) :
    Calls Tryd.prog 25 #[.pointer (some ⟨b, 0, none⟩), dval (iv d.1) (iv d.2.1) (iv d.2.2.1) (iv d.2.2.2)] w fun e w' => e = .returned (.tuple #[iv (vstepI v d).2.1, errw (vstepI v d).2.2]) ∧ StTo w b vs (vstepI v d).1 w' := by
  unfold vstepI
  by_cases hok : vokI d
  · rw [if_pos hok]
    obtain ⟨k, x, i, u⟩ := d
    obtain ⟨⟨h1, h2⟩, ⟨h3, h4⟩, h5⟩ := hok
    simp only at h1 h2 h3 h4 h5 ⊢
    obtain ⟨x, rfl⟩ : ∃ m : Nat, x = (m : Int) := ⟨x.toNat, by omega⟩
    have hx : x < 5 := by omega
    have hk : k = 3 ∨ k = 4 ∨ k = 5 := by omega
    have e7 : errw 7 = .iface 93 (.int .i64 7) := rfl
    have e6 : errw 6 = .iface 93 (.int .i64 6) := rfl
    have e0 : errw 0 = .nilIface := rfl
    unfold Vw.vstep natD
    simp only [Int.toNat_natCast]
    rcases hk with rfl | rfl | rfl
    · obtain ⟨⟨h6, h7⟩, h8, h9⟩ := h5 rfl
      obtain ⟨i, rfl⟩ : ∃ m : Nat, i = (m : Int) := ⟨i.toNat, by omega⟩
      rw [if_neg (by decide)]
      by_cases hp : (Vw.tx v x).ph ≠ 1
      · rw [if_pos hp, e7]
        exact (vdo_shut v 3 x i u b vs w h hI (.inl ⟨rfl, h6, h7, h8, h9⟩) hx hp).mono fun _ _ ⟨a, c⟩ => ⟨a, StTo.same h c⟩
      · have hp' : (Vw.tx v x).ph = 1 := by omega
        rw [if_neg hp, if_neg (by decide)]
        have hu : u = 0 ∨ u = 1 := by omega
        rcases hu with rfl | rfl
        · rw [if_neg (by decide), Int.toNat_natCast]
          cases hw : (Vw.tx v x).wrt.testBit i
          · rw [if_neg (by decide)]
            exact (vdo_read v x i b vs w h hI hx (by omega) hp' hw).mono fun _ _ hh => hh
          · rw [if_pos rfl]
            exact (vdo_own v x i b vs w h hI hx (by omega) hp' hw).mono fun _ _ ⟨a, c⟩ => ⟨a, StTo.same h c⟩
        · rw [if_pos (by decide), Int.toNat_natCast]
          exact (vdo_write v x i b vs w h hI hx (by omega) hp').mono fun _ _ hh => hh
    · rw [if_pos (by decide)]
      by_cases hp : (Vw.tx v x).ph ≠ 0
      · rw [if_pos hp, e7]
        exact (vdo_begun v x i u b vs w h hI hx hp).mono fun _ _ ⟨a, c⟩ => ⟨a, StTo.same h c⟩
      · rw [if_neg hp]
        exact (vdo_begin v x i u b vs w h hI hx (by omega)).mono fun _ _ hh => hh
    · rw [if_neg (by decide)]
      by_cases hp : (Vw.tx v x).ph ≠ 1
      · rw [if_pos hp, e7]
        exact (vdo_shut v 5 x i u b vs w h hI (.inr rfl) hx hp).mono fun _ _ ⟨a, c⟩ => ⟨a, StTo.same h c⟩
      · rw [if_neg hp, if_pos (by decide)]
        refine (vdo_commit v x i u b vs w h hI hx (by omega) hT hTb).mono fun _ _ ⟨ha, hb⟩ => ?_
        cases hst : Vw.stale v x
        · rw [if_neg (by decide)]
          exact hb hst
        · rw [if_pos rfl]
          exact ha hst
  · rw [if_neg hok]
    exact (vdo_bad d b w hok).mono fun _ _ ⟨a, c⟩ => ⟨a, StTo.same h c⟩
end Go.Proofs.YtkindaadadggoaaDoor
