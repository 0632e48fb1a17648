/- Contracts of package prior in one: Do at every act, New, Acts, Dead. Conditions: each contract's own premises. -/
import Derived.Test.YtkindaadadggoaaDoorGateE
import Derived.Test.YtkindaadadggoaaDoorAny
namespace Go.Proofs.YtkindaadadggoaaDoor
open Go.RowKit

/-- Do at acts in range -/
theorem gdo_ok (skips : Bool) (g : Gt.G) (a : Sch.N3) (b : Nat) (v : Value) (w : World) (h : GateAt w b skips g v) (hg : Gt.Inv g) (ha : Sch.Ok3 a) :
    Calls Tryd.prog 17 #[.pointer (some ⟨b, 0, none⟩), .agg #[nv a.1, nv a.2.1, nv a.2.2]] w fun e w' => e = .returned (.tuple #[.bool (Gt.pass skips g a).2.1, errv (Gt.pass skips g a).2.2]) ∧ GateTo w b skips v (Gt.pass skips g a).1 w' := by
  obtain ⟨tx, it, wt⟩ := a
  obtain ⟨a1, a2, a3⟩ := ha
  simp only at a1 a2 a3
  unfold Gt.pass
  simp only
  by_cases hd : g.dead.testBit tx = true
  · rw [if_pos hd]
    exact gdo_dead skips g tx it wt b v w h hg a1 a2 a3 hd
  rw [if_neg hd]
  have hd : g.dead.testBit tx = false := by simpa using hd
  by_cases hl : g.acts.length = 24
  · rw [if_pos hl]
    exact gdo_full skips g tx it wt b v w h hg a1 a2 a3 hd hl
  rw [if_neg hl]
  have hw : wt = 0 ∨ wt = 1 := by omega
  rcases hw with rfl | rfl
  · cases hlate : Gt.late g (tx, it, 0)
    · have hc : Gt.clashes skips g (tx, it, 0) = false := by simp [Gt.clashes, hlate]
      rw [hc, if_neg (by decide), if_neg (by decide)]
      exact gdo_read skips g tx it b v w h hg a1 a2 hd hl hlate
    · have hc : Gt.clashes skips g (tx, it, 0) = true := by simp [Gt.clashes, hlate]
      rw [hc, if_pos rfl]
      exact gdo_clash0 skips g tx it b v w h hg a1 a2 hd hl hlate
  · cases hearly : Gt.early g (tx, it, 1)
    · cases hlate : Gt.late g (tx, it, 1)
      · have hc : Gt.clashes skips g (tx, it, 1) = false := by simp [Gt.clashes, hlate, hearly]
        rw [hc, if_neg (by decide), if_pos rfl, if_neg (by decide)]
        exact gdo_write skips g tx it b v w h hg a1 a2 hd hl hlate hearly
      · cases hsk : skips
        · have hc : Gt.clashes false g (tx, it, 1) = true := by simp [Gt.clashes, hlate, hearly]
          rw [hc, if_pos rfl]
          have := gdo_clash2 skips g tx it b v w h hg a1 a2 hd hl hearly hlate hsk
          rw [hsk] at this
          exact this
        · have hc : Gt.clashes true g (tx, it, 1) = false := by simp [Gt.clashes, hlate, hearly]
          rw [hc, if_neg (by decide), if_pos rfl, if_pos rfl]
          have := gdo_skip skips g tx it b v w h hg a1 a2 hd hl hearly hlate hsk
          rw [hsk] at this
          exact this
    · have hc : Gt.clashes skips g (tx, it, 1) = true := by simp [Gt.clashes, hearly]
      rw [hc, if_pos rfl]
      exact gdo_clash1 skips g tx it b v w h hg a1 a2 hd hl hearly

set_option maxHeartbeats 800000 in
theorem gdo_bad (skips : Bool) (g : Gt.G) (a : Act3) (b : Nat) (v : Value) (w : World) (h : GateAt w b skips g v) (hbad : ¬ actOk a) :
    Calls Tryd.prog 17 #[.pointer (some ⟨b, 0, none⟩), .agg #[iv a.1, iv a.2.1, iv a.2.2]] w fun e w' => e = .returned (.tuple #[.bool false, errv 1]) ∧ GateTo w b skips v g w' := by
  obtain ⟨tx, it, wt⟩ := a
  unfold actOk at hbad
  simp only at hbad ⊢
  have HF := Lib.hid (GateTo.same h (.cells #[iv tx, iv it, iv wt] 28) 0)
  by_cases h1 : 0 ≤ tx ∧ tx ≤ 4
  · by_cases h2 : 0 ≤ it ∧ it ≤ 3
    · have h3 : ¬ (0 ≤ wt ∧ wt ≤ 1) := fun h => hbad ⟨h1, h2, h⟩
      have H3 := Lib.hid h3
      obtain ⟨o1, o2⟩ := h1
      obtain ⟨o3, o4⟩ := h2
      clear h3 hbad h
      go_enter Tryd.func17, Tryd.ntmps17
      go_wp2_with (go_at_call 57; first | (refine (within_yes _ _ _ _ (by omega) (by omega)).mono ?_; rintro e w' ⟨rfl, rfl⟩) | (refine (within_no _ _ _ _ H3.out).mono ?_; rintro e w' ⟨rfl, rfl⟩))
      go_ret2
      exact ⟨rfl, HF.out⟩
    · have H2 := Lib.hid h2
      obtain ⟨o1, o2⟩ := h1
      clear h2 hbad h
      go_enter Tryd.func17, Tryd.ntmps17
      go_wp2_with (go_at_call 57; first | (refine (within_yes _ _ _ _ (by omega) (by omega)).mono ?_; rintro e w' ⟨rfl, rfl⟩) | (refine (within_no _ _ _ _ H2.out).mono ?_; rintro e w' ⟨rfl, rfl⟩))
      go_ret2
      exact ⟨rfl, HF.out⟩
  · have H1 := Lib.hid h1
    clear h1 hbad h
    go_enter Tryd.func17, Tryd.ntmps17
    go_wp2_with (go_at_call 57; refine (within_no _ _ _ _ H1.out).mono ?_; rintro e w' ⟨rfl, rfl⟩)
    go_ret2
    exact ⟨rfl, HF.out⟩

/-- what becomes of a gate, whatever comes -/
def passI (skips : Bool) (g : Gt.G) (a : Act3) : Gt.G × Bool × Nat := if actOk a then Gt.pass skips g (a.1.toNat, a.2.1.toNat, a.2.2.toNat) else (g, false, 1)
theorem ok3_of {a : Act3} (h : actOk a) : Sch.Ok3 (a.1.toNat, a.2.1.toNat, a.2.2.toNat) := by
  obtain ⟨⟨h1, h2⟩, ⟨h3, h4⟩, h5, h6⟩ := h
  exact ⟨by show a.1.toNat < 5; omega, by show a.2.1.toNat < 4; omega, by show a.2.2.toNat < 2; omega⟩
theorem Gt.Inv.passI {skips : Bool} {g : Gt.G} (h : Gt.Inv g) (a : Act3) : Gt.Inv (passI skips g a).1 := by
  unfold Go.Proofs.YtkindaadadggoaaDoor.passI
  split
  · exact Gt.inv_pass skips h (ok3_of (by assumption))
  · exact h
theorem gdo_calls (skips : Bool) (g : Gt.G) (a : Act3) (b : Nat) (v : Value) (w : World) (h : GateAt w b skips g v) (hg : Gt.Inv g) :
    Calls Tryd.prog 17 #[.pointer (some ⟨b, 0, none⟩), .agg #[iv a.1, iv a.2.1, iv a.2.2]] w fun e w' => e = .returned (.tuple #[.bool (passI skips g a).2.1, errv (passI skips g a).2.2]) ∧ GateTo w b skips v (passI skips g a).1 w' := by
  unfold passI
  by_cases hok : actOk a
  · rw [if_pos hok]
    have h3 := ok3_of hok
    obtain ⟨p, q, r⟩ := a
    obtain ⟨⟨h1, h2⟩, ⟨h4, h5⟩, h6, h7⟩ := hok
    obtain ⟨tx, rfl⟩ := Int.eq_ofNat_of_zero_le h1
    obtain ⟨it, rfl⟩ := Int.eq_ofNat_of_zero_le h4
    obtain ⟨wt, rfl⟩ := Int.eq_ofNat_of_zero_le h6
    exact gdo_ok skips g (tx, it, wt) b v w h hg h3
  · rw [if_neg hok]
    exact gdo_bad skips g a b v w h hok

theorem gnew_calls (skips : Bool) (w : World) : Calls Tryd.prog 16 #[.bool skips] w fun e w' => e = .returned (.pointer (some ⟨w.heap.size, 0, none⟩)) ∧ GateAt w' w.heap.size skips Gt.g0 (.slice none 0 0) ∧ Below w.heap.size w w' ∧ w'.heap.size = w.heap.size + 1 := by
  go_enter Tryd.func16, Tryd.ntmps16
  go_wp2_with fail
  go_ret
  refine ⟨rfl, ⟨?_, OwnA.nil _ _⟩, (Below.refl _ _).alloc (Nat.le_refl _) _, by simp⟩
  refine World.rowIs_alloc w _ _ _ fun i hi => ?_
  match i, hi with
  | 0, _ => rfl
  | 1, _ => rfl
  | 2, _ => rfl
  | 3, _ => rfl
  | 4, _ => rfl
  | 5, _ => rfl
  | 6, _ => rfl
  | 7, _ => rfl
  | 8, _ => rfl
  | 9, _ => rfl
  | 10, _ => rfl
  | n + 11, h => exact absurd h (by simp)
theorem gacts_calls (skips : Bool) (g : Gt.G) (b : Nat) (v : Value) (w : World) (h : GateAt w b skips g v) (hl : g.acts.length ≤ 24) :
    Calls Tryd.prog 18 #[.pointer (some ⟨b, 0, none⟩)] w fun e w' => ∃ v', e = .returned v' ∧ OwnA w' w.heap.size v' (Sch.zacts g.acts) ∧ Below w.heap.size w w' := by
  have h1 := h.acts
  have HA := Lib.hid h.2.acts
  have hsz : (Sch.zacts g.acts).length = g.acts.length := by simp
  obtain ⟨A, cap, rfl⟩ := Rd.val HA.out
  rw [hsz] at *
  clear h hsz
  go_enter Tryd.func18, Tryd.ntmps18
  go_wp2_with (at_builtin; refine append_acts_any rfl _ _ rfl w.heap.size _ [] (Sch.zacts g.acts) rfl (OwnA.nil _ _) w.heap.size A cap (by rw [Sch.length_zacts]; rfl) (by rw [Sch.length_zacts]; exact HA.out) (by simp; omega) (Nat.le_refl _) ?_; intro v1 w1 hown hb)
  go_ret
  exact ⟨_, rfl, by simpa using hown, hb⟩
end Go.Proofs.YtkindaadadggoaaDoor
