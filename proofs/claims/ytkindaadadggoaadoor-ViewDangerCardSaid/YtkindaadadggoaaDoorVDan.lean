/- The walk of the statement ViewDanger: at every input it returns true. Conditions: none beyond the handle's. -/
import Derived.Test.YtkindaadadggoaaDoorVFact
namespace Go.Proofs.YtkindaadadggoaaDoor
open Go.RowKit

/-- what the two methods answer at the end -/
def serB (v : Vw.V) : Prop := (Rw.row (Vw.ed v).1 = none ∧ Vw.danger v = true) ∨ ∃ r, Rw.row (Vw.ed v).1 = some r ∧ r.length = 5
theorem serB_ok {v : Vw.V} (h : Vw.Inv v) : serB v := by
  cases hr : Rw.row (Vw.ed v).1 with
  | none =>
    refine .inl ⟨hr, ?_⟩
    cases hd : Vw.danger v
    · have := Vw.row_safe h hd
      rw [hr] at this; cases this
    · rfl
  | some r =>
    refine .inr ⟨r, hr, ?_⟩
    have := (Rw.row_spec hr).1
    rw [this, (Vw.five_ed h).1.1]
set_option maxRecDepth 20000 in
set_option maxHeartbeats 4000000 in
theorem vdan_ok (s : List Deed4V) (v : Value) (w : World) (hr : VDeeds w w.heap.size v s) (hT : Tab w) :
    Calls Tryd.prog 5 #[v] w fun e w' => e = .returned (.bool true) ∧ Below w.heap.size w w' := by
  have hf := Lib.hid (viewFact_calls w hT)
  have HR := Lib.hid hr
  have HT := Lib.hid hT
  obtain ⟨A, cap, rfl⟩ := Rd.val hr
  clear hr hT
  go_enter Tryd.func5, Tryd.ntmps5
  go_wp2_with fail
  (with_reducible refine hf.out.mono ?_)
  rintro e w1 ⟨rfl, hb1⟩
  have hn := Lib.hid (vnew_calls w1)
  clear hf
  go_wp2_with fail
  (with_reducible refine hn.out.mono ?_)
  rintro e w2 ⟨rfl, ⟨vs0, hs0, -⟩, hb2⟩
  have hbb := Lib.hid (hb1.trans (hb2.mono hb1.size))
  generalize hbq : w1.heap.size = b at *
  have HBQ := Lib.hid (show w.heap.size ≤ b by rw [← hbq]; exact hb1.size)
  have hst0 := Lib.hid hs0
  clear hn hb1 hb2 hbq hs0
  go_wp2_with fail
  go_loopw [5] (fun i wr => ∃ (k : Nat) (v : Vw.V) (vs : Nat → Value), k ≤ s.length ∧ i = nv k ∧ Hid (Vw.Inv v) ∧ Hid (StAt wr b v vs) ∧ Hid (Below w.heap.size w wr)) (fun i _ => s.length - (intOf i).toNat)
  case atStart => exact ⟨0, Vw.v0, vs0, Nat.zero_le _, rfl, Lib.hid Vw.inv0, hst0, hbb⟩
  case round =>
    clear hst0 hbb
    obtain ⟨k, v, vs, hk, rfl, hinv, hst, hb⟩ := hrel
    by_cases hkl : k < s.length ∧ k < 60
    · obtain ⟨hk1, hk2⟩ := hkl
      obtain ⟨b1, off, cap', he, -, d0, d1, d2, d3⟩ := VDeeds.at_ (Rd.below HR.out hb.out) hk1
      cases he
      generalize hsk : s[k] = a at *
      clear hsk
      have hcall := Lib.hid (vdo_calls v a b vs wr hst.out hinv.out (HT.out.below hb.out) (by have := HBQ.out; have := HT.out.lt; omega))
      have hI := Lib.hid (Vw.Inv.stepI hinv.out a)
      obtain ⟨x, y, z, u⟩ := a
      simp only at d0 d1 d2 d3 hcall
      rw [show dval (iv x) (iv y) (iv z) (iv u) = .agg #[.int .i64 x, .int .i64 y, .int .i64 z, .int .i64 u] from rfl] at hcall
      generalize (vstepI v (x, y, z, u)).2.1 = c1 at *
      generalize (vstepI v (x, y, z, u)).2.2 = c2 at *
      generalize (vstepI v (x, y, z, u)).1 = v' at *
      generalize errw c2 = ev at *
      go_wp2_with fail
      (with_reducible refine hcall.out.mono ?_)
      rintro e w4 ⟨rfl, ht⟩
      have hb4 := Lib.hid (ht.below hb.out hst.out HBQ.out)
      obtain ⟨vs', h1, -, -⟩ := ht
      have hst4 := Lib.hid h1
      clear hcall hb h1 hst
      go_wp2_with fail
      go_roundw
      case rel => exact ⟨k + 1, v', vs', by omega, by go_num, hI, hst4, hb4⟩
      case measure => simp [intOf]; omega
    · have hend : ∀ (P : Prop), (k = s.length → P) → (k < s.length → ¬ k < 60 → P) → P := fun P h1 h2 => by
        by_cases h : k < s.length
        · exact h2 h (fun h' => hkl ⟨h, h'⟩)
        · exact h1 (by omega)
      clear hkl
      have HS := Lib.hid (vserial_calls v b vs wr hst.out hinv.out (HT.out.below hb.out))
      have HD := Lib.hid fun (w5 : World) (h5 : Below wr.heap.size wr w5) => vdanger_calls v b vs w5 (hst.out.below h5) hinv.out (HT.out.below (hb.out.trans (h5.mono hb.out.size)))
      have HOK := Lib.hid (serB_ok hinv.out)
      clear hst hinv
      have hdone : ∃ (t3 : Bool), decide ((k : Int) < 60) = t3 := ⟨_, rfl⟩
      rcases HOK.out with ⟨hn, hd⟩ | ⟨r, hn, hl⟩
      · rw [hd] at HD
        have HS2 := Lib.hid (HS.out.mono (R' := fun e w' => e = .returned (.tuple #[.bool false, .slice none 0 0]) ∧ Below wr.heap.size wr w') (fun e w' ⟨hb, hh⟩ => by
          rcases hh with ⟨_, h2⟩ | ⟨out, v', h2, _⟩
          · exact ⟨h2, hb⟩
          · rw [hn] at h2; cases h2))
        clear HS HOK hn hd hdone
        refine hend _ (fun hk' => ?_) (fun hk' hk2 => ?_)
        · subst hk'
          clear hend hk
          go_wp2_with fail
          (with_reducible refine HS2.out.mono ?_)
          rintro e w5 ⟨rfl, hb5⟩
          have HD2 := Lib.hid (HD.out w5 hb5)
          have HBF := Lib.hid (hb.out.trans (hb5.mono hb.out.size))
          clear HS2 HD hb5 hb
          go_wp2_with fail
          (with_reducible refine HD2.out.mono ?_)
          rintro e w6 ⟨rfl, hb6⟩
          have HBG := Lib.hid (HBF.out.trans (hb6.mono HBF.out.size))
          clear HD2 hb6
          go_wp2_with fail
          go_ret
          exact ⟨rfl, HBG.out⟩
        · have t3 : decide ((k : Int) < 60) = false := by simp; omega
          clear hend hk hk2
          go_wp2_with fail
          (with_reducible refine HS2.out.mono ?_)
          rintro e w5 ⟨rfl, hb5⟩
          have HD2 := Lib.hid (HD.out w5 hb5)
          have HBF := Lib.hid (hb.out.trans (hb5.mono hb.out.size))
          clear HS2 HD hb5 hb
          go_wp2_with fail
          (with_reducible refine HD2.out.mono ?_)
          rintro e w6 ⟨rfl, hb6⟩
          have HBG := Lib.hid (HBF.out.trans (hb6.mono HBF.out.size))
          clear HD2 hb6
          go_wp2_with fail
          go_ret
          exact ⟨rfl, HBG.out⟩
      · have HS2 := Lib.hid (HS.out.mono (R' := fun e w' => ∃ g cap, e = .returned (.tuple #[.bool true, .slice g 5 cap]) ∧ Below wr.heap.size wr w') (fun e w' ⟨hb, hh⟩ => by
          rcases hh with ⟨h2, _⟩ | ⟨out, v', h2, h3, h4⟩
          · rw [hn] at h2; cases h2
          · rw [hn] at h2
            injection h2 with h2
            subst h2
            obtain ⟨g, cap, rfl⟩ := Rd.val h4.ints
            rw [length_zs, hl] at h3
            exact ⟨g, cap, h3, hb⟩))
        clear HS HOK HD hn hl hdone
        refine hend _ (fun hk' => ?_) (fun hk' hk2 => ?_)
        · subst hk'
          clear hend hk
          go_wp2_with fail
          (with_reducible refine HS2.out.mono ?_)
          rintro e w5 ⟨g, cap5, rfl, hb5⟩
          have HBF := Lib.hid (hb.out.trans (hb5.mono hb.out.size))
          clear HS2 hb5 hb
          go_wp2_with fail
          go_ret
          exact ⟨rfl, HBF.out⟩
        · have t3 : decide ((k : Int) < 60) = false := by simp; omega
          clear hend hk hk2
          go_wp2_with fail
          (with_reducible refine HS2.out.mono ?_)
          rintro e w5 ⟨g, cap5, rfl, hb5⟩
          have HBF := Lib.hid (hb.out.trans (hb5.mono hb.out.size))
          clear HS2 hb5 hb
          go_wp2_with fail
          go_ret
          exact ⟨rfl, HBF.out⟩
/-- the law at every input -/
theorem vdan_calls (v : Value) (recs : List (List Int)) (w : World) (hr : Rd w w.heap.size 4 v recs.length (recs.flatMap fun r => r.map iv)) (hl : ∀ r ∈ recs, r.length = 4) (hT : Tab w) :
    Calls Tryd.prog 5 #[v] w fun e w' => e = .returned (.bool true) ∧ Below w.heap.size w w' := by
  obtain ⟨s, hs⟩ := vdeeds_of_recs hr hl
  exact vdan_ok s v w hs hT
end Go.Proofs.YtkindaadadggoaaDoor
