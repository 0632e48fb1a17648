/- The walk of the statement LockTwo: at every input it returns true. Conditions: none beyond the handle's. -/
import Derived.Test.YtkindaadadggoaaDoorLFact
import Derived.Test.YtkindaadadggoaaDoorDeeds
import Derived.Test.YtkindaadadggoaaDoorSerial
namespace Go.Proofs.YtkindaadadggoaaDoor
open Go.RowKit

def LTwo (l : Lk.L) : Prop := ∃ F T, Lk.Two F T l
theorem ltwo0 : LTwo Lk.l0 := ⟨_, _, Lk.two0⟩
theorem LTwo.stepI {l : Lk.L} (h : LTwo l) (hI : Lk.Inv l) (d : Deed4) : LTwo (lstepI l d).1 := by
  unfold lstepI
  split
  · obtain ⟨F, T, hT⟩ := h
    exact Lk.two_step hI hT (lstepI_ok (by assumption))
  · exact h
set_option maxRecDepth 20000 in
set_option maxHeartbeats 4000000 in
theorem ltwo_ok (s : List Deed4) (v : Value) (w : World) (hr : Deeds w w.heap.size v s) (hE : ErrTy w) :
    Calls Tryd.prog 12 #[v] w fun e w' => e = .returned (.bool true) ∧ Below w.heap.size w w' := by
  have hf := Lib.hid (lockFact_calls w hE)
  have HR := Lib.hid hr
  obtain ⟨A, cap, rfl⟩ := Rd.val hr
  clear hr
  go_enter Tryd.func12, Tryd.ntmps12
  go_wp2_with fail
  (with_reducible refine hf.out.mono ?_)
  rintro e w1 ⟨rfl, hb1⟩
  have hn := Lib.hid (lnew_calls w1)
  clear hf
  go_wp2_with fail
  (with_reducible refine hn.out.mono ?_)
  rintro e w2 ⟨rfl, hg2, hb2⟩
  have hbb := hb1.trans (hb2.mono hb1.size)
  generalize hbq : w1.heap.size = b at *
  have HBQ := Lib.hid (show w.heap.size ≤ b by rw [← hbq]; exact hb1.size)
  have hga0 := Lib.hid hg2
  clear hn hb1 hb2 hbq hg2
  go_wp2_with fail
  go_loopw [5] (fun i wr => ∃ (k : Nat) (l : Lk.L) (v : Value), k ≤ s.length ∧ i = nv k ∧ Hid (Lk.Inv l ∧ LTwo l) ∧ Hid (TabAt wr b l v) ∧ Below w.heap.size w wr) (fun i _ => s.length - (intOf i).toNat)
  case atStart => exact ⟨0, Lk.l0, _, Nat.zero_le _, rfl, Lib.hid ⟨Lk.inv0, ltwo0⟩, hga0, hbb⟩
  case round =>
    clear hga0 hbb
    obtain ⟨k, l, v, hk, rfl, hinv, hga, hb⟩ := hrel
    by_cases hkl : k < s.length ∧ k < 80
    · obtain ⟨hk1, hk2⟩ := hkl
      obtain ⟨b1, off, cap', he, hbb, d0, d1, d2, d3⟩ := Deeds.at_ (Rd.below HR.out hb) hk1
      cases he
      generalize hsk : s[k] = a at *
      clear hsk
      have hcall := Lib.hid (ldo_calls l a b v wr hga.out hinv.out.1)
      have hI := Lib.hid (show Lk.Inv (lstepI l a).1 ∧ LTwo (lstepI l a).1 from ⟨Lk.Inv.stepI hinv.out.1 a, LTwo.stepI hinv.out.2 hinv.out.1 a⟩)
      obtain ⟨x, y, z, u⟩ := a
      simp only at d0 d1 d2 d3 hcall
      generalize (lstepI l (x, y, z, u)).2 = c at *
      generalize (lstepI l (x, y, z, u)).1 = l' at *
      generalize errv c = ev at *
      go_wp2_with fail
      (with_reducible refine hcall.out.mono ?_)
      rintro e w4 ⟨rfl, ht⟩
      have hb4 := Lib.hid (ht.below hb hga.out HBQ.out)
      obtain ⟨v', hga4⟩ := ht.at_
      have hga4 := Lib.hid hga4
      clear hcall hb ht
      go_wp2_with fail
      go_roundw
      case rel => exact ⟨k + 1, l', v', by omega, by go_num, hI, hga4, hb4.out⟩
      case measure => simp [intOf]; omega
    · have hend : ∀ (P : Prop), (k = s.length → P) → (k < s.length → ¬ k < 80 → P) → P := fun P h1 h2 => by
        by_cases h : k < s.length
        · exact h2 h (fun h' => hkl ⟨h, h'⟩)
        · exact h1 (by omega)
      clear hkl
      have hca := Lib.hid (lacts_calls l b v wr hga.out hinv.out.1.2.2.2.2.2.2.1)
      have hac := hinv.out.1.2.2.2.2.2.2.1
      have hok := Lib.hid hinv.out.1.2.2.2.2.2.2.2.1
      have HROW := Lib.hid (show ∃ r, Rw.row (Sch.edges l.acts) = some r by
        obtain ⟨F, T, hT⟩ := hinv.out.2
        exact Lk.row_of_two hinv.out.1 hT)
      clear hinv hga
      refine hend _ (fun hk' => ?_) (fun hk' hk2 => ?_)
      · subst hk'
        clear hend hk
        go_wp2_with fail
        (with_reducible refine hca.out.mono ?_)
        rintro e w5 ⟨v5, rfl, hown5, hb5⟩
        have hbF := hb.trans (hb5.mono hb.size)
        have hser := Lib.hid (serial_ok l.acts v5 w5 hown5.acts hac hok.out)
        clear hca hown5 hb5 hb
        generalize l.acts = t at *
        go_wp2_with fail
        (with_reducible refine hser.out.mono ?_)
        rintro e w7 ⟨hb7, ⟨hn, -⟩ | ⟨out, v', hs, rfl, -⟩⟩
        · obtain ⟨r, hr⟩ := HROW.out
          rw [hn] at hr; cases hr
        · have hbg := hbF.trans (hb7.mono hbF.size)
          clear hser hs hb7
          go_wp2_with fail
          go_ret
          exact ⟨rfl, hbg⟩
      · have t3 : decide ((k : Int) < 80) = false := by simp; omega
        clear hend hk hk2
        go_wp2_with fail
        (with_reducible refine hca.out.mono ?_)
        rintro e w5 ⟨v5, rfl, hown5, hb5⟩
        have hbF := hb.trans (hb5.mono hb.size)
        have hser := Lib.hid (serial_ok l.acts v5 w5 hown5.acts hac hok.out)
        clear hca hown5 hb5 hb
        generalize l.acts = t at *
        go_wp2_with fail
        (with_reducible refine hser.out.mono ?_)
        rintro e w7 ⟨hb7, ⟨hn, -⟩ | ⟨out, v', hs, rfl, -⟩⟩
        · obtain ⟨r, hr⟩ := HROW.out
          rw [hn] at hr; cases hr
        · have hbg := hbF.trans (hb7.mono hbF.size)
          clear hser hs hb7
          go_wp2_with fail
          go_ret
          exact ⟨rfl, hbg⟩
/-- the law at every input -/
theorem ltwo_calls (v : Value) (recs : List (List Int)) (w : World) (hr : Rd w w.heap.size 4 v recs.length (recs.flatMap fun r => r.map iv)) (hl : ∀ r ∈ recs, r.length = 4) (hE : ErrTy w) :
    Calls Tryd.prog 12 #[v] w fun e w' => e = .returned (.bool true) ∧ Below w.heap.size w w' := by
  obtain ⟨s, hs⟩ := deeds_of_recs hr hl
  exact ltwo_ok s v w hs hE
end Go.Proofs.YtkindaadadggoaaDoor
