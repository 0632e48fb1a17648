/- The walk of the statement TopSerial: at every input it returns true. Conditions: none. -/
import Derived.Test.YtkindaadadggoaaSerial
import Derived.Test.YtkindaadadggoaaDeeds
import Derived.Test.YtkindaadadggoaaGateF
namespace Go.Proofs.Ytkindaadadggoaa
open Go.RowKit

section
variable {W w w' : World} {b : Nat} {l l' : Lk.L} {v : Value}
theorem TabTo.at_ (h : TabTo w b v l w') : ∃ v', TabAt w' b l v' := by obtain ⟨v', h1, _⟩ := h; exact ⟨v', h1⟩
theorem TabTo.below (h : TabTo w b v l w') (hb : Below W.heap.size W w) (h0 : TabAt w b l' v) (hB : W.heap.size ≤ b) : Below W.heap.size W w' := by
  obtain ⟨v', _, h2, _⟩ := h
  exact hb.trans (h2.below hb.size (fun k hk => Nat.le_trans hB (h0.foot k hk).1))
end
section
variable {W w w' : World} {b : Nat} {skips : Bool} {g g' : Gt.G} {v : Value}
theorem GateTo.below (h : GateTo w b skips v g w') (hb : Below W.heap.size W w) (h0 : GateAt w b skips g' v) (hB : W.heap.size ≤ b) : Below W.heap.size W w' := by
  obtain ⟨v', _, h2, _⟩ := h
  exact hb.trans (h2.below hb.size (fun k hk => Nat.le_trans hB (h0.foot k hk).1))
end
def LTwo (l : Lk.L) : Prop := ∃ F T, Lk.Two F T l
theorem ltwo0 : LTwo Lk.l0 := ⟨_, _, Lk.two0⟩
theorem LTwo.stepI {l : Lk.L} (h : LTwo l) (hI : Lk.Inv l) (d : Deed4) : LTwo (lstepI l d).1 := by
  unfold lstepI
  split
  · obtain ⟨F, T, hT⟩ := h
    exact Lk.two_step hI hT (lstepI_ok (by assumption))
  · exact h
/-- two gates beside each other -/
def Apart (b1 : Nat) (v1 : Value) (b2 : Nat) (v2 : Value) : Prop := ∀ k, Foot b1 v1 k → ¬ Foot b2 v2 k
theorem gates_left {w w' : World} {b1 b2 : Nat} {s1 s2 : Bool} {g1 g1' g2 : Gt.G} {v1 v2 : Value} (_h1 : GateAt w b1 s1 g1 v1) (h2 : GateAt w b2 s2 g2 v2) (ha : Apart b1 v1 b2 v2) (ht : GateTo w b1 s1 v1 g1' w') :
    ∃ v1', GateAt w' b1 s1 g1' v1' ∧ GateAt w' b2 s2 g2 v2 ∧ Apart b1 v1' b2 v2 := by
  obtain ⟨v1', q1, q2, q3⟩ := ht
  refine ⟨v1', q1, h2.only q2 (fun k hk hk1 => ha k hk1 hk), fun k hk hk2 => ?_⟩
  rcases q3 k hk with h | h
  · exact ha k h hk2
  · have := (h2.foot k hk2).2; omega
theorem Apart.symm {b1 b2 : Nat} {v1 v2 : Value} (h : Apart b1 v1 b2 v2) : Apart b2 v2 b1 v1 := fun k hk hk' => h k hk' hk
/-- a length, out of simp's sight -/
structure Len3 (L : List Nat) (n : Nat) : Prop where
  a : L.length = n
def twoE : List Sch.N3 := [(0, 0, 1), (1, 0, 0)]
theorem twoE_edges : Sch.edges twoE = [2, 0, 0, 0, 0] := by decide

set_option maxRecDepth 20000 in
set_option maxHeartbeats 8000000 in
theorem tops_ok (ds : List Deed4) (s : List Act3) (v u : Value) (w : World) (hr : Deeds w w.heap.size v ds) (hu : Acts w w.heap.size u s) :
    Calls Try.prog 5 #[v, u] w fun e w' => e = .returned (.bool true) ∧ Below w.heap.size w w' := by
  have HR := Lib.hid hr
  have HU := Lib.hid hu
  obtain ⟨A, cap, rfl⟩ := Rd.val hr
  obtain ⟨A2, cap2, rfl⟩ := Rd.val hu
  clear hr hu
  go_enter Try.func5, Try.ntmps5
  go_wp2_with fail
  have hl1 := Rd.lit w (acells (Sch.zacts lostT)).toArray 30 3 4 4 rfl (by omega) (by decide)
  have h1 := Lib.hid (serial_ok lostT (.slice (some ⟨w.heap.size, 0, none⟩) 4 4) (w.alloc (.cells (acells (Sch.zacts lostT)).toArray 30)) (by
    have := hl1.more (B' := (w.alloc (.cells (acells (Sch.zacts lostT)).toArray 30)).heap.size) (by simp)
    exact this) (by decide) (by decide))
  clear hl1
  refine h1.out.mono ?_
  rintro e w1 ⟨hb1, ⟨-, rfl⟩ | ⟨out, v', hs, -⟩⟩
  case inr => rw [show Rw.row (Sch.edges lostT) = none from by decide] at hs; cases hs
  have hb0 := ((Below.refl w.heap.size w).alloc (Nat.le_refl _) (.cells (acells (Sch.zacts lostT)).toArray 30)).trans (hb1.mono (by simp))
  clear h1 hb1
  have hs1 := hb0.size
  go_wp2_with fail
  have hl1 := Rd.lit w1 (acells (Sch.zacts twoE)).toArray 30 3 2 2 rfl (by omega) (by decide)
  have h1 := Lib.hid (edges_ok twoE (.slice (some ⟨w1.heap.size, 0, none⟩) 2 2) (w1.alloc (.cells (acells (Sch.zacts twoE)).toArray 30)) (by
    have := hl1.more (B' := (w1.alloc (.cells (acells (Sch.zacts twoE)).toArray 30)).heap.size) (by simp)
    exact this) (by decide) (by decide))
  clear hl1
  refine h1.out.mono ?_
  rintro e w2 ⟨v2, rfl, hown2, hb2⟩
  rw [twoE_edges] at hown2
  have hb3 := (hb0.alloc hs1 (.cells (acells (Sch.zacts twoE)).toArray 30)).trans (hb2.mono (by simp; omega))
  clear h1 hb2 hb0
  have hs2 := hb3.size
  go_wp2_with fail
  have hi := (hown2.alloc (.cells #[iv 2, iv 0, iv 0, iv 0, iv 0] 3)).ints
  have hl := Ints.lit w2 [2, 0, 0, 0, 0] 3 (by decide)
  rw [World.size_alloc] at hi
  refine (ints_calls _ _ _ _ (w2.heap.size + 1) _ (by simp) hi hl).mono ?_
  rintro e w3 ⟨rfl, hb4⟩
  have hb5 := (hb3.alloc hs2 (.cells #[iv 2, iv 0, iv 0, iv 0, iv 0] 3)).trans (hb4.mono (by simp; omega))
  clear hi hl hb4 hb3 hown2
  have hn := Lib.hid (lnew_calls w3)
  go_wp2_with fail
  (with_reducible refine hn.out.mono ?_)
  rintro e w4 ⟨rfl, hg4, hb6⟩
  have hbb := hb5.trans (hb6.mono hb5.size)
  generalize hbq : w3.heap.size = b at *
  have HBQ := Lib.hid (show w.heap.size ≤ b by rw [← hbq]; exact hb5.size)
  have hga0 := Lib.hid hg4
  clear hn hb5 hb6 hbq hg4
  go_wp2_with fail
  go_loopw [11] (fun i wr => ∃ (k : Nat) (l : Lk.L) (v : Value), k ≤ ds.length ∧ i = nv k ∧ Hid (Lk.Inv l ∧ LTwo l) ∧ Hid (TabAt wr b l v) ∧ Below w.heap.size w wr) (fun i _ => ds.length - (intOf i).toNat)
  case atStart => exact ⟨0, Lk.l0, _, Nat.zero_le _, rfl, Lib.hid ⟨Lk.inv0, ltwo0⟩, hga0, hbb⟩
  case round =>
    clear hga0 hbb
    obtain ⟨k, l, v, hk, rfl, hinv, hga, hb⟩ := hrel
    by_cases hkl : k < ds.length ∧ k < 60
    · obtain ⟨hk1, hk2⟩ := hkl
      obtain ⟨b1, off, cap', he, hbb, d0, d1, d2, d3⟩ := Deeds.at_ (Rd.below HR.out hb) hk1
      cases he
      generalize hsk : ds[k] = a at *
      clear hsk
      have hcall := Lib.hid (ldo_calls l a b v wr hga.out hinv.out.1)
      have hI := Lib.hid (show Lk.Inv (lstepI l a).1 ∧ LTwo (lstepI l a).1 from ⟨Lk.Inv.stepI hinv.out.1 a, LTwo.stepI hinv.out.2 hinv.out.1 a⟩)
      obtain ⟨x, y, z, u⟩ := a
      simp only at d0 d1 d2 d3 hcall
      generalize (lstepI l (x, y, z, u)).2 = c at *
      generalize (lstepI l (x, y, z, u)).1 = l' at *
      generalize errv c = ev at *
      go_wp2_with fail
      (with_reducible refine hcall.out.mono ?_)
      rintro e w4 ⟨rfl, ht⟩
      have hb4 := Lib.hid (ht.below hb hga.out HBQ.out)
      obtain ⟨v', hga4⟩ := ht.at_
      have hga4 := Lib.hid hga4
      clear hcall hb ht
      go_wp2_with fail
      go_roundw
      case rel => exact ⟨k + 1, l', v', by omega, by go_num, hI, hga4, hb4.out⟩
      case measure => simp [intOf]; omega
    · have hend : (((k : Int) < (ds.length : Int)) ∧ decide ((k : Int) < 60) = false) ∨ ¬ k < ds.length := by
        by_cases h : k < ds.length
        · exact .inl ⟨by omega, by simp; omega⟩
        · exact .inr h
      have hca := Lib.hid (lacts_calls l b v wr hga.out hinv.out.1.2.2.2.2.2.2.1)
      have hac := hinv.out.1.2.2.2.2.2.2.1
      have hok := Lib.hid hinv.out.1.2.2.2.2.2.2.2.1
      have HROW := Lib.hid (show ∃ r, Rw.row (Sch.edges l.acts) = some r by
        obtain ⟨F, T, hT⟩ := hinv.out.2
        exact Lk.row_of_two hinv.out.1 hT)
      clear hinv hga hkl
      rcases hend with ⟨t1, t2⟩ | hkk
      · have t1 : decide ((k : Int) < (ds.length : Int)) = true := by simp; omega
        have t1' : k < ds.length := by omega
        go_wp2_with fail
        (with_reducible refine hca.out.mono ?_)
        rintro e w5 ⟨v5, rfl, hown5, hb5⟩
        have hbF := hb.trans (hb5.mono hb.size)
        have hser := Lib.hid (serial_ok l.acts v5 w5 hown5.acts hac hok.out)
        clear hca hown5 hb5 hb
        generalize l.acts = t at *
        go_wp2_with fail
        (with_reducible refine hser.out.mono ?_)
        rintro e w6 ⟨hb7, ⟨hn, -⟩ | ⟨out, v', hs, rfl, -⟩⟩
        · obtain ⟨r, hr⟩ := HROW.out
          rw [hn] at hr; cases hr
        have hbg := hbF.trans (hb7.mono hbF.size)
        clear hser hs hb7 hbF HROW
        have hn1 := Lib.hid (gnew_calls true w6)
        go_wp2_with fail
        (with_reducible refine hn1.out.mono ?_)
        rintro e w7 ⟨rfl, hg7, hb7, hs7⟩
        have hbh := hbg.trans (hb7.mono hbg.size)
        have hn2 := Lib.hid (gnew_calls false w7)
        clear hn1
        go_wp2_with fail
        (with_reducible refine hn2.out.mono ?_)
        rintro e w8 ⟨rfl, hg8, hb8, hs8⟩
        have hbi := hbh.trans (hb8.mono hbh.size)
        have hga1 := Lib.hid (hg7.only (Only.of_below hb8 (Nat.le_refl _) (fun _ => False)) (fun _ _ h => h))
        have hga2 := Lib.hid hg8
        have hap := Lib.hid (show Apart w6.heap.size (.slice none 0 0) w7.heap.size (.slice none 0 0) from fun k hk hk' => by
          rcases hk with h1 | h1
          · rcases hk' with h2 | h2
            · omega
            · cases h2
          · cases h1)
        have HB1 := Lib.hid hbg.size
        have HB2 := Lib.hid hbh.size
        clear hn2 hg7 hg8 hb7 hb8 hs7 hs8 hbg hbh
        generalize w6.heap.size = b1 at *
        generalize w7.heap.size = b2 at *
        go_wp2_with fail
        go_loopw [17] (fun i wr => ∃ (k : Nat) (g1 g2 : Gt.G) (v1 v2 : Value), k ≤ s.length ∧ i = nv k ∧ Hid (Gt.Inv g1) ∧ Hid (Gt.Inv g2) ∧ Hid (GateAt wr b1 true g1 v1) ∧ Hid (GateAt wr b2 false g2 v2) ∧ Hid (Apart b1 v1 b2 v2) ∧ Below w.heap.size w wr) (fun i _ => s.length - (intOf i).toNat)
        case atStart => exact ⟨0, Gt.g0, Gt.g0, _, _, Nat.zero_le _, rfl, Lib.hid Gt.inv0, Lib.hid Gt.inv0, hga1, hga2, hap, hbi⟩
        case round =>
          clear hga1 hga2 hap hbi
          obtain ⟨k, g1, g2, v1, v2, hk, rfl, hi1, hi2, hga1, hga2, hap, hb⟩ := hrel
          by_cases hkl : k < s.length ∧ k < 40
          · obtain ⟨hk1, hk2⟩ := hkl
            obtain ⟨q1, off, cap', he, _, _, hbb, d0, d1, d2⟩ := Acts.at_ (Rd.below HU.out hb) hk1
            cases he
            have HAT := Lib.hid fun (w' : World) (hb' : Below w.heap.size w w') => Acts.at_ (Rd.below HU.out hb') hk1
            generalize hsk : s[k] = a at *
            clear hsk
            have hcall := Lib.hid (gdo_calls true g1 a b1 v1 wr hga1.out hi1.out)
            have hcall2 := Lib.hid fun (w' : World) (h' : GateAt w' b2 false g2 v2) => gdo_calls false g2 a b2 v2 w' h' hi2.out
            have hI1 := Lib.hid (Gt.Inv.passI (skips := true) hi1.out a)
            have hI2 := Lib.hid (Gt.Inv.passI (skips := false) hi2.out a)
            obtain ⟨x, y, z⟩ := a
            simp only at d0 d1 d2 hcall hcall2 HAT
            generalize (passI true g1 (x, y, z)).2.1 = did1 at *
            generalize (passI true g1 (x, y, z)).2.2 = cc1 at *
            generalize (passI true g1 (x, y, z)).1 = g1' at *
            generalize (passI false g2 (x, y, z)).2.1 = did2 at *
            generalize (passI false g2 (x, y, z)).2.2 = cc2 at *
            generalize (passI false g2 (x, y, z)).1 = g2' at *
            generalize errv cc1 = ev1 at *
            generalize errv cc2 = ev2 at *
            go_wp2_with fail
            (with_reducible refine hcall.out.mono ?_)
            rintro e w9 ⟨rfl, ht⟩
            have hb9 := ht.below hb hga1.out HB1.out
            obtain ⟨v1', hq1, hq2, hq3⟩ := gates_left hga1.out hga2.out hap.out ht
            have HQ1 := Lib.hid hq1
            have HQ2 := Lib.hid hq2
            have HQ3 := Lib.hid hq3
            have hcall2 := Lib.hid (hcall2.out w9 hq2)
            obtain ⟨q2, off2, cap2', he, _, _, hbb2, f0, f1, f2⟩ := HAT.out w9 hb9
            cases he
            clear hcall ht hq1 hq2 hq3 d0 d1 d2 HAT hga1 hga2 hap hb
            go_wp2_with fail
            (with_reducible refine hcall2.out.mono ?_)
            rintro e w10 ⟨rfl, ht⟩
            have hb10 := Lib.hid (ht.below hb9 HQ2.out HB2.out)
            obtain ⟨v2', hr1, hr2, hr3⟩ := gates_left HQ2.out HQ1.out HQ3.out.symm ht
            have HR1 := Lib.hid hr1
            have HR2 := Lib.hid hr2
            have HR3 := Lib.hid hr3.symm
            clear hcall2 ht hr1 hr2 hr3 f0 f1 f2 HQ1 HQ2 HQ3 hb9
            go_wp2_with fail
            go_roundw
            case rel => exact ⟨k + 1, g1', g2', v1', v2', by omega, by go_num, hI1, hI2, HR2, HR1, HR3, hb10.out⟩
            case measure => simp [intOf]; omega
          · have hend : (((k : Int) < (s.length : Int)) ∧ decide ((k : Int) < 40) = false) ∨ ¬ k < s.length := by
              by_cases h : k < s.length
              · exact .inl ⟨by omega, by simp; omega⟩
              · exact .inr h
            have hca1 := Lib.hid (gacts_calls true g1 b1 v1 wr hga1.out hi1.out.2.2.2.2.2.1)
            have hac1 := hi1.out.2.2.2.2.2.1
            have hok1 := Lib.hid hi1.out.2.2.2.2.2.2.1
            have HROW1 := Lib.hid (Gt.row_of_sorted hok1.out hi1.out.2.2.2.2.2.2.2.2.2)
            have hac2 := hi2.out.2.2.2.2.2.1
            have hok2 := Lib.hid hi2.out.2.2.2.2.2.2.1
            have HROW2 := Lib.hid (Gt.row_of_sorted hok2.out hi2.out.2.2.2.2.2.2.2.2.2)
            clear hi1 hi2 hkl hga1
            rcases hend with ⟨t1, t2⟩ | hkk
            · have t1 : decide ((k : Int) < (s.length : Int)) = true := by simp; omega
              have t1' : k < s.length := by omega
              go_wp2_with fail
              (with_reducible refine hca1.out.mono ?_)
              rintro e x1 ⟨v5, rfl, hown5, hx1⟩
              have hser := Lib.hid (serial_ok g1.acts v5 x1 hown5.acts hac1 hok1.out)
              have hbx1 := hb.trans (hx1.mono hb.size)
              clear hca1 hown5
              go_wp2_with fail
              (with_reducible refine hser.out.mono ?_)
              rintro e x2 ⟨hx2, ⟨hn, -⟩ | ⟨o1, u1, ho1, rfl, hu1⟩⟩
              · obtain ⟨r, hr⟩ := HROW1.out
                rw [hn] at hr; cases hr
              have HL1 : Len3 o1 5 := ⟨by have := (Rw.row_spec ho1).1; rwa [Sch.length_edges] at this⟩
              obtain ⟨B1, k1, rfl⟩ := Rd.val hu1.ints
              rw [length_zs, HL1.a]
              have hbx2 := hbx1.trans (hx2.mono hbx1.size)
              have hxx := hx1.trans (hx2.mono hx1.size)
              clear hser ho1 HROW1 hu1 hx1 hx2
              have hca2 := Lib.hid (gacts_calls false g2 b2 v2 x2 (hga2.out.only (Only.of_below hxx (Nat.le_refl _) (fun _ => False)) (fun _ _ h => h)) hac2)
              go_wp2_with fail
              (with_reducible refine hca2.out.mono ?_)
              rintro e x3 ⟨v6, rfl, hown6, hx3⟩
              have hser := Lib.hid (serial_ok g2.acts v6 x3 hown6.acts hac2 hok2.out)
              have hbx3 := hbx2.trans (hx3.mono hbx2.size)
              clear hca2 hown6
              go_wp2_with fail
              (with_reducible refine hser.out.mono ?_)
              rintro e x4 ⟨hx4, ⟨hn, -⟩ | ⟨o2, u2, ho2, rfl, hu2⟩⟩
              · obtain ⟨r, hr⟩ := HROW2.out
                rw [hn] at hr; cases hr
              have HL2 : Len3 o2 5 := ⟨by have := (Rw.row_spec ho2).1; rwa [Sch.length_edges] at this⟩
              obtain ⟨B2, k2, rfl⟩ := Rd.val hu2.ints
              rw [length_zs, HL2.a]
              have hbx4 := hbx3.trans (hx4.mono hbx3.size)
              clear hser ho2 HROW2 hu2 hx3 hx4
              go_wp2_with fail
              go_ret
              exact ⟨rfl, hbx4⟩
            · have hk' : k = s.length := by omega
              subst hk'
              go_wp2_with fail
              (with_reducible refine hca1.out.mono ?_)
              rintro e x1 ⟨v5, rfl, hown5, hx1⟩
              have hser := Lib.hid (serial_ok g1.acts v5 x1 hown5.acts hac1 hok1.out)
              have hbx1 := hb.trans (hx1.mono hb.size)
              clear hca1 hown5
              go_wp2_with fail
              (with_reducible refine hser.out.mono ?_)
              rintro e x2 ⟨hx2, ⟨hn, -⟩ | ⟨o1, u1, ho1, rfl, hu1⟩⟩
              · obtain ⟨r, hr⟩ := HROW1.out
                rw [hn] at hr; cases hr
              have HL1 : Len3 o1 5 := ⟨by have := (Rw.row_spec ho1).1; rwa [Sch.length_edges] at this⟩
              obtain ⟨B1, k1, rfl⟩ := Rd.val hu1.ints
              rw [length_zs, HL1.a]
              have hbx2 := hbx1.trans (hx2.mono hbx1.size)
              have hxx := hx1.trans (hx2.mono hx1.size)
              clear hser ho1 HROW1 hu1 hx1 hx2
              have hca2 := Lib.hid (gacts_calls false g2 b2 v2 x2 (hga2.out.only (Only.of_below hxx (Nat.le_refl _) (fun _ => False)) (fun _ _ h => h)) hac2)
              go_wp2_with fail
              (with_reducible refine hca2.out.mono ?_)
              rintro e x3 ⟨v6, rfl, hown6, hx3⟩
              have hser := Lib.hid (serial_ok g2.acts v6 x3 hown6.acts hac2 hok2.out)
              have hbx3 := hbx2.trans (hx3.mono hbx2.size)
              clear hca2 hown6
              go_wp2_with fail
              (with_reducible refine hser.out.mono ?_)
              rintro e x4 ⟨hx4, ⟨hn, -⟩ | ⟨o2, u2, ho2, rfl, hu2⟩⟩
              · obtain ⟨r, hr⟩ := HROW2.out
                rw [hn] at hr; cases hr
              have HL2 : Len3 o2 5 := ⟨by have := (Rw.row_spec ho2).1; rwa [Sch.length_edges] at this⟩
              obtain ⟨B2, k2, rfl⟩ := Rd.val hu2.ints
              rw [length_zs, HL2.a]
              have hbx4 := hbx3.trans (hx4.mono hbx3.size)
              clear hser ho2 HROW2 hu2 hx3 hx4
              go_wp2_with fail
              go_ret
              exact ⟨rfl, hbx4⟩
      · have hk' : k = ds.length := by omega
        subst hk'
        go_wp2_with fail
        (with_reducible refine hca.out.mono ?_)
        rintro e w5 ⟨v5, rfl, hown5, hb5⟩
        have hbF := hb.trans (hb5.mono hb.size)
        have hser := Lib.hid (serial_ok l.acts v5 w5 hown5.acts hac hok.out)
        clear hca hown5 hb5 hb
        generalize l.acts = t at *
        go_wp2_with fail
        (with_reducible refine hser.out.mono ?_)
        rintro e w6 ⟨hb7, ⟨hn, -⟩ | ⟨out, v', hs, rfl, -⟩⟩
        · obtain ⟨r, hr⟩ := HROW.out
          rw [hn] at hr; cases hr
        have hbg := hbF.trans (hb7.mono hbF.size)
        clear hser hs hb7 hbF HROW
        have hn1 := Lib.hid (gnew_calls true w6)
        go_wp2_with fail
        (with_reducible refine hn1.out.mono ?_)
        rintro e w7 ⟨rfl, hg7, hb7, hs7⟩
        have hbh := hbg.trans (hb7.mono hbg.size)
        have hn2 := Lib.hid (gnew_calls false w7)
        clear hn1
        go_wp2_with fail
        (with_reducible refine hn2.out.mono ?_)
        rintro e w8 ⟨rfl, hg8, hb8, hs8⟩
        have hbi := hbh.trans (hb8.mono hbh.size)
        have hga1 := Lib.hid (hg7.only (Only.of_below hb8 (Nat.le_refl _) (fun _ => False)) (fun _ _ h => h))
        have hga2 := Lib.hid hg8
        have hap := Lib.hid (show Apart w6.heap.size (.slice none 0 0) w7.heap.size (.slice none 0 0) from fun k hk hk' => by
          rcases hk with h1 | h1
          · rcases hk' with h2 | h2
            · omega
            · cases h2
          · cases h1)
        have HB1 := Lib.hid hbg.size
        have HB2 := Lib.hid hbh.size
        clear hn2 hg7 hg8 hb7 hb8 hs7 hs8 hbg hbh
        generalize w6.heap.size = b1 at *
        generalize w7.heap.size = b2 at *
        go_wp2_with fail
        go_loopw [17] (fun i wr => ∃ (k : Nat) (g1 g2 : Gt.G) (v1 v2 : Value), k ≤ s.length ∧ i = nv k ∧ Hid (Gt.Inv g1) ∧ Hid (Gt.Inv g2) ∧ Hid (GateAt wr b1 true g1 v1) ∧ Hid (GateAt wr b2 false g2 v2) ∧ Hid (Apart b1 v1 b2 v2) ∧ Below w.heap.size w wr) (fun i _ => s.length - (intOf i).toNat)
        case atStart => exact ⟨0, Gt.g0, Gt.g0, _, _, Nat.zero_le _, rfl, Lib.hid Gt.inv0, Lib.hid Gt.inv0, hga1, hga2, hap, hbi⟩
        case round =>
          clear hga1 hga2 hap hbi
          obtain ⟨k, g1, g2, v1, v2, hk, rfl, hi1, hi2, hga1, hga2, hap, hb⟩ := hrel
          by_cases hkl : k < s.length ∧ k < 40
          · obtain ⟨hk1, hk2⟩ := hkl
            obtain ⟨q1, off, cap', he, _, _, hbb, d0, d1, d2⟩ := Acts.at_ (Rd.below HU.out hb) hk1
            cases he
            have HAT := Lib.hid fun (w' : World) (hb' : Below w.heap.size w w') => Acts.at_ (Rd.below HU.out hb') hk1
            generalize hsk : s[k] = a at *
            clear hsk
            have hcall := Lib.hid (gdo_calls true g1 a b1 v1 wr hga1.out hi1.out)
            have hcall2 := Lib.hid fun (w' : World) (h' : GateAt w' b2 false g2 v2) => gdo_calls false g2 a b2 v2 w' h' hi2.out
            have hI1 := Lib.hid (Gt.Inv.passI (skips := true) hi1.out a)
            have hI2 := Lib.hid (Gt.Inv.passI (skips := false) hi2.out a)
            obtain ⟨x, y, z⟩ := a
            simp only at d0 d1 d2 hcall hcall2 HAT
            generalize (passI true g1 (x, y, z)).2.1 = did1 at *
            generalize (passI true g1 (x, y, z)).2.2 = cc1 at *
            generalize (passI true g1 (x, y, z)).1 = g1' at *
            generalize (passI false g2 (x, y, z)).2.1 = did2 at *
            generalize (passI false g2 (x, y, z)).2.2 = cc2 at *
            generalize (passI false g2 (x, y, z)).1 = g2' at *
            generalize errv cc1 = ev1 at *
            generalize errv cc2 = ev2 at *
            go_wp2_with fail
            (with_reducible refine hcall.out.mono ?_)
            rintro e w9 ⟨rfl, ht⟩
            have hb9 := ht.below hb hga1.out HB1.out
            obtain ⟨v1', hq1, hq2, hq3⟩ := gates_left hga1.out hga2.out hap.out ht
            have HQ1 := Lib.hid hq1
            have HQ2 := Lib.hid hq2
            have HQ3 := Lib.hid hq3
            have hcall2 := Lib.hid (hcall2.out w9 hq2)
            obtain ⟨q2, off2, cap2', he, _, _, hbb2, f0, f1, f2⟩ := HAT.out w9 hb9
            cases he
            clear hcall ht hq1 hq2 hq3 d0 d1 d2 HAT hga1 hga2 hap hb
            go_wp2_with fail
            (with_reducible refine hcall2.out.mono ?_)
            rintro e w10 ⟨rfl, ht⟩
            have hb10 := Lib.hid (ht.below hb9 HQ2.out HB2.out)
            obtain ⟨v2', hr1, hr2, hr3⟩ := gates_left HQ2.out HQ1.out HQ3.out.symm ht
            have HR1 := Lib.hid hr1
            have HR2 := Lib.hid hr2
            have HR3 := Lib.hid hr3.symm
            clear hcall2 ht hr1 hr2 hr3 f0 f1 f2 HQ1 HQ2 HQ3 hb9
            go_wp2_with fail
            go_roundw
            case rel => exact ⟨k + 1, g1', g2', v1', v2', by omega, by go_num, hI1, hI2, HR2, HR1, HR3, hb10.out⟩
            case measure => simp [intOf]; omega
          · have hend : (((k : Int) < (s.length : Int)) ∧ decide ((k : Int) < 40) = false) ∨ ¬ k < s.length := by
              by_cases h : k < s.length
              · exact .inl ⟨by omega, by simp; omega⟩
              · exact .inr h
            have hca1 := Lib.hid (gacts_calls true g1 b1 v1 wr hga1.out hi1.out.2.2.2.2.2.1)
            have hac1 := hi1.out.2.2.2.2.2.1
            have hok1 := Lib.hid hi1.out.2.2.2.2.2.2.1
            have HROW1 := Lib.hid (Gt.row_of_sorted hok1.out hi1.out.2.2.2.2.2.2.2.2.2)
            have hac2 := hi2.out.2.2.2.2.2.1
            have hok2 := Lib.hid hi2.out.2.2.2.2.2.2.1
            have HROW2 := Lib.hid (Gt.row_of_sorted hok2.out hi2.out.2.2.2.2.2.2.2.2.2)
            clear hi1 hi2 hkl hga1
            rcases hend with ⟨t1, t2⟩ | hkk
            · have t1 : decide ((k : Int) < (s.length : Int)) = true := by simp; omega
              have t1' : k < s.length := by omega
              go_wp2_with fail
              (with_reducible refine hca1.out.mono ?_)
              rintro e x1 ⟨v5, rfl, hown5, hx1⟩
              have hser := Lib.hid (serial_ok g1.acts v5 x1 hown5.acts hac1 hok1.out)
              have hbx1 := hb.trans (hx1.mono hb.size)
              clear hca1 hown5
              go_wp2_with fail
              (with_reducible refine hser.out.mono ?_)
              rintro e x2 ⟨hx2, ⟨hn, -⟩ | ⟨o1, u1, ho1, rfl, hu1⟩⟩
              · obtain ⟨r, hr⟩ := HROW1.out
                rw [hn] at hr; cases hr
              have HL1 : Len3 o1 5 := ⟨by have := (Rw.row_spec ho1).1; rwa [Sch.length_edges] at this⟩
              obtain ⟨B1, k1, rfl⟩ := Rd.val hu1.ints
              rw [length_zs, HL1.a]
              have hbx2 := hbx1.trans (hx2.mono hbx1.size)
              have hxx := hx1.trans (hx2.mono hx1.size)
              clear hser ho1 HROW1 hu1 hx1 hx2
              have hca2 := Lib.hid (gacts_calls false g2 b2 v2 x2 (hga2.out.only (Only.of_below hxx (Nat.le_refl _) (fun _ => False)) (fun _ _ h => h)) hac2)
              go_wp2_with fail
              (with_reducible refine hca2.out.mono ?_)
              rintro e x3 ⟨v6, rfl, hown6, hx3⟩
              have hser := Lib.hid (serial_ok g2.acts v6 x3 hown6.acts hac2 hok2.out)
              have hbx3 := hbx2.trans (hx3.mono hbx2.size)
              clear hca2 hown6
              go_wp2_with fail
              (with_reducible refine hser.out.mono ?_)
              rintro e x4 ⟨hx4, ⟨hn, -⟩ | ⟨o2, u2, ho2, rfl, hu2⟩⟩
              · obtain ⟨r, hr⟩ := HROW2.out
                rw [hn] at hr; cases hr
              have HL2 : Len3 o2 5 := ⟨by have := (Rw.row_spec ho2).1; rwa [Sch.length_edges] at this⟩
              obtain ⟨B2, k2, rfl⟩ := Rd.val hu2.ints
              rw [length_zs, HL2.a]
              have hbx4 := hbx3.trans (hx4.mono hbx3.size)
              clear hser ho2 HROW2 hu2 hx3 hx4
              go_wp2_with fail
              go_ret
              exact ⟨rfl, hbx4⟩
            · have hk' : k = s.length := by omega
              subst hk'
              go_wp2_with fail
              (with_reducible refine hca1.out.mono ?_)
              rintro e x1 ⟨v5, rfl, hown5, hx1⟩
              have hser := Lib.hid (serial_ok g1.acts v5 x1 hown5.acts hac1 hok1.out)
              have hbx1 := hb.trans (hx1.mono hb.size)
              clear hca1 hown5
              go_wp2_with fail
              (with_reducible refine hser.out.mono ?_)
              rintro e x2 ⟨hx2, ⟨hn, -⟩ | ⟨o1, u1, ho1, rfl, hu1⟩⟩
              · obtain ⟨r, hr⟩ := HROW1.out
                rw [hn] at hr; cases hr
              have HL1 : Len3 o1 5 := ⟨by have := (Rw.row_spec ho1).1; rwa [Sch.length_edges] at this⟩
              obtain ⟨B1, k1, rfl⟩ := Rd.val hu1.ints
              rw [length_zs, HL1.a]
              have hbx2 := hbx1.trans (hx2.mono hbx1.size)
              have hxx := hx1.trans (hx2.mono hx1.size)
              clear hser ho1 HROW1 hu1 hx1 hx2
              have hca2 := Lib.hid (gacts_calls false g2 b2 v2 x2 (hga2.out.only (Only.of_below hxx (Nat.le_refl _) (fun _ => False)) (fun _ _ h => h)) hac2)
              go_wp2_with fail
              (with_reducible refine hca2.out.mono ?_)
              rintro e x3 ⟨v6, rfl, hown6, hx3⟩
              have hser := Lib.hid (serial_ok g2.acts v6 x3 hown6.acts hac2 hok2.out)
              have hbx3 := hbx2.trans (hx3.mono hbx2.size)
              clear hca2 hown6
              go_wp2_with fail
              (with_reducible refine hser.out.mono ?_)
              rintro e x4 ⟨hx4, ⟨hn, -⟩ | ⟨o2, u2, ho2, rfl, hu2⟩⟩
              · obtain ⟨r, hr⟩ := HROW2.out
                rw [hn] at hr; cases hr
              have HL2 : Len3 o2 5 := ⟨by have := (Rw.row_spec ho2).1; rwa [Sch.length_edges] at this⟩
              obtain ⟨B2, k2, rfl⟩ := Rd.val hu2.ints
              rw [length_zs, HL2.a]
              have hbx4 := hbx3.trans (hx4.mono hbx3.size)
              clear hser ho2 HROW2 hu2 hx3 hx4
              go_wp2_with fail
              go_ret
              exact ⟨rfl, hbx4⟩
/-- the law at every input -/
theorem tops_calls (v u : Value) (recs : List (List Int)) (recs' : List (List Int)) (w : World) (hr : Rd w w.heap.size 4 v recs.length (recs.flatMap fun r => r.map iv)) (hl : ∀ r ∈ recs, r.length = 4)
    (hu : Rd w w.heap.size 3 u recs'.length (recs'.flatMap fun r => r.map iv)) (hl' : ∀ r ∈ recs', r.length = 3) :
    Calls Try.prog 5 #[v, u] w fun e w' => e = .returned (.bool true) ∧ Below w.heap.size w w' := by
  obtain ⟨s, hs⟩ := deeds_of_recs hr hl
  obtain ⟨t, ht⟩ := acts_of_recs hu hl'
  exact tops_ok s t v u w hs ht
end Go.Proofs.Ytkindaadadggoaa
