/- The walk of the statement PriorSkips: at every input it returns true. Conditions: none beyond the handle's. -/
import Derived.Test.YtkindaadadggoaaDoorPFact
namespace Go.Proofs.YtkindaadadggoaaDoor
open Go.RowKit

/-- who is the greatest, as the statement notes it -/
def mosts (g : Gt.G) : List Int := g.wr.map fun x : Nat => (x : Int) - 1
theorem length_mosts (g : Gt.G) : (mosts g).length = g.wr.length := by simp [mosts]
theorem mosts_at {g : Gt.G} {i : Nat} (hi : i < (mosts g).length) : (mosts g)[i] = ((g.wr.getD i 0 : Nat) : Int) - 1 := by
  have h : i < g.wr.length := by rw [← length_mosts]; exact hi
  simp [mosts, List.getD_eq_getElem?_getD, List.getElem?_eq_getElem h]
theorem mosts_set {g g' : Gt.G} {i x : Nat} (h : g'.wr = g.wr.set i (x + 1)) : mosts g' = (mosts g).set i (x : Int) := by
  unfold mosts
  rw [h, List.map_set]
  congr 1
  omega
theorem mosts_same {g g' : Gt.G} (h : g'.wr = g.wr) : mosts g' = mosts g := by unfold mosts; rw [h]

theorem lasts_passI {skips : Bool} {g : Gt.G} (h : Gt.Lasts g) (a : Act3) : Gt.Lasts (passI skips g a).1 := by
  unfold passI
  split
  · exact Gt.lasts_pass skips h (ok3_of (by assumption))
  · exact h
/-- the four ways -/
theorem passI_ways (g : Gt.G) (a : Act3) : ((passI true g a).2.2 ≠ 0 ∧ (passI true g a).1.wr = g.wr) ∨ ((passI true g a).2.2 = 0 ∧ a.2.2 ≠ 1 ∧ (passI true g a).2.1 = true ∧ (passI true g a).1.wr = g.wr) ∨
    ((passI true g a).2.2 = 0 ∧ ∃ tx it : Nat, a = ((tx : Int), (it : Int), (1 : Int)) ∧ tx < 5 ∧ it < 4 ∧
      (((passI true g a).2.1 = true ∧ g.wr.getD it 0 ≤ tx + 1 ∧ (passI true g a).1.wr = g.wr.set it (tx + 1)) ∨ ((passI true g a).2.1 = false ∧ tx + 1 < g.wr.getD it 0 ∧ (passI true g a).1.wr = g.wr))) := by
  unfold passI
  split
  · rename_i hok
    have h3 := ok3_of hok
    obtain ⟨p, q, r⟩ := a
    obtain ⟨⟨h1, h2⟩, ⟨h4, h5⟩, h6, h7⟩ := hok
    obtain ⟨tx, rfl⟩ := Int.eq_ofNat_of_zero_le h1
    obtain ⟨it, rfl⟩ := Int.eq_ofNat_of_zero_le h4
    obtain ⟨wt, rfl⟩ := Int.eq_ofNat_of_zero_le h6
    have e : ((((tx : Nat) : Int), ((it : Nat) : Int), ((wt : Nat) : Int)).1.toNat, (((tx : Nat) : Int), ((it : Nat) : Int), ((wt : Nat) : Int)).2.1.toNat, (((tx : Nat) : Int), ((it : Nat) : Int), ((wt : Nat) : Int)).2.2.toNat) = (tx, it, wt) := rfl
    rw [e] at h3 ⊢
    by_cases hc : (Gt.pass true g (tx, it, wt)).2.2 = 0
    · obtain ⟨g1, g2⟩ := Gt.pass_skips hc
      by_cases hw : wt = 1
      · subst hw
        refine .inr (.inr ⟨hc, tx, it, rfl, h3.1, h3.2.1, ?_⟩)
        rcases g1 rfl with ⟨a1, a2, a3⟩ | ⟨a1, a2, a3⟩
        · exact .inl ⟨a1, a2, a3⟩
        · exact .inr ⟨a1, a2, by rw [a3]⟩
      · obtain ⟨a1, a2⟩ := g2 hw
        exact .inr (.inl ⟨hc, by show ((wt : Nat) : Int) ≠ 1; omega, a1, a2⟩)
    · exact .inl ⟨hc, Gt.pass_wrong hc⟩
  · exact .inl ⟨Nat.one_ne_zero, rfl⟩

set_option maxRecDepth 20000 in
set_option maxHeartbeats 4000000 in
theorem pskips_ok (s : List Act3) (v : Value) (w : World) (hr : Acts w w.heap.size v s) (hE : ErrTy w) :
    Calls Tryd.prog 3 #[v] w fun e w' => e = .returned (.bool true) ∧ Below w.heap.size w w' := by
  have hf := Lib.hid (priorFact_calls w hE)
  have HR := Lib.hid hr
  obtain ⟨A, cap, rfl⟩ := Rd.val hr
  clear hr
  go_enter Tryd.func3, Tryd.ntmps3
  go_wp2_with fail
  (with_reducible refine hf.out.mono ?_)
  rintro e w1 ⟨rfl, hb1⟩
  have hn := Lib.hid (gnew_calls true w1)
  clear hf
  go_wp2_with fail
  (with_reducible refine hn.out.mono ?_)
  rintro e w2 ⟨rfl, hg2, hb2, hs2⟩
  have hbb := hb1.trans (hb2.mono hb1.size)
  generalize hbq : w1.heap.size = b at *
  have HBQ := Lib.hid (show w.heap.size ≤ b by rw [← hbq]; exact hb1.size)
  have HS2 := Lib.hid hs2
  clear hn hb1 hb2 hbq hs2
  go_wp2_with fail
  have hown0 : Own (w2.alloc (.cells #[.int .i64 (-1), .int .i64 (-1), .int .i64 (-1), .int .i64 (-1)] 3)) (b + 1) (.slice (some ⟨w2.heap.size, 0, none⟩) 4 4) (mosts Gt.g0) :=
    ⟨rfl, .inr ⟨_, 4, _, rfl, Nat.le_of_eq HS2.out.symm, heap_alloc_new w2 _, by decide, by decide, rfl, rfl⟩⟩
  have hga0 := Lib.hid (hg2.alloc (.cells #[.int .i64 (-1), .int .i64 (-1), .int .i64 (-1), .int .i64 (-1)] 3))
  have hoff0 := Lib.hid (show ∀ k, Foot b (.slice none 0 0) k → k ≠ w2.heap.size from fun k hk => by
    rcases hk with rfl | hk
    · have := HS2.out; omega
    · cases hk)
  have hb0 := hbb.alloc hbb.size (.cells #[.int .i64 (-1), .int .i64 (-1), .int .i64 (-1), .int .i64 (-1)] 3)
  clear hg2
  obtain ⟨m0, hm0⟩ : ∃ m0, m0 = w2.heap.size := ⟨_, rfl⟩
  rw [← hm0] at hown0 hoff0 ⊢
  have HM0 := Lib.hid hm0
  clear hm0 hbb
  go_loopw [6] (fun i wr => ∃ (k : Nat) (g : Gt.G) (v : Value), k ≤ s.length ∧ i = nv k ∧ Hid (Gt.Inv g ∧ Gt.Lasts g) ∧ Hid (GateAt wr b true g v) ∧ Own wr (b + 1) (.slice (some ⟨m0, 0, none⟩) 4 4) (mosts g) ∧ Hid (∀ k, Foot b v k → k ≠ m0) ∧ Below w.heap.size w wr) (fun i _ => s.length - (intOf i).toNat)
  case atStart => exact ⟨0, Gt.g0, _, Nat.zero_le _, rfl, Lib.hid ⟨Gt.inv0, Gt.lasts0⟩, hga0, hown0, hoff0, hb0⟩
  case round =>
    clear hown0 hga0 hoff0 hb0
    obtain ⟨k, g, v, hk, rfl, hinv, hga, hown, hoff, hb⟩ := hrel
    by_cases hkl : k < s.length ∧ k < 60
    · obtain ⟨hk1, hk2⟩ := hkl
      obtain ⟨b1, off, cap', he, _, _, hbb, d0, d1, d2⟩ := Acts.at_ (Rd.below HR.out hb) hk1
      cases he
      generalize hsk : s[k] = a at *
      clear hsk
      have hcall := Lib.hid (gdo_calls true g a b v (wr.alloc (.cells #[iv a.1, iv a.2.1, iv a.2.2] 28)) (hga.out.alloc _) hinv.out.1)
      have hI := Lib.hid (show Gt.Inv (passI true g a).1 ∧ Gt.Lasts (passI true g a).1 from ⟨Gt.Inv.passI hinv.out.1 a, lasts_passI hinv.out.2 a⟩)
      have hwr5 := fun it h => hinv.out.1.2.2.2.2.2.2.2.2.1 it h
      have hwl := hinv.out.1.2.1
      rcases passI_ways g a with ⟨c0, c1⟩ | ⟨c0, c1, c2, c3⟩ | ⟨c0, tx, it, rfl, htx, hit, c1⟩
      · have hm := Lib.hid (mosts_same c1)
        obtain ⟨x, y, z⟩ := a
        simp only at d0 d1 d2 hcall
        generalize (passI true g (x, y, z)).2.1 = did at *
        generalize (passI true g (x, y, z)).2.2 = c at *
        generalize (passI true g (x, y, z)).1 = g' at *
        have hev : errv c = .iface 93 (nv c) := if_neg c0
        rw [hev] at hcall
        clear c0 c1 hev hwr5 hwl
        go_wp2_with fail
        (with_reducible refine hcall.out.mono ?_)
        rintro e w4 ⟨rfl, ht⟩
        have hb4 := Lib.hid (ht.below (hb.alloc hb.size _) (hga.out.alloc _) HBQ.out)
        have hon := ht.onlyF
        have hown4 := Lib.hid ((hown.alloc (.cells #[iv x, iv y, iv z] 28)).only hon (fun j hj hf => hoff.out j hf (by cases hj; rfl)))
        have hm0lt := (row_lt hown m0 rfl).2
        obtain ⟨v', hga4, -, hfoot⟩ := ht
        have hga4 := Lib.hid hga4
        have hoff4 := Lib.hid (show ∀ j, Foot b v' j → j ≠ m0 from fun j hj => by
          rcases hfoot j hj with h | h
          · exact hoff.out j h
          · rintro rfl; simp at h; omega)
        clear hcall hown hon hfoot hm0lt hb
        go_wp2_with fail
        go_roundw
        case rel => exact ⟨k + 1, g', v', by omega, by go_num, hI, hga4, by rw [hm.out]; exact hown4.out, hoff4, hb4.out⟩
        case measure => simp [intOf]; omega
      · have hm := Lib.hid (mosts_same c3)
        obtain ⟨x, y, z⟩ := a
        simp only at d0 d1 d2 hcall c1
        rw [c0, c2] at hcall
        generalize (passI true g (x, y, z)).1 = g' at *
        have hev : errv 0 = .nilIface := rfl
        rw [hev] at hcall
        have hz : (z != 1) = true := by simpa using c1
        clear c0 c1 c2 c3 hev hwr5 hwl
        go_wp2_with fail
        (with_reducible refine hcall.out.mono ?_)
        rintro e w4 ⟨rfl, ht⟩
        have hb4 := Lib.hid (ht.below (hb.alloc hb.size _) (hga.out.alloc _) HBQ.out)
        have hon := ht.onlyF
        have hown4 := Lib.hid ((hown.alloc (.cells #[iv x, iv y, iv z] 28)).only hon (fun j hj hf => hoff.out j hf (by cases hj; rfl)))
        have hnf : ¬ Foot b v wr.heap.size := fun hf => by have := (hga.out.foot _ hf).2; omega
        have hm0lt := (row_lt hown m0 rfl).2
        have q0 : w4.cell? ⟨wr.heap.size, 0, none⟩ = some (iv x) := (hon.cell (p := ⟨wr.heap.size, 0, none⟩) (by simp) hnf).trans (by simp)
        have q1 : w4.cell? ⟨wr.heap.size, 1, none⟩ = some (iv y) := (hon.cell (p := ⟨wr.heap.size, 1, none⟩) (by simp) hnf).trans (by simp)
        have q2 : w4.cell? ⟨wr.heap.size, 2, none⟩ = some (iv z) := (hon.cell (p := ⟨wr.heap.size, 2, none⟩) (by simp) hnf).trans (by simp)
        obtain ⟨v', hga4, -, hfoot⟩ := ht
        have hga4 := Lib.hid hga4
        have hoff4 := Lib.hid (show ∀ j, Foot b v' j → j ≠ m0 from fun j hj => by
          rcases hfoot j hj with h | h
          · exact hoff.out j h
          · rintro rfl; simp at h; omega)
        clear hcall hown hon hfoot hm0lt hb hnf
        go_wp2_with fail
        go_roundw
        case rel => exact ⟨k + 1, g', v', by omega, by go_num, hI, hga4, by rw [hm.out]; exact hown4.out, hoff4, hb4.out⟩
        case measure => simp [intOf]; omega
      · have hx5 := hwr5 it hit
        have hcellM := fun (w4 : World) (h : Own w4 (b + 1) (.slice (some ⟨m0, 0, none⟩) 4 4) (mosts g)) => h.lit.2.2.1 it (by rw [length_mosts, hwl]; exact hit)
        rw [show (mosts g)[it]'(by rw [length_mosts, hwl]; exact hit) = ((g.wr.getD it 0 : Nat) : Int) - 1 from mosts_at _] at hcellM
        have hcellM := Lib.hid hcellM
        have hmm := Lib.hid (show (mosts g).set it (((g.wr.getD it 0 : Nat) : Int) - 1) = mosts g by
          rw [← mosts_at (g := g) (i := it) (by rw [length_mosts, hwl]; exact hit)]
          exact List.set_getElem_self _)
        obtain ⟨mo, hmo⟩ : ∃ mo : Int, mo = ((g.wr.getD it 0 : Nat) : Int) - 1 := ⟨_, rfl⟩
        rw [← hmo] at hcellM hmm
        simp only at d0 d1 d2 hcall
        rcases c1 with ⟨c1, c2, c3⟩ | ⟨c1, c2, c3⟩
        · have hm := Lib.hid (mosts_set c3)
          have hle : mo ≤ (tx : Int) := by omega
          rw [c0, c1] at hcall
          generalize (passI true g ((tx : Int), (it : Int), (1 : Int))).1 = g' at *
          have hev : errv 0 = .nilIface := rfl
          rw [hev] at hcall
          have hmo1 : (-1 : Int) ≤ mo := by omega
          clear c0 c1 c2 c3 hev hwr5 hwl hx5 hmo
          go_wp2_with fail
          (with_reducible refine hcall.out.mono ?_)
          rintro e w4 ⟨rfl, ht⟩
          have hb4 := Lib.hid (ht.below (hb.alloc hb.size _) (hga.out.alloc _) HBQ.out)
          have hon := ht.onlyF
          have hown4 := Lib.hid ((hown.alloc (.cells #[iv tx, iv it, iv 1] 28)).only hon (fun j hj hf => hoff.out j hf (by cases hj; rfl)))
          have hnf : ¬ Foot b v wr.heap.size := fun hf => by have := (hga.out.foot _ hf).2; omega
          have hm0lt := (row_lt hown m0 rfl).2
          have q0 : w4.cell? ⟨wr.heap.size, 0, none⟩ = some (iv tx) := (hon.cell (p := ⟨wr.heap.size, 0, none⟩) (by simp) hnf).trans (by simp)
          have q1 : w4.cell? ⟨wr.heap.size, 1, none⟩ = some (iv it) := (hon.cell (p := ⟨wr.heap.size, 1, none⟩) (by simp) hnf).trans (by simp)
          have q2 : w4.cell? ⟨wr.heap.size, 2, none⟩ = some (iv 1) := (hon.cell (p := ⟨wr.heap.size, 2, none⟩) (by simp) hnf).trans (by simp)
          obtain ⟨v', hga4, -, hfoot⟩ := ht
          have hga4 := Lib.hid hga4
          have hoff4 := Lib.hid (show ∀ j, Foot b v' j → j ≠ m0 from fun j hj => by
            rcases hfoot j hj with h | h
            · exact hoff.out j h
            · rintro rfl; simp at h; omega)
          clear hcall hown hon hfoot hm0lt hb hnf
          have hcm := hcellM.out w4 hown4.out
          have hfm := (Own.lit hown4.out).2.2.2.1 it
          have hstm := Lib.hid fun n u => (Own.lit (show Own (w4.drewN n) (b + 1) (.slice (some ⟨m0, 0, none⟩) 4 4) (mosts g) from hown4.out)).2.2.2.2 it u
          have hgs := Lib.hid fun n u => (hga4.out.drewN n).only ((Only.refl (fun j => j = m0) (w4.drewN n)).setCell (p := ⟨m0, it, none⟩) (.inl rfl) u) (fun j hj e => hoff4.out j hj e)
          have hm0w := Lib.hid (show w.heap.size ≤ m0 from Nat.le_trans HBQ.out (Nat.le_trans (Nat.le_succ b) hown4.out.lit.1))
          have t1 : decide ((tx : Int) < mo) = false := by simpa using hle
          go_wp2_with fail
          go_quiet (fail)
          by_cases hlt : mo < (tx : Int)
          · have t2 : decide (mo < (tx : Int)) = true := by simpa using hlt
            go_wp2_with fail
            go_quiet (fail)
            go_wp2_with fail
            go_roundw
            case rel => exact ⟨k + 1, g', v', by omega, by go_num, hI, Lib.hid (hgs.out _ _), by rw [hm.out]; exact hstm.out _ _, hoff4, (drn hb4.out _).setCell (p := ⟨m0, it, none⟩) hm0w.out _⟩
            case measure => simp [intOf]; omega
          · have t2 : decide (mo < (tx : Int)) = false := by simpa using hlt
            have hme := Lib.hid (show mosts g' = mosts g by rw [hm.out, show (tx : Int) = mo by omega, hmm.out])
            go_wp2_with fail
            go_quiet (fail)
            go_wp2_with fail
            go_roundw
            case rel => exact ⟨k + 1, g', v', by omega, by go_num, hI, Lib.hid (hga4.out.drewN _), by rw [hme.out]; exact hown4.out, hoff4, drn hb4.out _⟩
            case measure => simp [intOf]; omega
        · have hm := Lib.hid (mosts_same c3)
          have hle : (tx : Int) < mo := by omega
          rw [c0, c1] at hcall
          generalize (passI true g ((tx : Int), (it : Int), (1 : Int))).1 = g' at *
          have hev : errv 0 = .nilIface := rfl
          rw [hev] at hcall
          have hmo1 : (-1 : Int) ≤ mo ∧ mo ≤ 4 := by omega
          clear c0 c1 c2 c3 hev hwr5 hwl hx5 hmo
          go_wp2_with fail
          (with_reducible refine hcall.out.mono ?_)
          rintro e w4 ⟨rfl, ht⟩
          have hb4 := Lib.hid (ht.below (hb.alloc hb.size _) (hga.out.alloc _) HBQ.out)
          have hon := ht.onlyF
          have hown4 := Lib.hid ((hown.alloc (.cells #[iv tx, iv it, iv 1] 28)).only hon (fun j hj hf => hoff.out j hf (by cases hj; rfl)))
          have hnf : ¬ Foot b v wr.heap.size := fun hf => by have := (hga.out.foot _ hf).2; omega
          have hm0lt := (row_lt hown m0 rfl).2
          have q0 : w4.cell? ⟨wr.heap.size, 0, none⟩ = some (iv tx) := (hon.cell (p := ⟨wr.heap.size, 0, none⟩) (by simp) hnf).trans (by simp)
          have q1 : w4.cell? ⟨wr.heap.size, 1, none⟩ = some (iv it) := (hon.cell (p := ⟨wr.heap.size, 1, none⟩) (by simp) hnf).trans (by simp)
          have q2 : w4.cell? ⟨wr.heap.size, 2, none⟩ = some (iv 1) := (hon.cell (p := ⟨wr.heap.size, 2, none⟩) (by simp) hnf).trans (by simp)
          obtain ⟨v', hga4, -, hfoot⟩ := ht
          have hga4 := Lib.hid hga4
          have hoff4 := Lib.hid (show ∀ j, Foot b v' j → j ≠ m0 from fun j hj => by
            rcases hfoot j hj with h | h
            · exact hoff.out j h
            · rintro rfl; simp at h; omega)
          clear hcall hown hon hfoot hm0lt hb hnf
          have hcm := hcellM.out w4 hown4.out
          have t1 : decide (mo ≤ (tx : Int)) = false := by simpa using hle
          have t2 : decide (mo < (tx : Int)) = false := by simp; omega
          go_wp2_with fail
          go_quiet (fail)
          go_wp2_with fail
          go_quiet (fail)
          go_wp2_with fail
          go_roundw
          case rel => exact ⟨k + 1, g', v', by omega, by go_num, hI, Lib.hid (hga4.out.drewN _), by rw [hm.out]; exact hown4.out, hoff4, drn hb4.out _⟩
          case measure => simp [intOf]; omega
    · have hend : ∀ (P : Prop), (k = s.length → P) → (k < s.length → ¬ k < 60 → P) → P := fun P h1 h2 => by
        by_cases h : k < s.length
        · exact h2 h (fun h' => hkl ⟨h, h'⟩)
        · exact h1 (by omega)
      clear hkl
      have hca := Lib.hid (gacts_calls true g b v wr hga.out hinv.out.1.2.2.2.2.2.1)
      have HA5 := Lib.hid fun (w5 : World) (hb5 : Below wr.heap.size wr w5) => Own.under hown (fun j hj => (row_lt hown j hj).2) hb5
      have hwl := hinv.out.1.2.1
      have hac := hinv.out.1.2.2.2.2.2.1
      have hLas := Lib.hid hinv.out.2.2
      have hInv := Lib.hid hinv.out.1.2.2.2.2.2.2.1
      clear hinv hown hoff hga
      refine hend _ (fun hk' => ?_) (fun hk' hk2 => ?_)
      · subst hk'
        clear hend hk
        go_wp2_with fail
        (with_reducible refine hca.out.mono ?_)
        rintro e w5 ⟨v5, rfl, hown5, hb5⟩
        have hA5 := Lib.hid hown5.acts
        have hM5 := Lib.hid (HA5.out w5 hb5)
        have hbF := Lib.hid (hb.trans (hb5.mono hb.size))
        clear hca HA5 hown5 hb5 hb
        obtain ⟨A5, c5, rfl⟩ := Rd.val hA5.out
        rw [Sch.length_zacts] at hA5 ⊢
        generalize g.acts = t at *
        go_wp2_with fail
        go_loop [11] (fun jv => ∃ j : Nat, j ≤ 4 ∧ jv = nv j) (fun jv => 4 - (intOf jv).toNat)
        case atStart => exact ⟨0, by omega, rfl⟩
        case round =>
          obtain ⟨j, hj, rfl⟩ := hrel
          by_cases hj4 : j < 4
          · have hcm := hM5.out.lit.2.2.1 j (by rw [length_mosts, hwl]; exact hj4)
            rw [mosts_at, hLas.out j hj4] at hcm
            clear hj
            go_wp2_with fail
            go_loop [12, 13] (fun lv nv' => ∃ n : Nat, n ≤ t.length ∧ nv' = nv n ∧ lv = iv (((Gt.lastBy j (t.take n) : Nat) : Int) - 1)) (fun _ nv' => t.length - (intOf nv').toNat)
            case atStart => exact ⟨0, Nat.zero_le _, rfl, rfl⟩
            case round =>
              obtain ⟨n, hn, rfl, rfl⟩ := hrel
              by_cases hnl : n < t.length
              · obtain ⟨b6, o6, c6, he, _, _, hb6, d0, d1, d2⟩ := Acts.atN hA5.out hnl
                cases he
                have hl := Lib.hid (Gt.lastBy_take j t hnl)
                generalize t.getD n Sch.d3 = x at *
                obtain ⟨tx, it, wt⟩ := x
                simp only at d0 d1 d2 hl
                by_cases h1 : it = j
                · have t1 : ((it : Int) == (j : Int)) = true := by simp; omega
                  by_cases h2 : wt = 1
                  · have t2 : ((wt : Int) == 1) = true := by simp; omega
                    have hl2 := Lib.hid (hl.out.trans (if_pos ⟨h1, h2⟩))
                    clear hl h1 h2
                    go_wp2_with fail
                    go_round
                    case rel => exact ⟨n + 1, by omega, by go_num, by rw [hl2.out]; exact congrArg iv (by omega)⟩
                    case measure => simp [intOf]; omega
                  · have t2 : ((wt : Int) == 1) = false := by simp; omega
                    have hl2 := Lib.hid (hl.out.trans (if_neg (fun h => h2 h.2)))
                    clear hl h1 h2
                    go_wp2_with fail
                    go_round
                    case rel => exact ⟨n + 1, by omega, by go_num, by rw [hl2.out]⟩
                    case measure => simp [intOf]; omega
                · have t1 : ((it : Int) == (j : Int)) = false := by simp; omega
                  have hl2 := Lib.hid (hl.out.trans (if_neg (fun h => h1 h.1)))
                  clear hl h1
                  go_wp2_with fail
                  go_round
                  case rel => exact ⟨n + 1, by omega, by go_num, by rw [hl2.out]⟩
                  case measure => simp [intOf]; omega
              · obtain rfl : n = t.length := by omega
                rw [List.take_length]
                clear hnl
                generalize Gt.lastBy j t = lb at *
                go_wp2_with fail
                go_round
                case rel => exact ⟨j + 1, by omega, by go_num⟩
                case measure => simp [intOf]; omega
          · go_wp2_with fail
            go_ret
            exact ⟨rfl, hbF.out⟩
      · have t3 : decide ((k : Int) < 60) = false := by simp; omega
        clear hend hk hk2
        go_wp2_with fail
        (with_reducible refine hca.out.mono ?_)
        rintro e w5 ⟨v5, rfl, hown5, hb5⟩
        have hA5 := Lib.hid hown5.acts
        have hM5 := Lib.hid (HA5.out w5 hb5)
        have hbF := Lib.hid (hb.trans (hb5.mono hb.size))
        clear hca HA5 hown5 hb5 hb
        obtain ⟨A5, c5, rfl⟩ := Rd.val hA5.out
        rw [Sch.length_zacts] at hA5 ⊢
        generalize g.acts = t at *
        go_wp2_with fail
        go_loop [11] (fun jv => ∃ j : Nat, j ≤ 4 ∧ jv = nv j) (fun jv => 4 - (intOf jv).toNat)
        case atStart => exact ⟨0, by omega, rfl⟩
        case round =>
          obtain ⟨j, hj, rfl⟩ := hrel
          by_cases hj4 : j < 4
          · have hcm := hM5.out.lit.2.2.1 j (by rw [length_mosts, hwl]; exact hj4)
            rw [mosts_at, hLas.out j hj4] at hcm
            clear hj
            go_wp2_with fail
            go_loop [12, 13] (fun lv nv' => ∃ n : Nat, n ≤ t.length ∧ nv' = nv n ∧ lv = iv (((Gt.lastBy j (t.take n) : Nat) : Int) - 1)) (fun _ nv' => t.length - (intOf nv').toNat)
            case atStart => exact ⟨0, Nat.zero_le _, rfl, rfl⟩
            case round =>
              obtain ⟨n, hn, rfl, rfl⟩ := hrel
              by_cases hnl : n < t.length
              · obtain ⟨b6, o6, c6, he, _, _, hb6, d0, d1, d2⟩ := Acts.atN hA5.out hnl
                cases he
                have hl := Lib.hid (Gt.lastBy_take j t hnl)
                generalize t.getD n Sch.d3 = x at *
                obtain ⟨tx, it, wt⟩ := x
                simp only at d0 d1 d2 hl
                by_cases h1 : it = j
                · have t1 : ((it : Int) == (j : Int)) = true := by simp; omega
                  by_cases h2 : wt = 1
                  · have t2 : ((wt : Int) == 1) = true := by simp; omega
                    have hl2 := Lib.hid (hl.out.trans (if_pos ⟨h1, h2⟩))
                    clear hl h1 h2
                    go_wp2_with fail
                    go_round
                    case rel => exact ⟨n + 1, by omega, by go_num, by rw [hl2.out]; exact congrArg iv (by omega)⟩
                    case measure => simp [intOf]; omega
                  · have t2 : ((wt : Int) == 1) = false := by simp; omega
                    have hl2 := Lib.hid (hl.out.trans (if_neg (fun h => h2 h.2)))
                    clear hl h1 h2
                    go_wp2_with fail
                    go_round
                    case rel => exact ⟨n + 1, by omega, by go_num, by rw [hl2.out]⟩
                    case measure => simp [intOf]; omega
                · have t1 : ((it : Int) == (j : Int)) = false := by simp; omega
                  have hl2 := Lib.hid (hl.out.trans (if_neg (fun h => h1 h.1)))
                  clear hl h1
                  go_wp2_with fail
                  go_round
                  case rel => exact ⟨n + 1, by omega, by go_num, by rw [hl2.out]⟩
                  case measure => simp [intOf]; omega
              · obtain rfl : n = t.length := by omega
                rw [List.take_length]
                clear hnl
                generalize Gt.lastBy j t = lb at *
                go_wp2_with fail
                go_round
                case rel => exact ⟨j + 1, by omega, by go_num⟩
                case measure => simp [intOf]; omega
          · go_wp2_with fail
            go_ret
            exact ⟨rfl, hbF.out⟩
/-- the law at every input -/
theorem pskips_calls (v : Value) (recs : List (List Int)) (w : World) (hr : Rd w w.heap.size 3 v recs.length (recs.flatMap fun r => r.map iv)) (hl : ∀ r ∈ recs, r.length = 3) (hE : ErrTy w) :
    Calls Tryd.prog 3 #[v] w fun e w' => e = .returned (.bool true) ∧ Below w.heap.size w w' := by
  obtain ⟨s, hs⟩ := acts_of_recs hr hl
  exact pskips_ok s v w hs hE
end Go.Proofs.YtkindaadadggoaaDoor
