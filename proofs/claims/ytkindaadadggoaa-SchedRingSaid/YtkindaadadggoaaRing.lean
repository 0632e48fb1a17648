/- The walk of the statement SchedRing: a schedule is serial just if no transaction stands behind itself; done one behind the other it is. Conditions: none but that the arguments come in slices that read as lists. -/
import Derived.Test.YtkindaadadggoaaSerial
import Derived.Test.YtkindaadadggoaaOrdered
import Derived.Test.YtkindaadadggoaaActMem
import Derived.Test.YtkindaadadggoaaRef1
namespace Go.Proofs.Ytkindaadadggoaa
open Go.RowKit

def ringTo (c : List Nat) : Nat → Bool
  | 0 => false
  | k + 1 => ringTo c k || Odr.rel c k k
theorem ringTo_false (c : List Nat) (k : Nat) : ringTo c k = false ↔ ∀ i, i < k → Odr.rel c i i = false := by
  induction k with
  | zero => simp [ringTo]
  | succ k ih =>
    rw [ringTo, Bool.or_eq_false_iff, ih]
    constructor
    · rintro ⟨h1, h2⟩ i hi
      by_cases h : i < k
      · exact h1 i h
      · obtain rfl : i = k := by omega
        exact h2
    · intro h
      exact ⟨fun i hi => h i (by omega), h k (by omega)⟩
theorem ring_iff {t : List Sch.N3} (ht : ∀ a ∈ t, Sch.Ok3 a) : ringTo (Odr.closed (Sch.edges t)) 5 = !(Rw.row (Sch.edges t)).isSome := by
  have h := Rw.row_isSome_iff (Sch.fits_edges ht)
  have h5 : ringTo (Odr.closed (Sch.edges t)) 5 = false ↔ ∀ i, Odr.rel (Odr.closed (Sch.edges t)) i i = false := by
    rw [ringTo_false]
    constructor
    · intro g i
      by_cases hi : i < 5
      · exact g i hi
      · by_cases hb : Odr.rel (Odr.closed (Sch.edges t)) i i = true
        · have := Odr.rel_lt_left hb
          rw [Odr.length_closed, Sch.length_edges] at this
          omega
        · simpa using hb
    · exact fun g i _ => g i
  rw [← h5] at h
  cases hr : (Rw.row (Sch.edges t)).isSome <;> cases hg : ringTo (Odr.closed (Sch.edges t)) 5 <;> simp [hr, hg] at h ⊢

theorem length_zacts_take (res : List Nat) (t : List Sch.N3) (k : Nat) : (Sch.zacts ((res.map fun i => t.getD i Sch.d3).take k)).length ≤ k := by
  rw [Sch.length_zacts, List.length_take]
  omega

theorem ring_err (s : List Act3) (v u : Value) (w : World) (hr : Acts w w.heap.size v s) (hne : actsCode s ≠ 0) :
    Calls Try.prog 4 #[v, u] w fun e w' => e = .returned (.bool true) ∧ Below w.heap.size w w' := by
  go_enter Try.func4, Try.ntmps4
  go_wp2_with fail
  refine (schedFact_calls _).mono ?_
  rintro e w1 ⟨rfl, hb1⟩
  have hr1 : Acts w1 w1.heap.size v s := (Rd.below hr hb1).more hb1.size
  have h1 := Lib.hid (serial_err s v w1 hr1 hne)
  go_wp2_with fail
  refine h1.out.mono ?_
  rintro e w2 ⟨rfl, hb2⟩
  have h2 := Lib.hid (edges_err s v w2 ((Rd.below hr1 hb2).more hb2.size) hne)
  clear hne hr hr1 h1
  go_wp2_with fail
  refine h2.out.mono ?_
  rintro e w3 ⟨rfl, hb3⟩
  clear h2
  have hb := (hb1.trans (hb2.mono hb1.size)).trans (hb3.mono (Nat.le_trans hb1.size hb2.size))
  clear hb1 hb2 hb3
  go_wp2_with fail
  go_ret
  exact ⟨rfl, hb⟩

set_option maxHeartbeats 2000000 in
theorem ring_ok (t : List Sch.N3) (row : List Int) (v u : Value) (w : World) (hr : Acts w w.heap.size v (Sch.zacts t)) (hlen : t.length ≤ 24) (hok : ∀ a ∈ t, Sch.Ok3 a) (hu : Ints w w.heap.size u row) :
    Calls Try.prog 4 #[v, u] w fun e w' => e = .returned (.bool true) ∧ Below w.heap.size w w' := by
  have HOK := Lib.hid hok
  have HR := Lib.hid (ring_iff hok)
  have hval := Lib.hid (Rd.val hr)
  clear hok
  go_enter Try.func4, Try.ntmps4
  go_wp2_with fail
  refine (schedFact_calls _).mono ?_
  rintro e w1 ⟨rfl, hb1⟩
  have hr1 : Acts w1 w1.heap.size v (Sch.zacts t) := (Rd.below hr hb1).more hb1.size
  have h1 := Lib.hid (serial_ok t v w1 hr1 hlen HOK.out)
  go_wp2_with fail
  refine h1.out.mono ?_
  rintro e w2 ⟨hb2, hcase⟩
  obtain ⟨is, rv, he, his⟩ : ∃ (is : Bool) (rv : Value), e = .returned (.tuple #[.bool is, rv, .nilIface]) ∧ is = (Rw.row (Sch.edges t)).isSome := by
    rcases hcase with ⟨h, h'⟩ | ⟨out, v', h, h', _⟩
    · exact ⟨false, _, h', by rw [h]; rfl⟩
    · exact ⟨true, _, h', by rw [h]; rfl⟩
  subst he
  have HIS := Lib.hid his
  have hr2 : Acts w2 w2.heap.size v (Sch.zacts t) := (Rd.below hr1 hb2).more hb2.size
  have hb12 := hb1.trans (hb2.mono hb1.size)
  have h2 := Lib.hid (edges_ok t v w2 hr2 hlen HOK.out)
  clear hcase his h1 hr1 hb1 hb2
  go_wp2_with fail
  refine h2.out.mono ?_
  rintro e w3 ⟨v3, rfl, hown3, hb3⟩
  clear h2
  have hr3 : Acts w3 w3.heap.size v (Sch.zacts t) := (Rd.below hr2 hb3).more hb3.size
  have hb := hb12.trans (hb3.mono hb12.size)
  have hi3 := hown3.ints
  clear hr2 hb12 hb3 hown3
  obtain ⟨A3, c3, rfl⟩ := Rd.val hi3
  simp only [length_zs, Sch.length_edges] at hi3 ⊢
  go_wp2_with fail
  go_loop [11] (fun i => ∃ k : Nat, k ≤ 5 ∧ i = nv k) (fun i => 5 - (intOf i).toNat)
  case atStart => exact ⟨0, by omega, rfl⟩
  case round =>
    obtain ⟨k, hk, rfl⟩ := hrel
    by_cases hkl : k < 5
    · obtain ⟨b0, off, cap', he, _, hc⟩ := Ints.atN hi3 (k := k) (by rw [Sch.length_edges]; exact hkl)
      rw [Sch.length_edges] at he
      cases he
      have hx := (Sch.fits_edges HOK.out).getD k
      rw [Sch.length_edges] at hx
      generalize (Sch.edges t).getD k 0 = x at *
      have hx' : x ≤ 31 := by omega
      clear hx hi3 hr hr3
      go_wp2_with fail
      go_round
      case rel => exact ⟨k + 1, by omega, by go_num⟩
      case measure => simp [intOf]; omega
    · obtain rfl : k = 5 := by omega
      clear hkl
      have hcl := Lib.hid (rclosed_calls (Sch.edges t) (.slice A3 5 c3) w3.heap.size w3 (Nat.le_refl _) (by simpa [Ints, Sch.length_edges] using hi3) (by rw [Sch.length_edges]; decide) (Sch.fits_edges HOK.out))
      go_wp2_with fail
      refine hcl.out.mono ?_
      rintro e w4 ⟨v4, rfl, hown4, hb4⟩
      clear hcl hi3
      have hr4 : Acts w4 w4.heap.size v (Sch.zacts t) := (Rd.below hr3 hb4).more hb4.size
      have hb' := hb.trans (hb4.mono hb.size)
      have hi4 := hown4.ints
      clear hr3 hb hb4 hown4
      obtain ⟨A4, c4, rfl⟩ := Rd.val hi4
      simp only [length_zs, Odr.length_closed, Sch.length_edges] at hi4 ⊢
      go_wp2_with fail
      go_loop [13, 14] (fun r i => ∃ (k : Nat) (b : Bool), k ≤ 5 ∧ i = nv k ∧ r = .bool b ∧ Hid (b = ringTo (Odr.closed (Sch.edges t)) k)) (fun _ i => 5 - (intOf i).toNat)
      case atStart => exact ⟨0, false, by omega, rfl, rfl, Lib.hid rfl⟩
      case round =>
        obtain ⟨k, b, hk, rfl, rfl, hrg⟩ := hrel
        by_cases hkl : k < 5
        · cases b with
          | true =>
            go_wp2_with fail
            go_round
            case rel => exact ⟨k + 1, true, by omega, by go_num, rfl, Lib.hid (by rw [ringTo, ← hrg.out]; rfl)⟩
            case measure => simp [intOf]; omega
          | false =>
            obtain ⟨b0, off, cap', he, _, hc⟩ := Ints.atN hi4 (k := k) (by rw [Odr.length_closed, Sch.length_edges]; exact hkl)
            rw [Odr.length_closed, Sch.length_edges] at he
            cases he
            have hx := (Odr.Fits.closed (Sch.fits_edges HOK.out)).getD k
            rw [Odr.length_closed, Sch.length_edges] at hx
            have hrn := Lib.hid (show ringTo (Odr.closed (Sch.edges t)) (k + 1) = ((Odr.closed (Sch.edges t)).getD k 0).testBit k by rw [ringTo, ← hrg.out]; rfl)
            generalize (Odr.closed (Sch.edges t)).getD k 0 = x at *
            have hx' : x < 4096 := by omega
            clear hx hi4 hr hr4
            go_wp2_with (go_at_call 12; refine (bit12 _ _ _ hx' (by omega)).mono ?_; rintro e w' ⟨rfl, rfl⟩)
            go_round
            case rel => exact ⟨k + 1, x.testBit k, by omega, by go_num, rfl, Lib.hid hrn.out.symm⟩
            case measure => simp [intOf]; omega
        · obtain rfl : k = 5 := by omega
          clear hkl hi4
          have hbis := Lib.hid (show b = !is by rw [hrg.out, HR.out, HIS.out])
          have hne : (is == b) = false := by rw [hbis.out]; cases is <;> rfl
          have hu4 : Ints w4 w4.heap.size u row := (Rd.below hu hb').more hb'.size
          have hcl := Lib.hid (ordered_calls t row v u w4 hr4 hlen HOK.out hu4)
          go_wp2_with fail
          refine hcl.out.mono ?_
          rintro e w5 ⟨v5, rfl, hown5, hb5⟩
          clear hcl
          have hr5 : Acts w5 w5.heap.size v (Sch.zacts t) := (Rd.below hr4 hb5).more hb5.size
          have hb'' := hb'.trans (hb5.mono hb'.size)
          clear hr4 hb' hb5 hu4 hr
          have hser := Lib.hid (fun res h => Sch.ordered_serial HOK.out (row := row) (res := res) h)
          generalize Sch.ordered t row = R at *
          obtain ⟨c, res⟩ := R
          simp only at hown5 ⊢
          by_cases hc0 : c = 0
          · subst hc0
            have hown := hown5 rfl
            obtain ⟨g1, g2, g3, g4⟩ := hser.out res rfl
            have G1 := Lib.hid g1
            have G2 := Lib.hid g2
            have G3 := Lib.hid g3
            have G4 := Lib.hid g4
            have hrl : res.length ≤ 24 := by omega
            clear hser hown5 g1 g2 g3 g4
            have hi5 := hown.ints
            obtain ⟨A5, c5, rfl⟩ := Rd.val hi5
            obtain ⟨A, cap, rfl⟩ := hval.out
            clear hval hown
            simp only [length_zs, Sch.length_zacts] at *
            simp only [ordVal, if_true]
            go_wp2_with fail
            go_loopw [17, 18] (fun o i wr => ∃ k : Nat, k ≤ res.length ∧ i = nv k ∧ OwnA wr w5.heap.size o (Sch.zacts ((res.map fun i => t.getD i Sch.d3).take k)) ∧ Below w5.heap.size w5 wr) (fun _ i _ => res.length - (intOf i).toNat)
            case atStart => exact ⟨0, Nat.zero_le _, rfl, OwnA.nil _ _, Below.refl _ _⟩
            case round =>
              obtain ⟨k, hk, rfl, hown, hb5⟩ := hrel
              have hbs := hb5.size
              obtain ⟨wo, rfl⟩ : ∃ wo : World, wo = wr := ⟨_, rfl⟩
              by_cases hkl : k < res.length
              · obtain ⟨b0, off, cap', he, _, hc⟩ := Ints.atN (Rd.below hi5 hb5) hkl
                cases he
                have hxm := G2.out (res.getD k 0) (by rw [List.getD_eq_getElem?_getD, List.getElem?_eq_getElem hkl]; exact List.getElem_mem hkl)
                have htk := Lib.hid (show (res.map fun i => t.getD i Sch.d3).take (k + 1) = (res.map fun i => t.getD i Sch.d3).take k ++ [t.getD (res.getD k 0) Sch.d3] by
                  rw [List.take_succ_eq_append_getElem (by simpa using hkl)]
                  congr 1
                  rw [List.getElem_map, List.getD_eq_getElem?_getD (l := res), List.getElem?_eq_getElem hkl]
                  rfl)
                generalize res.getD k 0 = x at *
                obtain ⟨b1, off1, cap1, he, _, _, hbb, d0, d1, d2⟩ := Acts.atN (Rd.below hr5 hb5) hxm
                cases he
                obtain ⟨ax, hax⟩ : ∃ a, a = t.getD x Sch.d3 := ⟨_, rfl⟩
                rw [← hax] at d0 d1 d2 htk
                clear hax
                obtain ⟨tx, ix, wx⟩ := ax
                simp only at d0 d1 d2
                have hge : decide (t.length ≤ x) = false := by simp; omega
                have hlen5 := length_zacts_take res t k
                clear hi5 hr5
                go_wp2_with (at_builtin; refine append_act rfl _ _ rfl w5.heap.size _ (Sch.zacts ((res.map fun i => t.getD i Sch.d3).take k)) rfl (OwnA.alloc hown _) wo.heap.size rfl (tx, ix, wx) (by simp) (by simp) (by simp) (by omega) (by simp; omega) ?_; intro g c' w6 hown6 hb6 hg6; clear hg6)
                go_roundw
                case rel => exact ⟨k + 1, by omega, by go_num, by rw [htk.out, Sch.zacts, List.map_append]; have e : (Sch.zacts (List.take k (res.map fun i => t.getD i Sch.d3))).length = k := (by rw [Sch.length_zacts, List.length_take, List.length_map]; omega); rw [e] at hown6; exact hown6, (hb5.alloc hbs _).trans hb6⟩
                case measure => simp [intOf]; omega
              · obtain rfl : k = res.length := by omega
                rw [List.take_of_length_le (by simp)] at hown
                have hser2 := Lib.hid (serial_ok (res.map fun i => t.getD i Sch.d3) _ wo hown.acts (by simpa using hrl) G3.out)
                have hlenu : (res.map fun i => t.getD i Sch.d3).length = t.length := by rw [List.length_map, G1.out]
                generalize (res.map fun i => t.getD i Sch.d3) = u' at *
                obtain ⟨Ao, co, rfl⟩ := Rd.val hown.acts
                simp only [Sch.length_zacts] at *
                have hbf := hb''.trans (hb5.mono hb''.size)
                have HLU := Lib.hid hlenu
                clear hown hkl hb'' hb5 hlenu
                go_wp2_with fail
                refine hser2.out.mono ?_
                rintro e w7 ⟨hb7, ⟨hn, -⟩ | ⟨out, v', hs, rfl, -⟩⟩
                · have := G4.out
                  rw [hn] at this
                  cases this
                · have hbg := hbf.trans (hb7.mono hbf.size)
                  have HS := Lib.hid hs
                  have heq : ((u'.length : Int) == (t.length : Int)) = true := by simp [HLU.out]
                  clear hser2 hs hbf hb7
                  go_wp2_with fail
                  go_ret
                  exact ⟨rfl, hbg⟩
          · have hov : ordVal v5 c = .tuple #[.slice none 0 0, .iface 58 (nv c)] := by simp [ordVal, hc0]
            rw [hov]
            clear hov hser hown5 hr5
            go_wp2_with fail
            go_ret
            exact ⟨rfl, hb''⟩

/-- the law at every input -/
theorem ring_calls (v u : Value) (recs : List (List Int)) (row : List Int) (w : World) (hr : Rd w w.heap.size 3 v recs.length (recs.flatMap fun r => r.map iv)) (hl : ∀ r ∈ recs, r.length = 3) (hu : Ints w w.heap.size u row) :
    Calls Try.prog 4 #[v, u] w fun e w' => e = .returned (.bool true) ∧ Below w.heap.size w w' := by
  obtain ⟨s, hs⟩ := acts_of_recs hr hl
  by_cases h : actsCode s = 0
  · obtain ⟨h1, h2⟩ := actsCode_zero h
    obtain ⟨t, rfl, ht⟩ := Sch.exists_zacts h2
    exact ring_ok t row v u w hs (by simpa using h1) ht hu
  · exact ring_err s v u w hs h

end Go.Proofs.Ytkindaadadggoaa
