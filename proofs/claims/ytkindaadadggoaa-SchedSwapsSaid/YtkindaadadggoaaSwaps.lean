/- The walk of the statement SchedSwaps: what does not clash may change places. Conditions: none but that the acts come in a slice that reads as a list. -/
import Derived.Test.YtkindaadadggoaaSerial
import Derived.Test.YtkindaadadggoaaActMem
namespace Go.Proofs.Ytkindaadadggoaa
open Go.RowKit

theorem swaps_err (s : List Act3) (v : Value) (i : Int) (w : World) (hr : Acts w w.heap.size v s) (hne : actsCode s ≠ 0) :
    Calls Try.prog 3 #[v, .int .i64 i] w fun e w' => e = .returned (.bool true) ∧ Below w.heap.size w w' := by
  go_enter Try.func3, Try.ntmps3
  go_wp2_with fail
  refine (schedFact_calls _).mono ?_
  rintro e w1 ⟨rfl, hb1⟩
  have h1 := Lib.hid (edges_err s v w1 ((Rd.below hr hb1).more hb1.size) hne)
  clear hne hr
  go_wp2_with fail
  refine h1.out.mono ?_
  rintro e w2 ⟨rfl, hb2⟩
  clear h1
  have hb := hb1.trans (hb2.mono hb1.size)
  clear hb1 hb2
  go_wp2_with fail
  go_ret
  exact ⟨rfl, hb⟩

set_option maxHeartbeats 2000000 in
theorem swaps_ok (t : List Sch.N3) (v : Value) (i : Int) (w : World) (hr : Acts w w.heap.size v (Sch.zacts t)) (hlen : t.length ≤ 24) (hok : ∀ a ∈ t, Sch.Ok3 a) :
    Calls Try.prog 3 #[v, .int .i64 i] w fun e w' => e = .returned (.bool true) ∧ Below w.heap.size w w' := by
  have hval := Lib.hid (Rd.val hr)
  have HOK := Lib.hid hok
  clear hok
  go_enter Try.func3, Try.ntmps3
  go_wp2_with fail
  refine (schedFact_calls _).mono ?_
  rintro e w1 ⟨rfl, hb1⟩
  have hr1 : Acts w1 w1.heap.size v (Sch.zacts t) := (Rd.below hr hb1).more hb1.size
  have h1 := Lib.hid (edges_ok t v w1 hr1 hlen HOK.out)
  go_wp2_with fail
  refine h1.out.mono ?_
  rintro e w2 ⟨v2, rfl, hown2, hb2⟩
  clear h1 hr1
  have hb := hb1.trans (hb2.mono hb1.size)
  have hr2 : Acts w2 w.heap.size v (Sch.zacts t) := Rd.below hr hb
  have hown2' := hown2.lower hb1.size
  clear hb1 hb2 hr hown2
  obtain ⟨A, cap, rfl⟩ := hval.out
  simp only [Sch.length_zacts] at *
  clear hval
  by_cases hi1 : i < 1
  · have hi1' : decide (i < 1) = true := by simp; omega
    clear hi1
    go_wp2_with fail
    go_quiet (fail)
    go_wp2_with fail
    go_ret
    exact ⟨rfl, drn hb _⟩
  · have hi1' : decide (i < 1) = false := by simp; omega
    by_cases hi2 : (t.length : Int) ≤ i
    · have hi2' : decide ((t.length : Int) ≤ i) = true := by simp; omega
      clear hi1 hi2
      go_wp2_with fail
      go_quiet (fail)
      go_wp2_with fail
      go_ret
      exact ⟨rfl, drn hb _⟩
    · obtain ⟨k, rfl⟩ : ∃ k : Nat, i = k := ⟨i.toNat, by omega⟩
      have hk1 : 1 ≤ k := by omega
      have hk : k < t.length := by omega
      have hi2' : decide (t.length ≤ k) = false := by simp; omega
      clear hi1 hi2
      obtain ⟨b, off, cap', he, hlc, hcm, hbB, d0, d1, d2⟩ := Acts.atN hr2 hk
      cases he
      obtain ⟨b', off', cap', he, _, _, _, f0, f1, f2⟩ := Acts.atN hr2 (show k - 1 < t.length by omega)
      cases he
      have hak := Sch.getD_ok HOK.out k
      have hap := Sch.getD_ok HOK.out (k - 1)
      have hclash := Lib.hid (fun (h : Sch.clash (t.getD (k - 1) Sch.d3) (t.getD k Sch.d3) = false) => Sch.edges_swapped HOK.out hk1 hk h)
      obtain ⟨ak, eak⟩ : ∃ a, a = t.getD k Sch.d3 := ⟨_, rfl⟩
      obtain ⟨ap, eap⟩ : ∃ a, a = t.getD (k - 1) Sch.d3 := ⟨_, rfl⟩
      have HSW := Lib.hid (show Sch.swap t k = (t.set k ap).set (k - 1) ak by rw [eak, eap]; rfl)
      rw [← eak] at d0 d1 d2 hak
      rw [← eap] at f0 f1 f2 hap
      rw [← eak, ← eap] at hclash
      clear eak eap
      obtain ⟨tk, ik, wk⟩ := ak
      obtain ⟨tp, ip, wp⟩ := ap
      obtain ⟨k1, k2, k3⟩ := hak
      obtain ⟨p1, p2, p3⟩ := hap
      simp only at *
      have q1 : IntKind.i64.wrap ((k : Int) - 1) = (k : Int) - 1 := by exact IntWalk.i64_in _ (by constructor <;> omega)
      have q2 : (0 : Int) ≤ (k : Int) - 1 := by omega
      have q3 : ((k : Int) - 1).toNat = k - 1 := by omega
      have q4 : IntKind.i64.wrap ((wk : Int) + (wp : Int)) = (wk : Int) + (wp : Int) := by exact IntWalk.i64_in _ (by constructor <;> omega)
      by_cases htt : tk = tp
      · have htt' : ((tk : Int) == (tp : Int)) = true := by simp [htt]
        clear htt hclash
        go_wp2_with fail
        go_quiet (fail)
        go_wp2_with fail
        go_ret
        exact ⟨rfl, drn hb _⟩
      · have htt' : ((tk : Int) == (tp : Int)) = false := by simp; omega
        have HTT := Lib.hid htt
        clear htt
        by_cases hcl : ik = ip ∧ 0 < wk + wp
        · have hii' : ((ik : Int) == (ip : Int)) = true := by simp [hcl.1]
          have hww' : decide ((0 : Int) < (wk : Int) + (wp : Int)) = true := by simp; omega
          clear hcl hclash
          go_wp2_with fail
          go_quiet (fail)
          go_wp2_with fail
          go_ret
          exact ⟨rfl, drn hb _⟩
        · have HC := Lib.hid (hclash.out (by simp [Sch.clash]; omega))
          clear hclash
          have hcases : (((ik : Int) == (ip : Int)) = true ∧ decide ((0 : Int) < (wk : Int) + (wp : Int)) = false) ∨ ((ik : Int) == (ip : Int)) = false := by
            by_cases hii : ik = ip
            · exact .inl ⟨by simp [hii], by simp; omega⟩
            · exact .inr (by simp; omega)
          clear hcl
          rcases hcases with ⟨hii', hww'⟩ | hii'
          all_goals
            go_wp2_with fail
            go_quiet (fail)
            have hbs := hb.size
            go_wp2_with (at_builtin; refine append_acts rfl _ _ rfl w2.heap.size _ [] (Sch.zacts t) rfl (OwnA.nil _ _) w.heap.size b off cap (by rw [Sch.length_zacts]; rfl) (by rw [Sch.length_zacts]; exact Rd.below hr2 (drn (Below.refl _ _) _)) (by rw [Sch.length_zacts]; omega) (by rw [Sch.length_zacts]; simp; omega) (Nat.le_refl _) ?_; intro g c w3 hown3 hb3 hgb; clear hgb; simp only [List.length_nil, Nat.zero_add, List.nil_append, Sch.length_zacts] at hown3 ⊢; obtain ⟨lg, lg', -, lc, lf, lst⟩ := OwnA.lit hown3; have lck := lc k (by simpa using hk); have lcp := lc (k - 1) (by simp; omega); have lf0 := lf (k * 3); have lf1 := lf (k * 3 + 1); have lf2 := lf (k * 3 + 2); have lf3 := lf ((k - 1) * 3); have lf4 := lf ((k - 1) * 3 + 1); have lf5 := lf ((k - 1) * 3 + 2); have LST := Lib.hid lst; have HOWN3 := Lib.hid hown3; clear lc lf lst hown3; obtain ⟨lk0, lk1, lk2⟩ := lck; obtain ⟨lp0, lp1, lp2⟩ := lcp; have e0 := (hb3.cell (p := ⟨b, off + k * 3, none⟩) (by simp; omega)).trans d0; have e1 := (hb3.cell (p := ⟨b, off + k * 3 + 1, none⟩) (by simp; omega)).trans d1; have e2 := (hb3.cell (p := ⟨b, off + k * 3 + 2, none⟩) (by simp; omega)).trans d2; have e3 := (hb3.cell (p := ⟨b, off + (k - 1) * 3, none⟩) (by simp; omega)).trans f0; have e4 := (hb3.cell (p := ⟨b, off + (k - 1) * 3 + 1, none⟩) (by simp; omega)).trans f1; have e5 := (hb3.cell (p := ⟨b, off + (k - 1) * 3 + 2, none⟩) (by simp; omega)).trans f2; have hbg : b < g := by omega)
            have hO : OwnA ((((((w3.setCell ⟨g, k * 3, none⟩ (.int .i64 tp)).setCell ⟨g, k * 3 + 1, none⟩ (.int .i64 ip)).setCell ⟨g, k * 3 + 2, none⟩ (.int .i64 wp)).setCell ⟨g, (k - 1) * 3, none⟩ (.int .i64 tk)).setCell ⟨g, (k - 1) * 3 + 1, none⟩ (.int .i64 ik)).setCell ⟨g, (k - 1) * 3 + 2, none⟩ (.int .i64 wk)) w2.heap.size (.slice (some ⟨g, 0, none⟩) t.length c) (Sch.zacts (Sch.swap t k)) := by
              have h1 := LST.out k (tp, ip, wp) (by simpa using hk)
              have h2 := (OwnA.lit h1).2.2.2.2.2 (k - 1) (tk, ik, wk) (by simp; omega)
              have e : Sch.zacts (Sch.swap t k) = ((Sch.zacts t).set k ((tp : Int), (ip : Int), (wp : Int))).set (k - 1) ((tk : Int), (ik : Int), (wk : Int)) := by
                rw [HSW.out]
                simp [Sch.zacts, List.map_set, Sch.z3]
              rw [e]
              exact h2
            have hW := ((((((((drn (Below.refl w2.heap.size w2) nq).trans hb3).setCell (p := ⟨g, k * 3, none⟩) lg (.int .i64 tp)).setCell (p := ⟨g, k * 3 + 1, none⟩) lg (.int .i64 ip)).setCell (p := ⟨g, k * 3 + 2, none⟩) lg (.int .i64 wp)).setCell (p := ⟨g, (k - 1) * 3, none⟩) lg (.int .i64 tk)).setCell (p := ⟨g, (k - 1) * 3 + 1, none⟩) lg (.int .i64 ik)).setCell (p := ⟨g, (k - 1) * 3 + 2, none⟩) lg (.int .i64 wk))
            have hcall := Lib.hid (edges_ok (Sch.swap t k) _ _ hO.acts (by simp [Sch.swap]; omega) HC.out.2)
            refine hcall.out.mono ?_
            rintro e w4 ⟨v4, rfl, hown4, hb4⟩
            rw [HC.out.1] at hown4
            have hI2 := (hown2'.ints.below hW).below (hb4.mono hW.size)
            have hI4 := hown4.ints
            have hb4' := hb.trans ((hW.trans (hb4.mono hW.size)).mono hbs)
            have hle := hW.size
            have hle4 := hb4.size
            have HI := Lib.hid (ints_calls v2 v4 _ _ w4.heap.size w4 (Nat.le_refl _) (Rd.more hI2 (by omega)) hI4)
            clear hcall hO hW LST HOWN3 hI2 hI4 hown4 hown2' hb4 hb3 hle
            go_wp2_with fail
            refine HI.out.mono ?_
            rintro e w5 ⟨rfl, hb5⟩
            have hb5' := hb4'.trans (hb5.mono hb4'.size)
            clear HI hb5 hb4'
            go_wp2_with fail
            go_ret
            exact ⟨by simp, hb5'⟩

/-- the law at every input -/
theorem swaps_calls (v : Value) (recs : List (List Int)) (i : Int) (w : World) (hr : Rd w w.heap.size 3 v recs.length (recs.flatMap fun r => r.map iv)) (hl : ∀ r ∈ recs, r.length = 3) :
    Calls Try.prog 3 #[v, .int .i64 i] w fun e w' => e = .returned (.bool true) ∧ Below w.heap.size w w' := by
  obtain ⟨s, hs⟩ := acts_of_recs hr hl
  by_cases h : actsCode s = 0
  · obtain ⟨h1, h2⟩ := actsCode_zero h
    obtain ⟨t, rfl, ht⟩ := Sch.exists_zacts h2
    exact swaps_ok t v i w hs (by simpa using h1) ht
  · exact swaps_err s v i w hs h

end Go.Proofs.Ytkindaadadggoaa
