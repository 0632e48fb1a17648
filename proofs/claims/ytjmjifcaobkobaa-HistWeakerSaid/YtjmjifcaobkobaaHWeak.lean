/- The walk of the statement HistWeaker: at every input it returns true. Conditions: none. -/
import Derived.Test.YtjmjifcaobkobaaHFact
namespace Go.Proofs.Ytjmjifcaobkobaa
open Go.RowKit His

theorem zops_eq {h' : List Z6} (h0 : histCode h' = 0) : ∃ h : List N6, h' = zops h ∧ Hok h := ops_ok h0

set_option maxRecDepth 20000 in
set_option maxHeartbeats 2000000 in
theorem hweak_bad (h' : List Z6) (v : Value) (w : World) (hr : Ops w w.heap.size v h') (hc : histCode h' ≠ 0) :
    Calls Try.prog 5 #[v] w fun e w' => e = .returned (.bool true) ∧ Below w.heap.size w w' := by
  have hf := Lib.hid (histFact_calls w)
  have ha := Lib.hid fun (w1 : World) (hb : Below w.heap.size w w1) => atomic_bad h' v w1 ((Rd.below hr hb).more hb.size) hc
  have hw := Lib.hid fun (w1 : World) (hb : Below w.heap.size w w1) => weak_bad h' v w1 ((Rd.below hr hb).more hb.size) hc
  have HE : errv (histCode h') = .iface 57 (nv (histCode h')) := by unfold errv; rw [if_neg hc]
  rw [HE] at ha hw
  obtain ⟨A, cap, rfl⟩ := Rd.val hr
  generalize histCode h' = c at *
  clear hr HE hc
  go_enter Try.func5, Try.ntmps5
  go_wp2_with fail
  (with_reducible refine hf.out.mono ?_)
  rintro e w1 ⟨rfl, hb1⟩
  clear hf
  go_wp2_with fail
  (with_reducible refine (ha.out _ hb1).mono ?_)
  rintro e w2 ⟨rfl, hb2⟩
  have hb12 := hb1.trans (hb2.mono hb1.size)
  clear ha
  go_wp2_with fail
  (with_reducible refine (hw.out _ hb12).mono ?_)
  rintro e w3 ⟨rfl, hb3⟩
  have hb13 := hb12.trans (hb3.mono hb12.size)
  clear hw
  go_wp2_with fail
  go_ret
  exact ⟨rfl, hb13⟩

def wrs (h : List N6) : List N6 := h.filter fun a => decide (wr a = 1)
theorem wrs_next {h : List N6} {k : Nat} (hk : k < h.length) : wrs (h.take (k + 1)) = if wr (opAt h k) = 1 then wrs (h.take k) ++ [opAt h k] else wrs (h.take k) := by
  unfold wrs
  rw [List.take_succ_eq_append_getElem hk, List.filter_append, opAt_eq hk]
  by_cases e : wr h[k] = 1
  · rw [if_pos e]; simp [e]
  · rw [if_neg e]; simp [e]
theorem length_wrs (h : List N6) : (wrs h).length ≤ h.length := List.length_filter_le _ _

set_option maxRecDepth 20000 in
set_option maxHeartbeats 4000000 in
theorem hweak_ok (h : List N6) (hh : Hok h) (v : Value) (w : World) (hr : Ops w w.heap.size v (zops h)) :
    Calls Try.prog 5 #[v] w fun e w' => e = .returned (.bool true) ∧ Below w.heap.size w w' := by
  have hf := Lib.hid (histFact_calls w)
  have ha := Lib.hid fun (w1 : World) (hb : Below w.heap.size w w1) => atomic_ok h hh v w1 ((Rd.below hr hb).more hb.size) (code_ok hh)
  have hw := Lib.hid fun (w1 : World) (hb : Below w.heap.size w w1) => weak_ok h hh v w1 ((Rd.below hr hb).more hb.size) (code_ok hh)
  have HWK := Lib.hid (show (rowOf true h).isSome = true → (rowOf false h).isSome = true from fun hx => by
    obtain ⟨L, hL⟩ := (rowOf_isSome hh).1 hx
    exact (rowOf_isSome hh).2 ⟨L, lin_weaker hL⟩)
  have hsub : Hok (wrs h) := hh.sub List.filter_sublist
  have HWR := Lib.hid (show (rowOf true (wrs h)).isSome = true from (rowOf_isSome hsub).2 (lin_writes hsub (fun a ha => by simpa [wrs] using (List.mem_filter.1 ha).2)))
  have he := Lib.hid fun (v1 : Value) (w1 : World) (ho : Ops w1 w1.heap.size v1 (zops (wrs h))) => atomic_ok (wrs h) hsub v1 w1 ho (code_ok hsub)
  rw [Option.isSome_iff_exists] at HWR
  obtain ⟨A, cap, rfl⟩ := Rd.val hr
  have HR := Lib.hid hr
  have HL := Lib.hid hh.len
  have HH := Lib.hid hh
  rw [length_zops] at *
  clear hr hh hsub
  go_enter Try.func5, Try.ntmps5
  go_wp2_with fail
  (with_reducible refine hf.out.mono ?_)
  rintro e w1 ⟨rfl, hb1⟩
  clear hf
  go_wp2_with fail
  (with_reducible refine (ha.out _ hb1).mono ?_)
  rintro e w2 ⟨v2, rfl, -, hb2⟩
  have hb12 := hb1.trans (hb2.mono hb1.size)
  clear ha hb1 hb2
  go_wp2_with fail
  (with_reducible refine (hw.out _ hb12).mono ?_)
  rintro e w3 ⟨v3, rfl, -, hb3⟩
  have hb13 := hb12.trans (hb3.mono hb12.size)
  clear hw hb12 hb3
  have HB3 := Lib.hid hb13
  clear hb13
  generalize (rowOf true h).isSome = b1 at *
  generalize (rowOf false h).isSome = b2 at *
  cases b1 with
  | false =>
    clear HWK
    go_wp2_with fail
    go_loopw [10, 11] (fun ev i wr => ∃ (k : Nat) (vv : Value), k ≤ h.length ∧ i = nv k ∧ ev = vv ∧ OwnO wr w3.heap.size vv (zops (wrs (h.take k))) ∧ Below w3.heap.size w3 wr) (fun _ i _ => h.length - (intOf i).toNat)
    case atStart => exact ⟨0, _, Nat.zero_le _, rfl, rfl, OwnO.nil _ _, Below.refl _ _⟩
    case round =>
      obtain ⟨k, vv, hk, rfl, rfl, hown, hb⟩ := hrel
      have hl10 := HL.out
      have hsz := hb.size
      have hwr := HB3.out.trans (hb.mono HB3.out.size)
      by_cases hkl : k < h.length
      · obtain ⟨b, off, cap2, he', hbb, d0, d1, d2, d3, d4, d5⟩ := Ops.atN (Rd.below HR.out hwr) hkl
        cases he'
        have HN := Lib.hid (wrs_next hkl)
        have HLE := Lib.hid (length_wrs (h.take k))
        have HR2 := Lib.hid (HH.out.rng _ (opAt_mem hkl)).2.2.1
        generalize opAt h k = o at *
        obtain ⟨o0, o1, o2, o3, o4, o5⟩ := o
        simp only [pr, ob, His.wr, vl, fr, tt] at d0 d1 d2 d3 d4 d5 HN HR2
        generalize wrs (h.take k) = ws at *
        by_cases h1 : o2 = 1
        · subst h1
          have HN := Lib.hid (show wrs (h.take (k + 1)) = ws ++ [(o0, o1, 1, o3, o4, o5)] from HN.out)
          have hlen : ws.length ≤ 10 := by have h1 := HLE.out; rw [List.length_take] at h1; omega
          go_wp2_with (at_builtin; refine append_op rfl _ _ rfl w3.heap.size _ (zops ws) rfl (OwnO.alloc hown _) wr.heap.size rfl (zop (o0, o1, 1, o3, o4, o5)) (new_op _ _ _) (by rw [length_zops]; omega) (by simp; omega) ?_; intro v' w6 hown6 hb6)
          have hbF := (hb.alloc hsz (.cells #[nv o0, nv o1, nv 1, nv o3, nv o4, nv o5] 32)).trans hb6
          have hown7 : OwnO w6 w3.heap.size v' (zops (wrs (h.take (k + 1)))) := by rw [HN.out, zops_append]; exact hown6
          go_wp2_with fail
          go_roundw
          case rel => exact ⟨k + 1, _, by omega, by go_num, rfl, hown7, hbF⟩
          case measure => simp [intOf]; omega
        · have h0 : o2 = 0 := by have := HR2.out; omega
          subst h0
          have HN := Lib.hid (show wrs (h.take (k + 1)) = ws from HN.out)
          go_wp2_with fail
          go_roundw
          case rel => exact ⟨k + 1, _, by omega, by go_num, rfl, by rw [HN.out]; exact hown, hb⟩
          case measure => simp [intOf]; omega
      · obtain rfl : k = h.length := by omega
        rw [List.take_length] at hown
        have hat := Lib.hid (he.out _ wr hown.ops)
        obtain ⟨r, hr⟩ := HWR.out
        rw [hr] at hat
        clear he hr hown hkl hb
        go_wp2_with fail
        (with_reducible refine hat.out.mono ?_)
        rintro e w8 ⟨v8, rfl, -, hb8⟩
        have hbF := hwr.trans (hb8.mono hwr.size)
        go_wp2_with fail
        go_ret
        exact ⟨rfl, hbF⟩
  | true =>
    obtain rfl : b2 = true := HWK.out rfl
    clear HWK
    go_wp2_with fail
    go_loopw [10, 11] (fun ev i wr => ∃ (k : Nat) (vv : Value), k ≤ h.length ∧ i = nv k ∧ ev = vv ∧ OwnO wr w3.heap.size vv (zops (wrs (h.take k))) ∧ Below w3.heap.size w3 wr) (fun _ i _ => h.length - (intOf i).toNat)
    case atStart => exact ⟨0, _, Nat.zero_le _, rfl, rfl, OwnO.nil _ _, Below.refl _ _⟩
    case round =>
      obtain ⟨k, vv, hk, rfl, rfl, hown, hb⟩ := hrel
      have hl10 := HL.out
      have hsz := hb.size
      have hwr := HB3.out.trans (hb.mono HB3.out.size)
      by_cases hkl : k < h.length
      · obtain ⟨b, off, cap2, he', hbb, d0, d1, d2, d3, d4, d5⟩ := Ops.atN (Rd.below HR.out hwr) hkl
        cases he'
        have HN := Lib.hid (wrs_next hkl)
        have HLE := Lib.hid (length_wrs (h.take k))
        have HR2 := Lib.hid (HH.out.rng _ (opAt_mem hkl)).2.2.1
        generalize opAt h k = o at *
        obtain ⟨o0, o1, o2, o3, o4, o5⟩ := o
        simp only [pr, ob, His.wr, vl, fr, tt] at d0 d1 d2 d3 d4 d5 HN HR2
        generalize wrs (h.take k) = ws at *
        by_cases h1 : o2 = 1
        · subst h1
          have HN := Lib.hid (show wrs (h.take (k + 1)) = ws ++ [(o0, o1, 1, o3, o4, o5)] from HN.out)
          have hlen : ws.length ≤ 10 := by have h1 := HLE.out; rw [List.length_take] at h1; omega
          go_wp2_with (at_builtin; refine append_op rfl _ _ rfl w3.heap.size _ (zops ws) rfl (OwnO.alloc hown _) wr.heap.size rfl (zop (o0, o1, 1, o3, o4, o5)) (new_op _ _ _) (by rw [length_zops]; omega) (by simp; omega) ?_; intro v' w6 hown6 hb6)
          have hbF := (hb.alloc hsz (.cells #[nv o0, nv o1, nv 1, nv o3, nv o4, nv o5] 32)).trans hb6
          have hown7 : OwnO w6 w3.heap.size v' (zops (wrs (h.take (k + 1)))) := by rw [HN.out, zops_append]; exact hown6
          go_wp2_with fail
          go_roundw
          case rel => exact ⟨k + 1, _, by omega, by go_num, rfl, hown7, hbF⟩
          case measure => simp [intOf]; omega
        · have h0 : o2 = 0 := by have := HR2.out; omega
          subst h0
          have HN := Lib.hid (show wrs (h.take (k + 1)) = ws from HN.out)
          go_wp2_with fail
          go_roundw
          case rel => exact ⟨k + 1, _, by omega, by go_num, rfl, by rw [HN.out]; exact hown, hb⟩
          case measure => simp [intOf]; omega
      · obtain rfl : k = h.length := by omega
        rw [List.take_length] at hown
        have hat := Lib.hid (he.out _ wr hown.ops)
        obtain ⟨r, hr⟩ := HWR.out
        rw [hr] at hat
        clear he hr hown hkl hb
        go_wp2_with fail
        (with_reducible refine hat.out.mono ?_)
        rintro e w8 ⟨v8, rfl, -, hb8⟩
        have hbF := hwr.trans (hb8.mono hwr.size)
        go_wp2_with fail
        go_ret
        exact ⟨rfl, hbF⟩
/-- the law at every input -/
theorem hweak_calls (v : Value) (recs : List (List Int)) (w : World) (hr : Rd w w.heap.size 6 v recs.length (recs.flatMap fun r => r.map iv)) (hl : ∀ r ∈ recs, r.length = 6) :
    Calls Try.prog 5 #[v] w fun e w' => e = .returned (.bool true) ∧ Below w.heap.size w w' := by
  obtain ⟨s, hs⟩ := ops_of_recs hr hl
  by_cases hc : histCode s = 0
  · obtain ⟨h, rfl, hh⟩ := ops_ok hc
    exact hweak_ok h hh v w hs
  · exact hweak_bad s v w hs hc
end Go.Proofs.Ytjmjifcaobkobaa
