/- The walk of the statement HistLocal: at every input it returns true. Conditions: none. -/
import Derived.Test.YtjmjifcaobkobaaHFact
namespace Go.Proofs.Ytjmjifcaobkobaa
open Go.RowKit His

theorem onObj_next {h : List N6} {k : Nat} (o : Nat) (hk : k < h.length) : onObj o (h.take (k + 1)) = if ob (opAt h k) = o then onObj o (h.take k) ++ [opAt h k] else onObj o (h.take k) := by
  unfold onObj
  rw [List.take_succ_eq_append_getElem hk, List.filter_append, opAt_eq hk]
  by_cases e : ob h[k] = o
  · rw [if_pos e]; simp [e]
  · rw [if_neg e]; simp [e]
theorem length_onObj (o : Nat) (h : List N6) : (onObj o h).length ≤ h.length := List.length_filter_le _ _
/-- are the first o objects well? -/
def allB (h : List N6) : Nat → Bool
  | 0 => true
  | o + 1 => allB h o && (rowOf true (onObj o h)).isSome
theorem allB_iff {h : List N6} (n : Nat) : allB h n = true ↔ ∀ o, o < n → (rowOf true (onObj o h)).isSome = true := by
  induction n with
  | zero => exact ⟨fun _ o ho => by omega, fun _ => rfl⟩
  | succ n ih =>
    rw [allB, Bool.and_eq_true, ih]
    constructor
    · rintro ⟨h1, h2⟩ o ho
      by_cases e : o = n
      · subst e; exact h2
      · exact h1 o (by omega)
    · intro h1
      exact ⟨fun o ho => h1 o (by omega), h1 n (by omega)⟩
theorem local_eq {h : List N6} (hh : Hok h) : (rowOf true h).isSome = allB h 3 := by
  rw [Bool.eq_iff_iff, rowOf_isSome hh, lin_local hh, allB_iff]
  constructor
  · intro g o ho; exact (rowOf_isSome (hh.sub List.filter_sublist)).2 (g o ho)
  · intro g o ho; exact (rowOf_isSome (hh.sub List.filter_sublist)).1 (g o ho)

set_option maxRecDepth 20000 in
set_option maxHeartbeats 2000000 in
theorem hlocal_bad (h' : List Z6) (v : Value) (w : World) (hr : Ops w w.heap.size v h') (hc : histCode h' ≠ 0) :
    Calls Try.prog 4 #[v] w fun e w' => e = .returned (.bool true) ∧ Below w.heap.size w w' := by
  have hf := Lib.hid (histFact_calls w)
  have ha := Lib.hid fun (w1 : World) (hb : Below w.heap.size w w1) => atomic_bad h' v w1 ((Rd.below hr hb).more hb.size) hc
  have HE : errv (histCode h') = .iface 57 (nv (histCode h')) := by unfold errv; rw [if_neg hc]
  rw [HE] at ha
  obtain ⟨A, cap, rfl⟩ := Rd.val hr
  generalize histCode h' = c at *
  clear hr HE hc
  go_enter Try.func4, Try.ntmps4
  go_wp2_with fail
  (with_reducible refine hf.out.mono ?_)
  rintro e w1 ⟨rfl, hb1⟩
  clear hf
  go_wp2_with fail
  (with_reducible refine (ha.out _ hb1).mono ?_)
  rintro e w2 ⟨rfl, hb2⟩
  have hb12 := hb1.trans (hb2.mono hb1.size)
  clear ha
  go_wp2_with fail
  go_ret
  exact ⟨rfl, hb12⟩

set_option maxRecDepth 20000 in
set_option maxHeartbeats 4000000 in
theorem hlocal_ok (h : List N6) (hh : Hok h) (v : Value) (w : World) (hr : Ops w w.heap.size v (zops h)) :
    Calls Try.prog 4 #[v] w fun e w' => e = .returned (.bool true) ∧ Below w.heap.size w w' := by
  have hf := Lib.hid (histFact_calls w)
  have ha := Lib.hid fun (w1 : World) (hb : Below w.heap.size w w1) => atomic_ok h hh v w1 ((Rd.below hr hb).more hb.size) (code_ok hh)
  have he := Lib.hid fun (o : Nat) (v1 : Value) (w1 : World) (ho : Ops w1 w1.heap.size v1 (zops (onObj o h))) => atomic_ok (onObj o h) (hh.sub List.filter_sublist) v1 w1 ho (code_ok (hh.sub List.filter_sublist))
  have HEQ := Lib.hid (local_eq hh)
  obtain ⟨A, cap, rfl⟩ := Rd.val hr
  have HR := Lib.hid hr
  have HL := Lib.hid hh.len
  have HH := Lib.hid hh
  have hl10 := hh.len
  rw [length_zops] at *
  clear hr hh
  go_enter Try.func4, Try.ntmps4
  go_wp2_with fail
  (with_reducible refine hf.out.mono ?_)
  rintro e w1 ⟨rfl, hb1⟩
  clear hf
  go_wp2_with fail
  (with_reducible refine (ha.out _ hb1).mono ?_)
  rintro e w2 ⟨v2, rfl, -, hb2⟩
  have hb12 := hb1.trans (hb2.mono hb1.size)
  clear ha hb1 hb2
  generalize (rowOf true h).isSome = is at *
  go_wp2_with fail
  go_loopw [7, 8] (fun al i wr => ∃ (o : Nat) (ab : Bool), o ≤ 3 ∧ i = nv o ∧ al = .bool ab ∧ Hid (ab = allB h o) ∧ Below w.heap.size w wr) (fun _ i _ => 3 - (intOf i).toNat)
  case atStart => exact ⟨0, true, by omega, rfl, rfl, Lib.hid rfl, hb12⟩
  case round =>
    clear hb12
    obtain ⟨o, ab, ho, rfl, rfl, hab, hbo⟩ := hrel
    by_cases ho3 : o < 3
    · have HNX := Lib.hid (show allB h (o + 1) = (allB h o && (rowOf true (onObj o h)).isSome) from rfl)
      have heo := Lib.hid (he.out o)
      have t3 : decide ((o : Int) < 3) = true := by simp; omega
      obtain ⟨wo, rfl⟩ : ∃ wo : World, wo = wr := ⟨_, rfl⟩
      go_wp2_with fail
      clear t3
      go_loopw [9, 10] (fun ev i wr => ∃ (k : Nat) (vv : Value), k ≤ h.length ∧ i = nv k ∧ ev = vv ∧ OwnO wr wo.heap.size vv (zops (onObj o (h.take k))) ∧ Below wo.heap.size wo wr) (fun _ i _ => h.length - (intOf i).toNat)
      case atStart => exact ⟨0, _, Nat.zero_le _, rfl, rfl, OwnO.nil _ _, Below.refl _ _⟩
      case round =>
        obtain ⟨k, vv, hk, rfl, rfl, hown, hb⟩ := hrel
        have hsz := hb.size
        have hwr := hbo.trans (hb.mono hbo.size)
        by_cases hkl : k < h.length
        · obtain ⟨b, off, cap2, he', hbb, d0, d1, d2, d3, d4, d5⟩ := Ops.atN (Rd.below HR.out hwr) hkl
          cases he'
          have HN := Lib.hid (onObj_next o hkl)
          have HLE := Lib.hid (length_onObj o (h.take k))
          generalize opAt h k = op at *
          obtain ⟨o0, o1, o2, o3, o4, o5⟩ := op
          simp only [pr, ob, His.wr, vl, fr, tt] at d0 d1 d2 d3 d4 d5 HN
          generalize onObj o (h.take k) = ws at *
          by_cases h1 : o1 = o
          · subst h1
            have HN := Lib.hid (show onObj o1 (h.take (k + 1)) = ws ++ [(o0, o1, o2, o3, o4, o5)] by rw [HN.out, if_pos rfl])
            have hlen : ws.length ≤ 10 := by have h1 := HLE.out; rw [List.length_take] at h1; omega
            go_wp2_with (at_builtin; refine append_op rfl _ _ rfl wo.heap.size _ (zops ws) rfl (OwnO.alloc hown _) wr.heap.size rfl (zop (o0, o1, o2, o3, o4, o5)) (new_op _ _ _) (by rw [length_zops]; omega) (by simp; omega) ?_; intro v' w6 hown6 hb6)
            have hbF := (hb.alloc hsz (.cells #[nv o0, nv o1, nv o2, nv o3, nv o4, nv o5] 32)).trans hb6
            have hown7 : OwnO w6 wo.heap.size v' (zops (onObj o1 (h.take (k + 1)))) := by rw [HN.out, zops_append]; exact hown6
            go_wp2_with fail
            go_roundw
            case rel => exact ⟨k + 1, _, by omega, by go_num, rfl, hown7, hbF⟩
            case measure => simp [intOf]; omega
          · have HN := Lib.hid (show onObj o (h.take (k + 1)) = ws by rw [HN.out, if_neg h1])
            have t3 : ((o1 : Int) == (o : Int)) = false := by simp; omega
            clear h1
            go_wp2_with fail
            go_roundw
            case rel => exact ⟨k + 1, _, by omega, by go_num, rfl, by rw [HN.out]; exact hown, hb⟩
            case measure => simp [intOf]; omega
        · obtain rfl : k = h.length := by omega
          rw [List.take_length] at hown
          have hat := Lib.hid (heo.out _ wr hown.ops)
          generalize (rowOf true (onObj o h)).isSome = one at *
          clear heo hown hkl hb
          go_wp2_with fail
          (with_reducible refine hat.out.mono ?_)
          rintro e w8 ⟨v8, rfl, -, hb8⟩
          have hbF := hwr.trans (hb8.mono hwr.size)
          clear hat hb8
          cases ab with
          | false =>
            have HNX := Lib.hid (show false = allB h (o + 1) by rw [HNX.out, ← hab.out]; rfl)
            go_wp2_with fail
            go_roundw
            case rel => exact ⟨o + 1, _, by omega, by go_num, rfl, HNX, hbF⟩
            case measure => simp [intOf]; omega
          | true =>
            have HNX := Lib.hid (show one = allB h (o + 1) by rw [HNX.out, ← hab.out]; rfl)
            go_wp2_with fail
            go_roundw
            case rel => exact ⟨o + 1, _, by omega, by go_num, rfl, HNX, hbF⟩
            case measure => simp [intOf]; omega
    · obtain rfl : o = 3 := by omega
      have hab2 : is = ab := by rw [HEQ.out, hab.out]
      subst hab2
      clear HEQ hab he ho3
      cases is with
      | false =>
        go_wp2_with fail
        go_ret
        exact ⟨rfl, hbo⟩
      | true =>
        go_wp2_with fail
        go_ret
        exact ⟨rfl, hbo⟩
/-- the law at every input -/
theorem hlocal_calls (v : Value) (recs : List (List Int)) (w : World) (hr : Rd w w.heap.size 6 v recs.length (recs.flatMap fun r => r.map iv)) (hl : ∀ r ∈ recs, r.length = 6) :
    Calls Try.prog 4 #[v] w fun e w' => e = .returned (.bool true) ∧ Below w.heap.size w w' := by
  obtain ⟨s, hs⟩ := ops_of_recs hr hl
  by_cases hc : histCode s = 0
  · obtain ⟨h, rfl, hh⟩ := ops_ok hc
    exact hlocal_ok h hh v w hs
  · exact hlocal_bad s v w hs hc
end Go.Proofs.Ytjmjifcaobkobaa
