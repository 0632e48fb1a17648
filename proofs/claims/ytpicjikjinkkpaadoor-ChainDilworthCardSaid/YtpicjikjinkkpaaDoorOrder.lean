/- Contracts of package order: the closed relation, Check, Behind, Less, With. Conditions: each contract's own premises. -/
import Derived.Test.YtpicjikjinkkpaaDoorRow12
namespace Go.Proofs.YtpicjikjinkkpaaDoor
open Go.RowKit

namespace Odr
/-- the inner loop of the closing, after i rows -/
def wpart (c : List Nat) (k i : Nat) : List Nat := (c.take i).map (wrow (c.getD k 0) k) ++ c.drop i
theorem length_wpart (c : List Nat) (k i : Nat) : (wpart c k i).length = c.length := by
  unfold wpart
  rw [List.length_append, List.length_map, List.length_take, List.length_drop]; omega
theorem wpart_zero (c : List Nat) (k : Nat) : wpart c k 0 = c := by simp [wpart]
theorem wpart_all (c : List Nat) (k : Nat) : wpart c k c.length = wstep k c := by simp [wpart, wstep]
theorem getD_wpart (c : List Nat) (k i j : Nat) : (wpart c k i).getD j 0 = if j < i ∧ j < c.length then wrow (c.getD k 0) k (c.getD j 0) else c.getD j 0 := by
  unfold wpart
  rw [List.getD_eq_getElem?_getD, List.getD_eq_getElem?_getD (l := c) (i := j), List.getElem?_append]
  rw [List.length_map, List.length_take]
  by_cases h : j < i ∧ j < c.length
  · rw [if_pos (by omega), if_pos h, List.getElem?_map, List.getElem?_take, if_pos h.1, List.getElem?_eq_getElem h.2]
    rfl
  · rw [if_neg h]
    by_cases hj : j < c.length
    · rw [if_neg (by omega), List.getElem?_drop]
      congr 2
      omega
    · rw [if_neg (by omega), List.getElem?_drop, List.getElem?_eq_none (by omega), List.getElem?_eq_none (by omega)]
theorem wrow_self (k y : Nat) : wrow y k y = y := by unfold wrow; split <;> simp
theorem wpart_k (c : List Nat) (k i : Nat) : (wpart c k i).getD k 0 = c.getD k 0 := by
  rw [getD_wpart]; split
  · exact wrow_self _ _
  · rfl
theorem wpart_i (c : List Nat) (k i : Nat) : (wpart c k i).getD i 0 = c.getD i 0 := by
  rw [getD_wpart, if_neg (by omega)]
theorem wpart_succ (c : List Nat) (k i : Nat) (hi : i < c.length) : wpart c k (i + 1) = (wpart c k i).set i (wrow (c.getD k 0) k (c.getD i 0)) := by
  apply List.ext_getElem (by rw [List.length_set, length_wpart, length_wpart])
  intro j h1 h2
  have e1 : (wpart c k (i + 1))[j] = (wpart c k (i + 1)).getD j 0 := by rw [List.getD_eq_getElem?_getD, List.getElem?_eq_getElem h1]; rfl
  rw [e1, getD_wpart, List.getElem_set]
  rw [length_wpart] at h1
  by_cases hij : i = j
  · subst hij
    rw [if_pos ⟨by omega, hi⟩, if_pos rfl]
  · rw [if_neg hij]
    have h3 : j < (wpart c k i).length := by rw [length_wpart]; exact h1
    have e2 : (wpart c k i)[j] = (wpart c k i).getD j 0 := by rw [List.getD_eq_getElem?_getD, List.getElem?_eq_getElem h3]; rfl
    rw [e2, getD_wpart]
    by_cases hj : j < i
    · rw [if_pos ⟨by omega, h1⟩, if_pos ⟨hj, h1⟩]
    · rw [if_neg (by omega), if_neg (by omega)]
end Odr

set_option maxHeartbeats 1000000 in
theorem closed_calls (l : List Nat) (v : Value) (B : Nat) (w : World) (hr : Ints w B v (zs l)) (hlen : l.length ≤ 12) (hf : Odr.Fits l) :
    Calls Tryd.prog 60 #[v] w fun e w' => ∃ v', e = .returned v' ∧ Own w' w.heap.size v' (zs (Odr.closed l)) ∧ Below w.heap.size w w' := by
  have HF := Lib.hid hf
  clear hf
  go_enter Tryd.func60, Tryd.ntmps60
  go_wp2_with (at_builtin; refine append_ints rfl _ _ rfl w.heap.size _ [] rfl (Own.nil _ _) v (zs l) B rfl hr (by simp; omega) (Nat.le_refl _) ?_; intro v1 w1 hown hb1 hg1; clear hg1; obtain ⟨A1, c1, rfl⟩ := Rd.val hown.ints; simp only [List.nil_append, length_zs] at hown ⊢)
  go_loopw [10] (fun i wr => ∃ k : Nat, k ≤ l.length ∧ i = nv k ∧ Own wr w.heap.size (.slice A1 l.length c1) (zs (Odr.closedTo l k)) ∧ Below w.heap.size w wr) (fun i _ => l.length - (intOf i).toNat)
  case atStart => exact ⟨0, Nat.zero_le _, rfl, hown, hb1⟩
  case round =>
    clear hown hb1
    obtain ⟨k, hk, rfl, hown, hb⟩ := hrel
    by_cases hkl : k < l.length
    · have hcl := Odr.length_closedTo l k
      have HC := Lib.hid (HF.out.closedTo k)
      have HST := Lib.hid (show Odr.closedTo l (k + 1) = Odr.wstep k (Odr.closedTo l k) from rfl)
      generalize Odr.closedTo l k = c at *
      have HCL := Lib.hid hcl
      go_wp2_with fail
      go_loopw [15] (fun i wr => ∃ m : Nat, m ≤ l.length ∧ i = nv m ∧ Own wr w.heap.size (.slice A1 l.length c1) (zs (Odr.wpart c k m)) ∧ Below w.heap.size w wr) (fun i _ => l.length - (intOf i).toNat)
      case atStart => exact ⟨0, Nat.zero_le _, rfl, by rw [Odr.wpart_zero]; exact hown, hb⟩
      case round =>
        clear hown hb hcl
        obtain ⟨m, hm, rfl, hown, hb⟩ := hrel
        by_cases hml : m < l.length
        · have hwl : (zs (Odr.wpart c k m)).length = l.length := by rw [length_zs, Odr.length_wpart, HCL.out]
          obtain ⟨g, cap, he, gb, gs, _, gc, gf, gst⟩ := Own.shape hown (by omega)
          rw [hwl] at he
          cases he
          have gm := gc m (by omega)
          have gk := gc k (by omega)
          rw [zs_getElem, Odr.wpart_i] at gm
          rw [zs_getElem, Odr.wpart_k] at gk
          have gfm := gf m
          have GST := Lib.hid gst
          have hx12 : c.getD m 0 < 4096 := fits12 (l := c) (by rw [HCL.out]; exact hlen) (HC.out.getD m)
          have hy12 : c.getD k 0 < 4096 := fits12 (l := c) (by rw [HCL.out]; exact hlen) (HC.out.getD k)
          have hsucc := Lib.hid (Odr.wpart_succ c k m (by rw [HCL.out]; exact hml))
          have hset := Lib.hid (show (Odr.wpart c k m).set m (c.getD m 0) = Odr.wpart c k m by
            apply List.ext_getElem (by simp)
            intro j h1 h2
            rw [List.getElem_set]
            split
            · rename_i h; subst h
              have := Odr.wpart_i c k m
              rw [List.getD_eq_getElem?_getD, List.getElem?_eq_getElem h2] at this
              exact this.symm
            · rfl)
          clear gc gf gst
          generalize c.getD m 0 = x at *
          generalize c.getD k 0 = y at *
          by_cases hbit : x.testBit k = true
          · have HW := Lib.hid (show Odr.wrow y k x = x ||| y by unfold Odr.wrow; rw [if_pos hbit])
            go_wp2_with (go_at_call 63; refine (has12 _ _ _ hx12 (by omega)).mono ?_; rintro e w' ⟨rfl, rfl⟩)
            go_region
            go_wp2_with fail
            go_roundw
            case rel => exact ⟨m + 1, by omega, by go_num, by
              have h := GST.out m ((x ||| y : Nat) : Int)
              rw [zs_set] at h
              rw [bits_or x y (by omega) (by omega), hsucc.out, HW.out]
              exact h.drew, (hb.setCell (p := ⟨g, m, none⟩) gb _).drew⟩
            case measure => simp [intOf]; omega
          · have hbit' : x.testBit k = false := by simpa using hbit
            have HW := Lib.hid (show Odr.wrow y k x = x by unfold Odr.wrow; rw [if_neg hbit])
            clear hbit
            go_wp2_with (go_at_call 63; refine (has12 _ _ _ hx12 (by omega)).mono ?_; rintro e w' ⟨rfl, rfl⟩)
            go_roundw
            case rel => exact ⟨m + 1, by omega, by go_num, by rw [hsucc.out, HW.out, hset.out]; exact hown, hb⟩
            case measure => simp [intOf]; omega
        · obtain rfl : m = l.length := by omega
          clear hml
          rw [← HCL.out, Odr.wpart_all, ← HST.out, HCL.out] at hown
          go_wp2_with fail
          go_roundw
          case rel => exact ⟨k + 1, by omega, by go_num, hown, hb⟩
          case measure => simp [intOf]; omega
    · obtain rfl : k = l.length := by omega
      clear hkl
      go_wp2_with fail
      go_ret
      exact ⟨_, rfl, hown, hb⟩

/-- all are sets of as many things as there are rows -/
def masksOk (l : List Int) : Prop := ∀ x ∈ l, 0 ≤ x ∧ x < 2 ^ l.length
instance (l : List Int) : Decidable (masksOk l) := by unfold masksOk; infer_instance
/-- no thing stands behind itself -/
def irrOk (m : List Nat) : Prop := ∀ i, i < m.length → Odr.rel (Odr.closed m) i i = false
instance (m : List Nat) : Decidable (irrOk m) := by unfold irrOk; infer_instance
/-- what is wrong with an order -/
def orderCode (l : List Int) : Nat := if 12 < l.length then 4 else if masksOk l then (if irrOk (l.map Int.toNat) then 0 else 6) else 1

theorem masks_nat {l : List Int} (h : masksOk l) : l = zs (l.map Int.toNat) ∧ Odr.Fits (l.map Int.toNat) := by
  constructor
  · unfold zs
    rw [List.map_map]
    apply List.ext_getElem (by simp)
    intro i h1 h2
    have := (h _ (List.getElem_mem h1)).1
    simp
    omega
  · intro x hx
    obtain ⟨y, hy, rfl⟩ := List.mem_map.1 hx
    rw [List.length_map]
    obtain ⟨h1, h2⟩ := h y hy
    have : ((2 ^ l.length : Nat) : Int) = (2 : Int) ^ l.length := by rw [Int.natCast_pow]; rfl
    rw [← this] at h2
    omega
theorem valid_iff {m : List Nat} (hl : m.length ≤ 12) (hf : Odr.Fits m) : irrOk m ↔ Odr.Valid m := by
  constructor
  · intro h
    refine ⟨hl, hf, fun i => ?_⟩
    by_cases hi : i < m.length
    · exact h i hi
    · by_cases g : Odr.rel (Odr.closed m) i i = true
      · have := Odr.rel_lt_left g
        rw [Odr.length_closed] at this
        exact absurd this hi
      · simpa using g
  · exact fun h i _ => h.irr i
theorem orderCode_zero {l : List Int} (h : orderCode l = 0) : ∃ m, l = zs m ∧ Odr.Valid m := by
  unfold orderCode at h
  by_cases h1 : 12 < l.length
  · rw [if_pos h1] at h; cases h
  · rw [if_neg h1] at h
    by_cases h2 : masksOk l
    · rw [if_pos h2] at h
      by_cases h3 : irrOk (l.map Int.toNat)
      · exact ⟨_, (masks_nat h2).1, (valid_iff (by simpa using h1) (masks_nat h2).2).1 h3⟩
      · rw [if_neg h3] at h; cases h
    · rw [if_neg h2] at h; cases h
theorem zs_toNat (m : List Nat) : (zs m).map Int.toNat = m := by
  unfold zs
  rw [List.map_map]
  conv => rhs; rw [← List.map_id m]
  apply List.map_congr_left
  intro x _
  simp
theorem masksOk_zs {m : List Nat} (h : Odr.Fits m) : masksOk (zs m) := by
  intro x hx
  obtain ⟨y, hy, rfl⟩ := List.mem_map.1 hx
  have h2 := h y hy
  rw [length_zs]
  have : ((2 ^ m.length : Nat) : Int) = (2 : Int) ^ m.length := by rw [Int.natCast_pow]; rfl
  rw [← this]
  constructor
  · omega
  · exact Int.ofNat_lt.2 h2
theorem orderCode_zs {m : List Nat} (h : Odr.Fits m) (hl : m.length ≤ 12) : orderCode (zs m) = if irrOk m then 0 else 6 := by
  unfold orderCode
  rw [if_neg (by rw [length_zs]; omega), if_pos (masksOk_zs h), zs_toNat]
theorem orderCode_valid {m : List Nat} (h : Odr.Valid m) : orderCode (zs m) = 0 := by
  rw [orderCode_zs h.fits h.few, if_pos ((valid_iff h.few h.fits).2 h)]

theorem check_full (l : List Int) (v : Value) (w : World) (hr : Ints w w.heap.size v l) (hlen : 12 < l.length) :
    Calls Tryd.prog 45 #[v] w fun e w' => e = .returned (.iface 56 (.int .i64 4)) ∧ Below w.heap.size w w' := by
  obtain ⟨A, cap, rfl⟩ := Rd.val hr
  go_enter Tryd.func45, Tryd.ntmps45
  go_wp2_with fail
  go_ret
  exact ⟨rfl, Below.refl _ _⟩

set_option maxHeartbeats 400000 in
theorem check_mask (l : List Int) (v : Value) (w : World) (hr : Ints w w.heap.size v l) (hlen : l.length ≤ 12) (hbad : ¬ masksOk l) :
    Calls Tryd.prog 45 #[v] w fun e w' => e = .returned (.iface 56 (.int .i64 1)) ∧ Below w.heap.size w w' := by
  obtain ⟨A, cap, rfl⟩ := Rd.val hr
  have HB := Lib.hid hbad
  clear hbad
  go_enter Tryd.func45, Tryd.ntmps45
  go_wp2_with fail
  go_loop [13] (fun i => ∃ k : Nat, k ≤ l.length ∧ i = nv k ∧ Hid (∀ j (hj : j < l.length), j < k → 0 ≤ l[j] ∧ l[j] < 2 ^ l.length)) (fun i => l.length - (intOf i).toNat)
  case atStart => exact ⟨0, Nat.zero_le _, rfl, Lib.hid (fun j _ hj => absurd hj (by omega))⟩
  case round =>
    obtain ⟨k, hk, rfl, hall⟩ := hrel
    by_cases hkl : k < l.length
    · obtain ⟨b0, off, cap', he, _, hc⟩ := Ints.at_ hr hkl
      cases he
      obtain ⟨x, hx0⟩ : ∃ x, x = l[k] := ⟨_, rfl⟩
      rw [← hx0] at hc
      have HX0 := Lib.hid hx0
      clear hx0
      by_cases hx : 0 ≤ x ∧ x < 2 ^ l.length
      · have HX := Lib.hid hx
        have hm := Lib.hid (fun w => mask_calls x l.length w (by omega))
        rw [show decide (0 ≤ x ∧ x < 2 ^ l.length) = true from by simp [hx]] at hm
        clear hx
        go_wp2_with (go_at_call 70; refine (hm.out _).mono ?_; rintro e w' ⟨rfl, rfl⟩)
        go_round
        case rel => exact ⟨k + 1, by omega, by go_num, Lib.hid (fun j hj h => by
          by_cases hjk : j < k
          · exact hall.out j hj hjk
          · obtain rfl : j = k := by omega
            rw [← HX0.out]; exact HX.out)⟩
        case measure => simp [intOf]; omega
      · have hm := Lib.hid (fun w => mask_calls x l.length w (by omega))
        rw [show decide (0 ≤ x ∧ x < 2 ^ l.length) = false from by simpa using hx] at hm
        clear hx hall
        go_wp2_with (go_at_call 70; refine (hm.out _).mono ?_; rintro e w' ⟨rfl, rfl⟩)
        go_ret
        exact ⟨rfl, Below.refl _ _⟩
    · exact absurd (fun x hx => by
        obtain ⟨j, hj, rfl⟩ := List.mem_iff_getElem.1 hx
        exact hall.out j hj (by omega)) HB.out

set_option maxHeartbeats 1000000 in
theorem check_fits (m : List Nat) (v : Value) (w : World) (hr : Ints w w.heap.size v (zs m)) (hlen : m.length ≤ 12) (hf : Odr.Fits m) :
    Calls Tryd.prog 45 #[v] w fun e w' => (irrOk m → e = .returned .nilIface) ∧ (¬ irrOk m → e = .returned (.iface 56 (.int .i64 6))) ∧ Below w.heap.size w w' := by
  have hcl := Lib.hid (closed_calls m v w.heap.size w hr hlen hf)
  have hmk := Lib.hid (masksOk_zs hf)
  have HCF := Lib.hid hf.closed
  obtain ⟨A, cap, rfl⟩ := Rd.val hr
  clear hf
  simp only [length_zs] at *
  go_enter Tryd.func45, Tryd.ntmps45
  go_wp2_with fail
  go_loop [13] (fun i => ∃ k : Nat, k ≤ m.length ∧ i = nv k) (fun i => m.length - (intOf i).toNat)
  case atStart => exact ⟨0, Nat.zero_le _, rfl⟩
  case round =>
    obtain ⟨k, hk, rfl⟩ := hrel
    by_cases hkl : k < m.length
    · obtain ⟨b0, off, cap', he, _, hc⟩ := Ints.at_ hr (k := k) (by simpa using hkl)
      rw [length_zs] at he
      cases he
      have hxm := List.getElem_mem (l := zs m) (n := k) (by simpa using hkl)
      generalize (zs m)[k]'(by simpa using hkl) = x at *
      have hx := hmk.out x hxm
      rw [length_zs] at hx
      clear hxm
      have hm := Lib.hid (fun w => mask_calls x m.length w (by omega))
      rw [show decide (0 ≤ x ∧ x < 2 ^ m.length) = true from by simp [hx]] at hm
      clear hx
      go_wp2_with (go_at_call 70; refine (hm.out _).mono ?_; rintro e w' ⟨rfl, rfl⟩)
      go_round
      case rel => exact ⟨k + 1, by omega, by go_num⟩
      case measure => simp [intOf]; omega
    · obtain rfl : k = m.length := by omega
      clear hkl
      go_wp2_with fail
      refine hcl.out.mono ?_
      rintro e w1 ⟨v1, rfl, hown, hb⟩
      clear hcl
      have hi1 := hown.ints
      clear hown
      obtain ⟨A1, c1, rfl⟩ := Rd.val hi1
      simp only [length_zs, Odr.length_closed] at hi1 ⊢
      have hcl := Odr.length_closed m
      generalize hce : Odr.closed m = c at *
      have HIR := Lib.hid (show irrOk m ↔ ∀ i, i < m.length → Odr.rel c i i = false by rw [← hce]; exact Iff.rfl)
      clear hce
      have HCL := Lib.hid hcl
      clear hcl hmk
      go_wp2_with fail
      go_loop [27] (fun i => ∃ k : Nat, k ≤ m.length ∧ i = nv k ∧ Hid (∀ j, j < k → Odr.rel c j j = false)) (fun i => m.length - (intOf i).toNat)
      case atStart => exact ⟨0, Nat.zero_le _, rfl, Lib.hid (fun j hj => absurd hj (by omega))⟩
      case round =>
        obtain ⟨k, hk, rfl, hall⟩ := hrel
        by_cases hkl : k < m.length
        · obtain ⟨b0, off, cap', he, _, hc⟩ := Ints.atN hi1 (k := k) (by rw [HCL.out]; exact hkl)
          rw [HCL.out] at he
          cases he
          have hx12 : c.getD k 0 < 4096 := fits12 (l := c) (by rw [HCL.out]; exact hlen) (HCF.out.getD k)
          have hrel := Lib.hid (show Odr.rel c k k = (c.getD k 0).testBit k from rfl)
          generalize c.getD k 0 = x at *
          by_cases hbit : x.testBit k = true
          · have HN := Lib.hid (show ¬ ∀ i, i < m.length → Odr.rel c i i = false from fun h => by
              have := h k hkl
              rw [hrel.out, hbit] at this
              cases this)
            go_wp2_with (go_at_call 63; refine (has12 _ _ _ hx12 (by omega)).mono ?_; rintro e w' ⟨rfl, rfl⟩)
            go_ret
            exact ⟨fun h => absurd (HIR.out.1 h) HN.out, fun _ => rfl, hb⟩
          · have hbit' : x.testBit k = false := by simpa using hbit
            clear hbit
            go_wp2_with (go_at_call 63; refine (has12 _ _ _ hx12 (by omega)).mono ?_; rintro e w' ⟨rfl, rfl⟩)
            go_round
            case rel => exact ⟨k + 1, by omega, by go_num, Lib.hid (fun j hj => by
              by_cases hjk : j < k
              · exact hall.out j hjk
              · obtain rfl : j = k := by omega
                rw [hrel.out]; exact hbit')⟩
            case measure => simp [intOf]; omega
        · obtain rfl : k = m.length := by omega
          clear hkl
          go_wp2_with fail
          go_ret
          exact ⟨fun _ => rfl, fun h => absurd (HIR.out.2 hall.out) h, hb⟩

/-- Check of an order -/
theorem check_valid (m : List Nat) (v : Value) (w : World) (hr : Ints w w.heap.size v (zs m)) (hv : Odr.Valid m) :
    Calls Tryd.prog 45 #[v] w fun e w' => e = .returned .nilIface ∧ Below w.heap.size w w' :=
  (check_fits m v w hr hv.few hv.fits).mono fun _ _ ⟨h1, _, h3⟩ => ⟨h1 ((valid_iff hv.few hv.fits).2 hv), h3⟩
/-- Check of what is none -/
theorem check_err (l : List Int) (v : Value) (w : World) (hr : Ints w w.heap.size v l) (hne : orderCode l ≠ 0) :
    Calls Tryd.prog 45 #[v] w fun e w' => e = .returned (.iface 56 (nv (orderCode l))) ∧ Below w.heap.size w w' := by
  unfold orderCode at hne ⊢
  by_cases h1 : 12 < l.length
  · rw [if_pos h1] at hne ⊢; exact check_full l v w hr h1
  · rw [if_neg h1] at hne ⊢
    by_cases h2 : masksOk l
    · rw [if_pos h2] at hne ⊢
      obtain ⟨e, hf⟩ := masks_nat h2
      by_cases h3 : irrOk (l.map Int.toNat)
      · rw [if_pos h3] at hne; exact absurd rfl hne
      · rw [if_neg h3]
        rw [e] at hr
        refine (check_fits _ v w hr (by simpa using h1) hf).mono fun _ _ ⟨_, g, hb⟩ => ⟨?_, hb⟩
        exact g h3
    · rw [if_neg h2]; exact check_mask l v w hr (by omega) h2

end Go.Proofs.YtpicjikjinkkpaaDoor
