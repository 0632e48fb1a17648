/- Contracts of package fold: word, Steps, Same. Conditions: each contract's own premises. -/
import Derived.Test.YtoedgncbgkdmoaaDoorFold
namespace Go.Proofs.YtoedgncbgkdmoaaDoor
open Go.RowKit

def lettersOk (n : Nat) (u : List Int) : Prop := ∀ x ∈ u, 0 ≤ x ∧ x < n
instance (n : Nat) (u : List Int) : Decidable (lettersOk n u) := by unfold lettersOk; infer_instance
/-- what is wrong with a word -/
def wordCode (l u : List Int) : Nat := if freeCode l ≠ 0 then freeCode l else if 24 < u.length then 4 else if lettersOk l.length u then 0 else 1
theorem letters_nat {n : Nat} {u : List Int} (h : lettersOk n u) : u = zs (u.map Int.toNat) ∧ ∀ x ∈ u.map Int.toNat, x < n := by
  constructor
  · unfold zs
    rw [List.map_map]
    apply List.ext_getElem (by simp)
    intro i h1 h2
    have := (h _ (List.getElem_mem h1)).1
    simp
    omega
  · intro x hx
    obtain ⟨y, hy, rfl⟩ := List.mem_map.1 hx
    have := h y hy
    omega
theorem wordCode_zero {l u : List Int} (h : wordCode l u = 0) : ∃ m t, l = zs m ∧ u = zs t ∧ Fld.Good m ∧ t.length ≤ 24 ∧ ∀ x ∈ t, x < m.length := by
  unfold wordCode at h
  by_cases h0 : freeCode l = 0
  · rw [if_neg (by simpa using h0)] at h
    obtain ⟨m, rfl, hg⟩ := freeCode_zero h0
    by_cases h1 : 24 < u.length
    · rw [if_pos h1] at h; cases h
    · rw [if_neg h1] at h
      by_cases h2 : lettersOk (zs m).length u
      · obtain ⟨e, hl⟩ := letters_nat h2
        rw [length_zs] at hl
        exact ⟨m, u.map Int.toNat, rfl, e, hg, by simp; omega, hl⟩
      · rw [if_neg h2] at h; cases h
  · rw [if_pos h0] at h; exact absurd h h0
theorem wordCode_ok {m t : List Nat} (hg : Fld.Good m) (hl : t.length ≤ 24) (ht : ∀ x ∈ t, x < m.length) : wordCode (zs m) (zs t) = 0 := by
  unfold wordCode
  rw [if_neg (by rw [freeCode_good hg]; simp), if_neg (by rw [length_zs]; omega), if_pos]
  intro x hx
  obtain ⟨y, hy, rfl⟩ := List.mem_map.1 hx
  have := ht y hy
  rw [length_zs]
  omega

set_option maxHeartbeats 400000 in
theorem word_ok (m t : List Nat) (v u : Value) (w : World) (hv : Ints w w.heap.size v (zs m)) (hu : Ints w w.heap.size u (zs t)) (hg : Fld.Good m) (hl : t.length ≤ 24) (ht : ∀ x ∈ t, x < m.length) (hT : Tab w) :
    Calls Tryd.prog 28 #[v, u] w fun e w' => e = .returned .nilIface ∧ Below w.heap.size w w' := by
  have hchk := Lib.hid (fcheck_good m v w hv hg hT)
  have HT := Lib.hid ht
  have hn := hg.1
  obtain ⟨A, cap, rfl⟩ := Rd.val hv
  obtain ⟨A', cap', rfl⟩ := Rd.val hu
  simp only [length_zs] at *
  clear ht hg
  go_enter Tryd.func28, Tryd.ntmps28
  go_wp2_with fail
  refine hchk.out.mono ?_
  rintro e w1 ⟨rfl, hb1⟩
  clear hchk
  have hu1 := Rd.below hu hb1
  clear hu hv
  go_wp2_with fail
  go_loop [19] (fun i => ∃ k : Nat, k ≤ t.length ∧ i = nv k) (fun i => t.length - (intOf i).toNat)
  case atStart => exact ⟨0, Nat.zero_le _, rfl⟩
  case round =>
    obtain ⟨k, hk, rfl⟩ := hrel
    by_cases hkl : k < t.length
    · obtain ⟨b0, off, c0, he, _, hc⟩ := Ints.atN hu1 hkl
      cases he
      have hx := HT.out (t.getD k 0) (by rw [List.getD_eq_getElem?_getD, List.getElem?_eq_getElem hkl]; exact List.getElem_mem hkl)
      generalize t.getD k 0 = x at *
      clear hu1
      go_wp2_with (go_at_call 45; refine (within_yes _ _ _ _ (by omega) (by omega)).mono ?_; rintro e w' ⟨rfl, rfl⟩)
      go_round
      case rel => exact ⟨k + 1, by omega, by go_num⟩
      case measure => simp [intOf]; omega
    · have hge : t.length ≤ k := by omega
      clear hkl
      go_wp2_with fail
      go_ret
      exact ⟨rfl, hb1⟩

theorem word_free (l : List Int) (v u : Value) (w : World) (hv : Ints w w.heap.size v l) (hne : freeCode l ≠ 0) (hT : Tab w) :
    Calls Tryd.prog 28 #[v, u] w fun e w' => e = .returned (.iface 43 (nv (freeCode l))) ∧ Below w.heap.size w w' := by
  have hchk := Lib.hid (fcheck_err l v w hv hne hT)
  clear hne hv
  go_enter Tryd.func28, Tryd.ntmps28
  go_wp2_with fail
  refine hchk.out.mono ?_
  rintro e w1 ⟨rfl, hb1⟩
  clear hchk
  go_wp2_with fail
  go_ret
  exact ⟨rfl, hb1⟩

theorem word_full (m : List Nat) (l : List Int) (v u : Value) (w : World) (hv : Ints w w.heap.size v (zs m)) (hu : Ints w w.heap.size u l) (hg : Fld.Good m) (hl : 24 < l.length) (hT : Tab w) :
    Calls Tryd.prog 28 #[v, u] w fun e w' => e = .returned (.iface 43 (.int .i64 4)) ∧ Below w.heap.size w w' := by
  have hchk := Lib.hid (fcheck_good m v w hv hg hT)
  obtain ⟨A, cap, rfl⟩ := Rd.val hv
  obtain ⟨A', cap', rfl⟩ := Rd.val hu
  simp only [length_zs] at *
  clear hg hu hv
  go_enter Tryd.func28, Tryd.ntmps28
  go_wp2_with fail
  refine hchk.out.mono ?_
  rintro e w1 ⟨rfl, hb1⟩
  clear hchk
  go_wp2_with fail
  go_ret
  exact ⟨rfl, hb1⟩

set_option maxHeartbeats 400000 in
theorem word_bad (m : List Nat) (l : List Int) (v u : Value) (w : World) (hv : Ints w w.heap.size v (zs m)) (hu : Ints w w.heap.size u l) (hg : Fld.Good m) (hl : l.length ≤ 24) (hbad : ¬ lettersOk m.length l) (hT : Tab w) :
    Calls Tryd.prog 28 #[v, u] w fun e w' => e = .returned (.iface 43 (.int .i64 1)) ∧ Below w.heap.size w w' := by
  have hchk := Lib.hid (fcheck_good m v w hv hg hT)
  have HB := Lib.hid hbad
  have hn := hg.1
  obtain ⟨A, cap, rfl⟩ := Rd.val hv
  obtain ⟨A', cap', rfl⟩ := Rd.val hu
  simp only [length_zs] at *
  clear hbad hg
  go_enter Tryd.func28, Tryd.ntmps28
  go_wp2_with fail
  refine hchk.out.mono ?_
  rintro e w1 ⟨rfl, hb1⟩
  clear hchk
  have hu1 := Rd.below hu hb1
  clear hu hv
  go_wp2_with fail
  go_loop [19] (fun i => ∃ k : Nat, k ≤ l.length ∧ i = nv k ∧ Hid (∀ j (hj : j < l.length), j < k → 0 ≤ l[j] ∧ l[j] < m.length)) (fun i => l.length - (intOf i).toNat)
  case atStart => exact ⟨0, Nat.zero_le _, rfl, Lib.hid (fun j _ hj => absurd hj (by omega))⟩
  case round =>
    obtain ⟨k, hk, rfl, hall⟩ := hrel
    by_cases hkl : k < l.length
    · obtain ⟨b0, off, c0, he, _, hc⟩ := Ints.at_ hu1 hkl
      cases he
      obtain ⟨x, hx0⟩ : ∃ x, x = l[k] := ⟨_, rfl⟩
      rw [← hx0] at hc
      have HX0 := Lib.hid hx0
      clear hx0 hu1
      by_cases hx : 0 ≤ x ∧ x < m.length
      · obtain ⟨hx1, hx2⟩ := hx
        go_wp2_with (go_at_call 45; refine (within_yes _ _ _ _ (by omega) (by omega)).mono ?_; rintro e w' ⟨rfl, rfl⟩)
        go_round
        case rel => exact ⟨k + 1, by omega, by go_num, Lib.hid (fun j hj h => by
          by_cases hjk : j < k
          · exact hall.out j hj hjk
          · obtain rfl : j = k := by omega
            rw [← HX0.out]; exact ⟨hx1, hx2⟩)⟩
        case measure => simp [intOf]; omega
      · have H1 := Lib.hid (show ¬ (0 ≤ x ∧ x ≤ (m.length : Int) - 1) by omega)
        clear hx hall
        go_wp2_with (go_at_call 45; refine (within_no _ _ _ _ H1.out).mono ?_; rintro e w' ⟨rfl, rfl⟩)
        go_ret
        exact ⟨rfl, hb1⟩
    · exact absurd (fun x hx => by
        obtain ⟨j, hj, rfl⟩ := List.mem_iff_getElem.1 hx
        exact hall.out j hj (by omega)) HB.out

theorem word_err (l p : List Int) (v u : Value) (w : World) (hv : Ints w w.heap.size v l) (hu : Ints w w.heap.size u p) (hne : wordCode l p ≠ 0) (hT : Tab w) :
    Calls Tryd.prog 28 #[v, u] w fun e w' => e = .returned (.iface 43 (nv (wordCode l p))) ∧ Below w.heap.size w w' := by
  unfold wordCode at hne ⊢
  by_cases h0 : freeCode l = 0
  · rw [if_neg (by simpa using h0)] at hne ⊢
    obtain ⟨m, rfl, hg⟩ := freeCode_zero h0
    by_cases h1 : 24 < p.length
    · rw [if_pos h1]; exact word_full m p v u w hv hu hg h1 hT
    · rw [if_neg h1] at hne ⊢
      by_cases h2 : lettersOk (zs m).length p
      · rw [if_pos h2] at hne; exact absurd rfl hne
      · rw [if_neg h2]
        rw [length_zs] at h2
        exact word_bad m p v u w hv hu hg (by omega) h2 hT
  · rw [if_pos h0]; exact word_free l v u w hv h0 hT

theorem fsteps_err (l p : List Int) (v u : Value) (w : World) (hv : Ints w w.heap.size v l) (hu : Ints w w.heap.size u p) (hne : wordCode l p ≠ 0) (hT : Tab w) :
    Calls Tryd.prog 13 #[v, u] w fun e w' => e = .returned (.tuple #[.slice none 0 0, .iface 43 (nv (wordCode l p))]) ∧ Below w.heap.size w w' := by
  have hchk := Lib.hid (word_err l p v u w hv hu hne hT)
  clear hne hv hu
  go_enter Tryd.func13, Tryd.ntmps13
  go_wp2_with fail
  refine hchk.out.mono ?_
  rintro e w1 ⟨rfl, hb1⟩
  clear hchk
  go_wp2_with fail
  go_ret2
  exact ⟨rfl, hb1⟩
end Go.Proofs.YtoedgncbgkdmoaaDoor
