/- Contracts of package sched's first calls: what Check and Edges tell, and plain words on schedules. Conditions: each contract's own premises. -/
import Derived.Test.YtkindaadadggoaaDoorCore
namespace Go.Proofs.YtkindaadadggoaaDoor
open Go.RowKit

/-- an act: its transaction, its item, whether it writes -/
abbrev Act3 := Int × Int × Int
def acells (s : List Act3) : List Value := s.flatMap fun a => [iv a.1, iv a.2.1, iv a.2.2]
def Acts (w : World) (B : Nat) (v : Value) (s : List Act3) : Prop := Rd w B 3 v s.length (acells s)

theorem length_acells (s : List Act3) : (acells s).length = s.length * 3 := by
  induction s with
  | nil => rfl
  | cons a s ih =>
    have e : acells (a :: s) = [iv a.1, iv a.2.1, iv a.2.2] ++ acells s := rfl
    rw [e, List.length_append, ih, List.length_cons]; simp; omega

theorem acells_at (s : List Act3) (k : Nat) (hk : k < s.length) : (acells s)[k * 3]? = some (iv s[k].1) ∧ (acells s)[k * 3 + 1]? = some (iv s[k].2.1) ∧ (acells s)[k * 3 + 2]? = some (iv s[k].2.2) := by
  induction s generalizing k with
  | nil => simp at hk
  | cons a s ih =>
    cases k with
    | zero => simp [acells]
    | succ k =>
      have := ih k (by simpa using hk)
      have e : acells (a :: s) = [iv a.1, iv a.2.1, iv a.2.2] ++ acells s := rfl
      rw [e, show (k + 1) * 3 = k * 3 + 3 from by omega]
      simp only [List.getElem_cons_succ]
      refine ⟨?_, ?_, ?_⟩
      · rw [List.getElem?_append_right (by simp)]; simpa using this.1
      · rw [List.getElem?_append_right (by simp), show k * 3 + 3 + 1 - [iv a.1, iv a.2.1, iv a.2.2].length = k * 3 + 1 from by simp]; exact this.2.1
      · rw [List.getElem?_append_right (by simp), show k * 3 + 3 + 2 - [iv a.1, iv a.2.1, iv a.2.2].length = k * 3 + 2 from by simp]; exact this.2.2
theorem Acts.at_ {w : World} {B : Nat} {v : Value} {s : List Act3} (h : Acts w B v s) {k : Nat} (hk : k < s.length) :
    ∃ b off cap, v = .slice (some ⟨b, off, none⟩) s.length cap ∧ s.length ≤ cap ∧ cap ≤ maxLen ∧ b < B ∧ w.cell? ⟨b, off + k * 3, none⟩ = some (.int .i64 s[k].1) ∧
      w.cell? ⟨b, off + k * 3 + 1, none⟩ = some (.int .i64 s[k].2.1) ∧ w.cell? ⟨b, off + k * 3 + 2, none⟩ = some (.int .i64 s[k].2.2) := by
  obtain ⟨b, off, cap, e, h1, h2, hb, hc⟩ := Rd.shape h (by omega)
  obtain ⟨c0, c1, c2⟩ := acells_at s k hk
  exact ⟨b, off, cap, e, h1, h2, hb, hc _ _ c0, by rw [Nat.add_assoc]; exact hc _ _ c1, by rw [Nat.add_assoc]; exact hc _ _ c2⟩

def actOk (a : Act3) : Prop := (0 ≤ a.1 ∧ a.1 ≤ 4) ∧ (0 ≤ a.2.1 ∧ a.2.1 ≤ 3) ∧ (0 ≤ a.2.2 ∧ a.2.2 ≤ 1)
instance (a : Act3) : Decidable (actOk a) := by unfold actOk; infer_instance

/-- what is wrong with a schedule -/
def actsCode (s : List Act3) : Nat := if 24 < s.length then 4 else if ∀ a ∈ s, actOk a then 0 else 1

set_option maxHeartbeats 400000 in
theorem check_ok (s : List Act3) (v : Value) (w : World) (hr : Acts w w.heap.size v s) (hlen : s.length ≤ 24) (hok : ∀ a ∈ s, actOk a) :
    Calls Tryd.prog 46 #[v] w fun e w' => e = .returned .nilIface ∧ Below w.heap.size w w' := by
  obtain ⟨A, cap, rfl⟩ := Rd.val hr
  go_enter Tryd.func46, Tryd.ntmps46
  go_wp2
  go_loopw [11] (fun i wr => ∃ k : Nat, k ≤ s.length ∧ i = .int .i64 k ∧ Below w.heap.size w wr) (fun i _ => s.length - (intOf i).toNat)
  case atStart => exact ⟨0, Nat.zero_le _, rfl, Below.refl _ _⟩
  case round =>
    obtain ⟨k, hk, rfl, hb⟩ := hrel
    by_cases hlt : k < s.length
    · obtain ⟨b, off, cap', he, _, _, hbB, d0, d1, d2⟩ := Acts.at_ (Rd.below hr hb) hlt
      cases he
      obtain ⟨⟨o1, o2⟩, ⟨o3, o4⟩, o5, o6⟩ := hok _ (List.getElem_mem hlt)
      generalize s[k].1 = tx at *
      generalize s[k].2.1 = it at *
      generalize s[k].2.2 = wt at *
      clear hr hok
      go_wp2_with (go_at_call 57; refine (within_yes _ _ _ _ (by omega) (by omega)).mono ?_; rintro e w' ⟨rfl, rfl⟩)
      go_roundw
      case rel => exact ⟨k + 1, by omega, by go_num, by have := hb.size; exact hb.alloc (by omega) _⟩
      case measure => simp [intOf]; omega
    · have hge : s.length ≤ k := by omega
      clear hlt
      go_wp2
      go_ret
      exact ⟨rfl, hb⟩

set_option maxHeartbeats 800000 in
theorem check_bad (s : List Act3) (v : Value) (w : World) (hr : Acts w w.heap.size v s) (hlen : s.length ≤ 24) (hbad : ¬ ∀ a ∈ s, actOk a) :
    Calls Tryd.prog 46 #[v] w fun e w' => e = .returned (.iface 93 (.int .i64 1)) ∧ Below w.heap.size w w' := by
  obtain ⟨A, cap, rfl⟩ := Rd.val hr
  have HB := Lib.hid hbad
  clear hbad
  go_enter Tryd.func46, Tryd.ntmps46
  go_wp2
  go_loopw [11] (fun i wr => ∃ k : Nat, k ≤ s.length ∧ i = .int .i64 k ∧ Hid (∀ j (hj : j < s.length), j < k → actOk s[j]) ∧ Below w.heap.size w wr) (fun i _ => s.length - (intOf i).toNat)
  case atStart => exact ⟨0, Nat.zero_le _, rfl, Lib.hid (fun j _ hj => absurd hj (by omega)), Below.refl _ _⟩
  case round =>
    obtain ⟨k, hk, rfl, hall, hb⟩ := hrel
    by_cases hlt : k < s.length
    · obtain ⟨b, off, cap', he, _, _, hbB, d0, d1, d2⟩ := Acts.at_ (Rd.below hr hb) hlt
      cases he
      by_cases hok : actOk s[k]
      · have HO := Lib.hid hok
        obtain ⟨⟨o1, o2⟩, ⟨o3, o4⟩, o5, o6⟩ := hok
        generalize s[k].1 = tx at *
        generalize s[k].2.1 = it at *
        generalize s[k].2.2 = wt at *
        clear hr
        go_wp2_with (go_at_call 57; refine (within_yes _ _ _ _ (by omega) (by omega)).mono ?_; rintro e w' ⟨rfl, rfl⟩)
        go_roundw
        case rel => exact ⟨k + 1, by omega, by go_num, Lib.hid (fun j hj h => by
            by_cases hjk : j < k
            · exact hall.out j hj hjk
            · obtain rfl : j = k := by omega
              exact HO.out), by have := hb.size; exact hb.alloc (by omega) _⟩
        case measure => simp [intOf]; omega
      · have hB2 := hb.size
        unfold actOk at hok
        clear hall hr
        generalize s[k].1 = tx at *
        generalize s[k].2.1 = it at *
        generalize s[k].2.2 = wt at *
        by_cases h1 : 0 ≤ tx ∧ tx ≤ 4
        · by_cases h2 : 0 ≤ it ∧ it ≤ 3
          · have h3 : ¬ (0 ≤ wt ∧ wt ≤ 1) := fun h => hok ⟨h1, h2, h⟩
            have H3 := Lib.hid h3
            obtain ⟨o1, o2⟩ := h1
            obtain ⟨o3, o4⟩ := h2
            clear h3 hok
            go_wp2_with (go_at_call 57; first | (refine (within_yes _ _ _ _ (by omega) (by omega)).mono ?_; rintro e w' ⟨rfl, rfl⟩) | (refine (within_no _ _ _ _ H3.out).mono ?_; rintro e w' ⟨rfl, rfl⟩))
            go_ret
            exact ⟨rfl, hb.alloc (by omega) _⟩
          · have H2 := Lib.hid h2
            obtain ⟨o1, o2⟩ := h1
            clear h2 hok
            go_wp2_with (go_at_call 57; first | (refine (within_yes _ _ _ _ (by omega) (by omega)).mono ?_; rintro e w' ⟨rfl, rfl⟩) | (refine (within_no _ _ _ _ H2.out).mono ?_; rintro e w' ⟨rfl, rfl⟩))
            go_ret
            exact ⟨rfl, hb.alloc (by omega) _⟩
        · have H1 := Lib.hid h1
          clear h1 hok
          go_wp2_with (go_at_call 57; refine (within_no _ _ _ _ H1.out).mono ?_; rintro e w' ⟨rfl, rfl⟩)
          go_ret
          exact ⟨rfl, hb.alloc (by omega) _⟩
    · exact absurd (fun a ha => by
        obtain ⟨j, hj, rfl⟩ := List.mem_iff_getElem.1 ha
        exact hall.out j hj (by omega)) HB.out

theorem check_full (s : List Act3) (v : Value) (w : World) (hr : Acts w w.heap.size v s) (hlen : 24 < s.length) :
    Calls Tryd.prog 46 #[v] w fun e w' => e = .returned (.iface 93 (.int .i64 4)) ∧ Below w.heap.size w w' := by
  obtain ⟨A, cap, rfl⟩ := Rd.val hr
  go_enter Tryd.func46, Tryd.ntmps46
  go_wp2
  go_ret
  exact ⟨rfl, Below.refl _ _⟩

/-- Check at every schedule -/
theorem check_calls (s : List Act3) (v : Value) (w : World) (hr : Acts w w.heap.size v s) (hne : actsCode s ≠ 0) :
    Calls Tryd.prog 46 #[v] w fun e w' => e = .returned (.iface 93 (nv (actsCode s))) ∧ Below w.heap.size w w' := by
  unfold actsCode at hne ⊢
  by_cases h : 24 < s.length
  · rw [if_pos h] at hne ⊢; exact check_full s v w hr h
  · rw [if_neg h] at hne ⊢
    by_cases hok : ∀ a ∈ s, actOk a
    · rw [if_pos hok] at hne; exact absurd rfl hne
    · rw [if_neg hok]; exact check_bad s v w hr (by omega) hok
theorem actsCode_zero {s : List Act3} (h : actsCode s = 0) : s.length ≤ 24 ∧ ∀ a ∈ s, actOk a := by
  unfold actsCode at h
  by_cases h1 : 24 < s.length
  · rw [if_pos h1] at h; cases h
  · rw [if_neg h1] at h
    by_cases hok : ∀ a ∈ s, actOk a
    · exact ⟨by omega, hok⟩
    · rw [if_neg hok] at h; cases h

/-- rows of three ints are acts -/
theorem acts_of_recs {w : World} {B : Nat} {v : Value} {recs : List (List Int)} (hr : Rd w B 3 v recs.length (recs.flatMap fun r => r.map iv)) (hl : ∀ r ∈ recs, r.length = 3) :
    ∃ s : List Act3, Acts w B v s := by
  have h : ∃ s : List Act3, s.length = recs.length ∧ acells s = recs.flatMap fun r => r.map iv := by
    clear hr
    induction recs with
    | nil => exact ⟨[], rfl, rfl⟩
    | cons r recs ih =>
      obtain ⟨s, h1, h2⟩ := ih (fun r' h' => hl r' (List.mem_cons_of_mem _ h'))
      have h3 := hl r (List.mem_cons_self ..)
      match r, h3 with
      | [a, b, c], _ => exact ⟨(a, b, c) :: s, by simp [h1], by rw [List.flatMap_cons, ← h2]; rfl⟩
  obtain ⟨s, h1, h2⟩ := h
  refine ⟨s, ?_⟩
  unfold Acts
  rw [h1, h2]
  exact hr

end Go.Proofs.YtkindaadadggoaaDoor
