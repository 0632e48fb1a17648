/- Contracts of package sched's Edges (at every schedule) and Serial. Conditions: each contract's own premises. -/
import Derived.Test.YtkindaadadggoaaEdges
import Derived.Test.YtkindaadadggoaaRow
namespace Go.Proofs.Ytkindaadadggoaa
open Go.RowKit

theorem edges_err (s : List Act3) (v : Value) (w : World) (hr : Acts w w.heap.size v s) (hne : actsCode s ≠ 0) :
    Calls Try.prog 8 #[v] w fun e w' => e = .returned (.tuple #[.slice none 0 0, .iface 58 (nv (actsCode s))]) ∧ Below w.heap.size w w' := by
  have hchk := Lib.hid (check_calls s v w hr hne)
  clear hne hr
  go_enter Try.func8, Try.ntmps8
  go_wp2_with fail
  refine hchk.out.mono ?_
  rintro e w1 ⟨rfl, hb1⟩
  clear hchk
  go_wp2_with fail
  go_ret2
  exact ⟨rfl, hb1⟩

theorem serial_err (s : List Act3) (v : Value) (w : World) (hr : Acts w w.heap.size v s) (hne : actsCode s ≠ 0) :
    Calls Try.prog 10 #[v] w fun e w' => e = .returned (.tuple #[.bool false, .slice none 0 0, .iface 58 (nv (actsCode s))]) ∧ Below w.heap.size w w' := by
  have hchk := Lib.hid (edges_err s v w hr hne)
  clear hne hr
  go_enter Try.func10, Try.ntmps10
  go_wp2_with fail
  refine hchk.out.mono ?_
  rintro e w1 ⟨rfl, hb1⟩
  clear hchk
  go_wp2_with fail
  go_ret3
  exact ⟨rfl, hb1⟩

theorem serial_ok (t : List Sch.N3) (v : Value) (w : World) (hr : Acts w w.heap.size v (Sch.zacts t)) (hlen : t.length ≤ 24) (hok : ∀ a ∈ t, Sch.Ok3 a) :
    Calls Try.prog 10 #[v] w fun e w' => Below w.heap.size w w' ∧
      ((Rw.row (Sch.edges t) = none ∧ e = .returned (.tuple #[.bool false, .slice none 0 0, .nilIface])) ∨
        ∃ out v', Rw.row (Sch.edges t) = some out ∧ e = .returned (.tuple #[.bool true, v', .nilIface]) ∧ Own w' w.heap.size v' (zs out)) := by
  have hchk := Lib.hid (edges_ok t v w hr hlen hok)
  have hfit := Lib.hid (Sch.fits_edges hok)
  clear hok hr
  go_enter Try.func10, Try.ntmps10
  go_wp2_with fail
  refine hchk.out.mono ?_
  rintro e w1 ⟨v1, rfl, hown, hb1⟩
  have hrow := Lib.hid (row_calls (Sch.edges t) v1 w1.heap.size w1 (Nat.le_refl _) hown.ints (by rw [Sch.length_edges]; decide) hfit.out)
  clear hchk
  go_wp2_with fail
  refine hrow.out.mono ?_
  rintro e w2 ⟨hb2, ⟨hn, rfl⟩ | ⟨out, v', hs, rfl, hown2⟩⟩
  · have HN := Lib.hid hn
    clear hn hrow
    go_wp2_with fail
    go_ret3
    exact ⟨hb1.trans (hb2.mono hb1.size), .inl ⟨HN.out, rfl⟩⟩
  · have HS := Lib.hid hs
    clear hs hrow
    go_wp2_with fail
    go_ret3
    exact ⟨hb1.trans (hb2.mono hb1.size), .inr ⟨out, v', HS.out, rfl, hown2.lower hb1.size⟩⟩

def lostT : List Sch.N3 := [(0, 0, 0), (1, 0, 0), (0, 0, 1), (1, 0, 1)]
theorem lost_calls (w : World) : Calls Try.prog 22 #[] w fun e w' => e = .returned (.slice (some ⟨w.heap.size, 0, none⟩) 4 4) ∧ Below w.heap.size w w' ∧
    Acts w' w'.heap.size (.slice (some ⟨w.heap.size, 0, none⟩) 4 4) (Sch.zacts lostT) ∧ Acts w' w'.heap.size (.slice (some ⟨w.heap.size, 0, none⟩) 2 4) (Sch.zacts (lostT.take 2)) := by
  go_enter Try.func22, Try.ntmps22
  go_wp2
  go_ret
  have h := Rd.lit w (acells (Sch.zacts lostT)).toArray 30 3 4 4 rfl (by omega) (by decide)
  refine ⟨rfl, by go_grown, ?_, ?_⟩
  · unfold Acts
    have := h.more (B' := (w.alloc (.cells (acells (Sch.zacts lostT)).toArray 30)).heap.size) (by simp)
    exact this
  · unfold Acts
    have := (h.take (k := 2) (by omega)).more (B' := (w.alloc (.cells (acells (Sch.zacts lostT)).toArray 30)).heap.size) (by simp)
    exact this

set_option maxHeartbeats 400000 in
theorem schedFact_calls (w : World) : Calls Try.prog 7 #[] w fun e w' => e = .returned (.bool true) ∧ Below w.heap.size w w' := by
  go_enter Try.func7, Try.ntmps7
  go_wp2_with fail
  refine (lost_calls _).mono ?_
  rintro e w1 ⟨rfl, hb1, ha, -⟩
  have h1 := Lib.hid (serial_ok lostT _ w1 ha (by decide) (by decide))
  clear ha
  go_wp2_with fail
  refine h1.out.mono ?_
  rintro e w2 ⟨hb2, ⟨-, rfl⟩ | ⟨out, v', hs, -⟩⟩
  · clear h1
    have hb12 := hb1.trans (hb2.mono hb1.size)
    clear hb1 hb2
    go_wp2_with fail
    refine (lost_calls _).mono ?_
    rintro e w3 ⟨rfl, hb3, -, ha⟩
    have h2 := Lib.hid (serial_ok (lostT.take 2) _ w3 ha (by decide) (by decide))
    clear ha
    go_wp2_with fail
    refine h2.out.mono ?_
    rintro e w4 ⟨hb4, ⟨hn, -⟩ | ⟨out, v', hs, rfl, hown⟩⟩
    · exact absurd hn (by decide)
    · have ho : out = [0, 1, 2, 3, 4] := by
        have : Rw.row (Sch.edges (lostT.take 2)) = some [0, 1, 2, 3, 4] := by decide
        rw [this] at hs; injection hs with hs; exact hs.symm
      subst ho
      clear h2 hs
      have hb := hb12.trans ((hb3.trans (hb4.mono hb3.size)).mono hb12.size)
      clear hb12 hb3
      go_wp2_with fail
      have hi := (hown.alloc (.cells #[iv 0, iv 1, iv 2, iv 3, iv 4] 3)).ints
      have hl := Ints.lit w4 [0, 1, 2, 3, 4] 3 (by decide)
      rw [World.size_alloc] at hi
      refine (ints_calls _ _ _ _ (w4.heap.size + 1) _ (by simp) hi hl).mono ?_
      rintro e w5 ⟨rfl, hb5⟩
      have hb5' := (hb.alloc hb.size _).trans (hb5.mono (by have := hb.size; simp; omega))
      clear hi hl hb5 hb hown hb4
      go_wp2_with fail
      go_ret
      exact ⟨rfl, hb5'⟩
  · rw [show Rw.row (Sch.edges lostT) = none from by decide] at hs
    cases hs
end Go.Proofs.Ytkindaadadggoaa
