/- The lowest bit of a small number, as math/bits finds it: TrailingZeros64, TrailingZeros. Conditions: each contract's own premises (the library's table reads as it is written). -/
import Derived.Test.YtpicjikjinkkpaaDoorRow12
namespace Go.Proofs.YtpicjikjinkkpaaDoor
open Go.RowKit

/-- k is the lowest bit of x -/
def lowB (x k : Nat) : Bool := x.testBit k && (List.range k).all fun j => !x.testBit j

/-- the things of a set, rising -/
def bitsOf (s : Nat) : List Nat := (List.range 12).filter s.testBit

def lowAll (x : Nat) : Bool := (List.range 12).any fun k => lowB x k && decide (bits .and .u64 (x : Int) (IntKind.u64.wrap (-(x : Int))) = 2 ^ k) && decide (bits .and .u64 (x : Int) ((x : Int) - 1) = ((x - 2 ^ k : Nat) : Int)) && decide (bitsOf x = k :: bitsOf (x - 2 ^ k))
theorem lowAll_ok : ((List.range 4096).all fun x => x == 0 || lowAll x) = true := by decide +kernel

theorem low_spec (x : Nat) (h0 : 0 < x) (hx : x < 4096) : ∃ k, k < 12 ∧ lowB x k = true ∧ bits .and .u64 (x : Int) (IntKind.u64.wrap (-(x : Int))) = 2 ^ k ∧ bits .and .u64 (x : Int) ((x : Int) - 1) = ((x - 2 ^ k : Nat) : Int) ∧ bitsOf x = k :: bitsOf (x - 2 ^ k) := by
  have h := List.all_eq_true.1 lowAll_ok x (List.mem_range.2 hx)
  simp only [Bool.or_eq_true, beq_iff_eq] at h
  rcases h with h | h
  · omega
  · obtain ⟨k, hk, h⟩ := List.any_eq_true.1 h
    simp only [Bool.and_eq_true, decide_eq_true_eq] at h
    exact ⟨k, List.mem_range.1 hk, h.1.1.1, h.1.1.2, h.1.2, h.2⟩

/-- the places of the library's table that small numbers lead to -/
def tzIdx : List Nat := [0, 1, 3, 7, 15, 31, 63, 62, 61, 59, 55, 47]
/-- the library's table reads there as it is written -/
def Tab (w : World) : Prop := ∀ k, k < 12 → w.cell? ⟨2, tzIdx.getD k 0, none⟩ = some (.int .u8 (k : Int))
theorem Tab.below {w w' : World} (h : Tab w) (hb : Below w.heap.size w w') : Tab w' := fun k hk => by
  have h0 := h k hk
  rw [hb.cell (p := ⟨2, tzIdx.getD k 0, none⟩) (World.block_lt_of_cell? w _ h0)]
  exact h0

theorem Tab.keep {w w' : World} {n₀ : Nat} (h : Tab w) (hb : Below n₀ w w') (hn : 2 < n₀) : Tab w' := fun k hk => by
  rw [hb.cell (p := ⟨2, tzIdx.getD k 0, none⟩) hn]
  exact h k hk
theorem Tab.lt {w : World} (h : Tab w) : 2 < w.heap.size := World.block_lt_of_cell? w _ (h 0 (by decide))

theorem mem_bitsOf {s i : Nat} (hs : s < 4096) : i ∈ bitsOf s ↔ s.testBit i = true := by
  unfold bitsOf
  rw [List.mem_filter, List.mem_range]
  constructor
  · exact fun h => h.2
  · intro h
    refine ⟨?_, h⟩
    by_cases hi : i < 12
    · exact hi
    · rw [Odr.testBit_lt (n := 12) hs (by omega)] at h; cases h
theorem length_bitsOf (s : Nat) : (bitsOf s).length ≤ 12 := by
  unfold bitsOf
  have := List.length_filter_le s.testBit (List.range 12)
  simpa using this

set_option maxHeartbeats 1000000 in
theorem tz64_calls (x k : Nat) (w : World) (hT : Tab w) (h0 : 0 < x) (hk : k < 12) (hA : bits .and .u64 (x : Int) (IntKind.u64.wrap (-(x : Int))) = 2 ^ k) :
    Calls Tryd.prog 80 #[.int .u64 x] w fun e w' => e = .returned (nv k) ∧ w = w' := by
  have h0' : ((x : Int) == 0) = false := by simp; omega
  have hc := hT k hk
  have hk' : k = 0 ∨ k = 1 ∨ k = 2 ∨ k = 3 ∨ k = 4 ∨ k = 5 ∨ k = 6 ∨ k = 7 ∨ k = 8 ∨ k = 9 ∨ k = 10 ∨ k = 11 := by omega
  clear hT hk
  rcases hk' with rfl | rfl | rfl | rfl | rfl | rfl | rfl | rfl | rfl | rfl | rfl | rfl
  · simp [tzIdx] at hc hA
    go_enter Tryd.func80, Tryd.ntmps80
    go_wp2
    go_ret
    exact ⟨rfl, rfl⟩
  · simp [tzIdx] at hc hA
    go_enter Tryd.func80, Tryd.ntmps80
    go_wp2
    go_ret
    exact ⟨rfl, rfl⟩
  · simp [tzIdx] at hc hA
    go_enter Tryd.func80, Tryd.ntmps80
    go_wp2
    go_ret
    exact ⟨rfl, rfl⟩
  · simp [tzIdx] at hc hA
    go_enter Tryd.func80, Tryd.ntmps80
    go_wp2
    go_ret
    exact ⟨rfl, rfl⟩
  · simp [tzIdx] at hc hA
    go_enter Tryd.func80, Tryd.ntmps80
    go_wp2
    go_ret
    exact ⟨rfl, rfl⟩
  · simp [tzIdx] at hc hA
    go_enter Tryd.func80, Tryd.ntmps80
    go_wp2
    go_ret
    exact ⟨rfl, rfl⟩
  · simp [tzIdx] at hc hA
    go_enter Tryd.func80, Tryd.ntmps80
    go_wp2
    go_ret
    exact ⟨rfl, rfl⟩
  · simp [tzIdx] at hc hA
    have hw : IntKind.u64.wrap 36591387270573294720 = 18144643196863743104 := by decide
    go_enter Tryd.func80, Tryd.ntmps80
    go_wp2
    go_ret
    exact ⟨rfl, rfl⟩
  · simp [tzIdx] at hc hA
    have hw : IntKind.u64.wrap 73182774541146589440 = 17842542320017934592 := by decide
    go_enter Tryd.func80, Tryd.ntmps80
    go_wp2
    go_ret
    exact ⟨rfl, rfl⟩
  · simp [tzIdx] at hc hA
    have hw : IntKind.u64.wrap 146365549082293178880 = 17238340566326317568 := by decide
    go_enter Tryd.func80, Tryd.ntmps80
    go_wp2
    go_ret
    exact ⟨rfl, rfl⟩
  · simp [tzIdx] at hc hA
    have hw : IntKind.u64.wrap 292731098164586357760 = 16029937058943083520 := by decide
    go_enter Tryd.func80, Tryd.ntmps80
    go_wp2
    go_ret
    exact ⟨rfl, rfl⟩
  · simp [tzIdx] at hc hA
    have hw : IntKind.u64.wrap 585462196329172715520 = 13613130044176615424 := by decide
    go_enter Tryd.func80, Tryd.ntmps80
    go_wp2
    go_ret
    exact ⟨rfl, rfl⟩

theorem tz_calls (x k : Nat) (w : World) (hT : Tab w) (h0 : 0 < x) (hk : k < 12) (hA : bits .and .u64 (x : Int) (IntKind.u64.wrap (-(x : Int))) = 2 ^ k) :
    Calls Tryd.prog 76 #[.int .u64 x] w fun e w' => e = .returned (nv k) ∧ w = w' := by
  have hc := Lib.hid (tz64_calls x k w hT h0 hk hA)
  clear hT hA
  go_enter Tryd.func76, Tryd.ntmps76
  go_wp2_with fail
  refine hc.out.mono ?_
  rintro e w' ⟨rfl, rfl⟩
  clear hc
  go_wp2_with fail
  go_ret
  exact ⟨rfl, rfl⟩

end Go.Proofs.YtpicjikjinkkpaaDoor
