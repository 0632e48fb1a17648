/- Package edit: an edit that puts in a byte, applied. Conditions: each contract's own premises. -/
import Derived.Test.YtpgjhbhflkdchaaEdit
import Derived.Laws.BytesString
import Derived.Laws.Concat
import Derived.Laws.IdiomStrings
import Derived.Deep.RegionHeld3
namespace Go.Proofs.Ytpgjhbhflkdchaa
open Go.RowKit

set_option maxHeartbeats 4000000 in
theorem apply_ok (s : ByteArray) (a b c : Int) (w : World) (h : edOk a b c) (hb : 0 ≤ b) (hs : s.size < 60) (ha : a ≤ s.size) :
    Calls Try.prog 4 #[.string s, ev a b c] w fun e w' => e = .returned (.tuple #[.string (Edm.ins s a.toNat (UInt8.ofNat b.toNat)), .nilIface]) ∧ Below w.heap.size w w' := by
  obtain ⟨⟨a1, a2⟩, ⟨_, b2⟩, _⟩ := id h
  have H := fun w => Lib.hid (echeck_ok a b c w h)
  clear h
  have e4 : (b == -2) = false := by simp; omega
  have e5 : (b == -1) = false := by simp; omega
  obtain ⟨N, hN⟩ : ∃ N : Nat, N = s.size := ⟨_, rfl⟩
  have e6 : decide ((s.size : Int) < a) = false := by simp; omega
  have e7 : ((s.size : Int) == 60) = false := by simp; omega
  have e8 : decide (60 < (s.size : Int)) = false := by simp; omega
  go_enter Try.func4, Try.ntmps4
  go_wp2_with fail
  obtain ⟨wa, hwa, sa, ba, ka⟩ := box3 w a b c
  rw [hwa]
  obtain ⟨B, hB⟩ : ∃ B, B = w.heap.size := ⟨_, rfl⟩
  rw [← hB] at sa ka ba ⊢
  refine (H _).out.mono ?_
  rintro e w1 ⟨rfl, hb1⟩
  have ka' : At3 wa B a b c := ⟨⟨ka.1, ka.2.1, ka.2.2.1⟩, ka.2.2.2⟩
  obtain ⟨⟨x1, x2, x3⟩, x4, x5, x6⟩ := ka'.below hb1 (by omega)
  have bw1 : Below B w w1 := ba.trans (hb1.mono (by omega))
  have hBl : B < w1.heap.size := by have := hb1.size; omega
  have HB := Lib.hid hB
  clear ka ka' hwa hB sa ba hb1
  have hback : (convert 33 9 (.slice (some ⟨w1.heap.size, 0, none⟩) 1 1)).run Try.prog (w1.alloc (.cells #[.int .u8 (IntKind.u8.wrap b)] 5)).drew = .ok (.string ⟨#[UInt8.ofNat b.toNat]⟩) (w1.alloc (.cells #[.int .u8 (IntKind.u8.wrap b)] 5)).drew :=
    run_convert_bytes_back _ 33 9 5 ⟨w1.heap.size, 0, none⟩ 1 [UInt8.ofNat b.toNat] Try.underlying33 Try.underlying5 Try.underlying9 (by
      intro j hj
      obtain rfl : j = 0 := by simpa using hj
      have hu : IntKind.u8.wrap b = b := by rw [IntKind.wrap_u8]; omega
      have hn : (UInt8.ofNat b.toNat).toNat = b.toNat := by simp; omega
      rw [List.getElem_cons_zero, hn, hu]
      simp [Addr.add]
      omega)
  go_wp2_with fail
  have hz1 : (s.extract 0 a.toNat).size = a.toNat := by simp [ByteArray.size_extract]; omega
  have hz2 : (s.extract a.toNat s.size).size = s.size - a.toNat := by simp [ByteArray.size_extract]
  have hz3 : ¬ (9223372036854775807 < a.toNat + 1) := by omega
  have hz4 : ¬ (9223372036854775807 < a.toNat + 1 + (s.size - a.toNat)) := by omega
  have hx1 : (w1.alloc (.cells #[.int .u8 b] 5)).drew.cell? ⟨B, 0, none⟩ = some (.int .i64 a) := ((((Below.refl _ w1).alloc (Nat.le_refl _) _).drew).cell (p := ⟨B, 0, none⟩) hBl).trans x1
  have hx2 : (w1.alloc (.cells #[.int .u8 b] 5)).drew.cell? ⟨B, 1, none⟩ = some (.int .i64 b) := ((((Below.refl _ w1).alloc (Nat.le_refl _) _).drew).cell (p := ⟨B, 1, none⟩) hBl).trans x2
  go_region_with (fail)
  all_goals
    go_wp2_with fail
    go_ret2
    exact ⟨rfl, by rw [← HB.out]; exact (bw1.alloc (by omega) _).drew⟩

theorem apply_no (s : ByteArray) (a b c : Int) (w : World) (h : edOk a b c) (hb : 0 ≤ b) (hs : s.size < 60) (ha : s.size < a) :
    Calls Try.prog 4 #[.string s, ev a b c] w fun e w' => e = .returned (.tuple #[.string ⟨#[]⟩, ec 5]) ∧ Below w.heap.size w w' := by
  obtain ⟨⟨a1, a2⟩, ⟨_, b2⟩, _⟩ := id h
  have H := fun w => Lib.hid (echeck_ok a b c w h)
  clear h
  have e4 : (b == -2) = false := by simp; omega
  have e5 : (b == -1) = false := by simp; omega
  have e6 : decide ((s.size : Int) < a) = true := by simp; omega
  have e8 : decide (60 < (s.size : Int)) = false := by simp; omega
  go_enter Try.func4, Try.ntmps4
  go_wp2_with fail
  obtain ⟨wa, hwa, sa, ba, ka⟩ := box3 w a b c
  rw [hwa]
  obtain ⟨B, hB⟩ : ∃ B, B = w.heap.size := ⟨_, rfl⟩
  rw [← hB] at sa ka ba ⊢
  refine (H _).out.mono ?_
  rintro e w1 ⟨rfl, hb1⟩
  have ka' : At3 wa B a b c := ⟨⟨ka.1, ka.2.1, ka.2.2.1⟩, ka.2.2.2⟩
  obtain ⟨⟨x1, x2, x3⟩, x4, x5, x6⟩ := ka'.below hb1 (by omega)
  have bw1 : Below B w w1 := ba.trans (hb1.mono (by omega))
  have HB := Lib.hid hB
  clear ka ka' hwa hB sa ba hb1
  go_wp2_with fail
  go_ret2
  exact ⟨rfl, by rw [← HB.out]; exact bw1⟩
end Go.Proofs.Ytpgjhbhflkdchaa
