/- Three edits: when all can be done, and what is left, is the same in any order. Conditions: each law's own premises. -/
import Derived.Test.YtpgjhbhflkdchaaThree
namespace Go.Proofs.Ytpgjhbhflkdchaa
open Go.RowKit

/-- all three edits may be done, whatever their order -/
def Good (s : ByteArray) (a0 a1 a2 b0 b1 b2 c0 c1 c2 : Int) : Prop := edOk a0 a1 a2 ∧ edOk b0 b1 b2 ∧ edOk c0 c1 c2 ∧ a2 ≠ b2 ∧ a2 ≠ c2 ∧ b2 ≠ c2 ∧ a0 ≤ s.size ∧ b0 ≤ s.size ∧ c0 ≤ s.size
instance (s : ByteArray) (a0 a1 a2 b0 b1 b2 c0 c1 c2 : Int) : Decidable (Good s a0 a1 a2 b0 b1 b2 c0 c1 c2) := by unfold Good; infer_instance

theorem good3_iff (s : ByteArray) (a0 a1 a2 b0 b1 b2 c0 c1 c2 : Int) (hs : s.size ≤ 50) :
    good3 s a0 a1 a2 b0 b1 b2 c0 c1 c2 ↔ Good s a0 a1 a2 b0 b1 b2 c0 c1 c2 := by
  unfold good3 Good turnOk edOk shz
  by_cases h1 : a0 < b0
  · by_cases h2 : a0 < c0
    · by_cases h3 : b0 + 1 < c0 + 1
      · simp only [if_pos h1, if_pos h2, if_pos h3]; omega
      · simp only [if_pos h1, if_pos h2, if_neg h3]; omega
    · by_cases h3 : b0 + 1 < c0 + 0
      · simp only [if_pos h1, if_neg h2, if_pos h3]; omega
      · simp only [if_pos h1, if_neg h2, if_neg h3]; omega
  · by_cases h2 : a0 < c0
    · by_cases h3 : b0 + 0 < c0 + 1
      · simp only [if_neg h1, if_pos h2, if_pos h3]; omega
      · simp only [if_neg h1, if_pos h2, if_neg h3]; omega
    · by_cases h3 : b0 + 0 < c0 + 0
      · simp only [if_neg h1, if_neg h2, if_pos h3]; omega
      · simp only [if_neg h1, if_neg h2, if_neg h3]; omega

theorem shz_nat (e o : Int) (he : 0 ≤ e) (ho : 0 ≤ o) : (shz e o).toNat = Edm.sh e.toNat o.toNat := by
  unfold shz Edm.sh
  by_cases h : o < e
  · rw [if_pos h, if_pos (by omega)]; omega
  · rw [if_neg h, if_neg (by omega)]; omega
theorem shz_nn (e o : Int) (he : 0 ≤ e) : 0 ≤ shz e o := by unfold shz; split <;> omega

/-- what is left -/
def resOf (s : ByteArray) (a0 a1 a2 b0 b1 b2 c0 c1 c2 : Int) : ByteArray :=
  if Good s a0 a1 a2 b0 b1 b2 c0 c1 c2 then Edm.three s a0.toNat b0.toNat c0.toNat (byteOf a1) (byteOf b1) (byteOf c1) else ⟨#[]⟩

theorem ThreePost.is {s : ByteArray} {a0 a1 a2 b0 b1 b2 c0 c1 c2 : Int} {e : Ending} (h : ThreePost s a0 a1 a2 b0 b1 b2 c0 c1 c2 e) (hs : s.size ≤ 50) :
    e = .returned (.tuple #[.string (resOf s a0 a1 a2 b0 b1 b2 c0 c1 c2), .bool (decide (Good s a0 a1 a2 b0 b1 b2 c0 c1 c2))]) := by
  obtain ⟨t, ok, rfl, ⟨hg, rfl, rfl⟩ | ⟨hg, rfl, rfl⟩⟩ := h
  · have hG := (good3_iff s a0 a1 a2 b0 b1 b2 c0 c1 c2 hs).1 hg
    have ha := hG.1.1.1
    have hb := hG.2.1.1.1
    have hc := hG.2.2.1.1.1
    unfold resOf Edm.three
    rw [if_pos hG, decide_eq_true hG, shz_nat _ _ (shz_nn c0 a0 hc) (shz_nn b0 a0 hb), shz_nat _ _ hc ha, shz_nat _ _ hb ha]
  · have hG : ¬ Good s a0 a1 a2 b0 b1 b2 c0 c1 c2 := fun h => hg ((good3_iff s a0 a1 a2 b0 b1 b2 c0 c1 c2 hs).2 h)
    unfold resOf
    rw [if_neg hG, decide_eq_false hG]

theorem good_turned (s : ByteArray) (a0 a1 a2 b0 b1 b2 c0 c1 c2 : Int) :
    (Good s c0 c1 c2 b0 b1 b2 a0 a1 a2 ↔ Good s a0 a1 a2 b0 b1 b2 c0 c1 c2) ∧ (Good s b0 b1 b2 c0 c1 c2 a0 a1 a2 ↔ Good s a0 a1 a2 b0 b1 b2 c0 c1 c2) := by
  unfold Good edOk
  constructor <;> omega

theorem res_turned (s : ByteArray) (a0 a1 a2 b0 b1 b2 c0 c1 c2 : Int) (hab : a0 ≠ b0) (hac : a0 ≠ c0) (hbc : b0 ≠ c0) :
    resOf s c0 c1 c2 b0 b1 b2 a0 a1 a2 = resOf s a0 a1 a2 b0 b1 b2 c0 c1 c2 ∧ resOf s b0 b1 b2 c0 c1 c2 a0 a1 a2 = resOf s a0 a1 a2 b0 b1 b2 c0 c1 c2 := by
  obtain ⟨g1, g2⟩ := good_turned s a0 a1 a2 b0 b1 b2 c0 c1 c2
  by_cases hG : Good s a0 a1 a2 b0 b1 b2 c0 c1 c2
  · have ha := hG.1.1.1
    have hb := hG.2.1.1.1
    have hc := hG.2.2.1.1.1
    have h3 := hG.2.2.2.2.2.2
    have h := Edm.three_turned s a0.toNat b0.toNat c0.toNat (byteOf a1) (byteOf b1) (byteOf c1) (by omega) (by omega) (by omega) (by omega) (by omega) (by omega)
    unfold resOf
    rw [if_pos hG, if_pos (g1.2 hG), if_pos (g2.2 hG)]
    exact h
  · unfold resOf
    rw [if_neg hG, if_neg (fun h => hG (g1.1 h)), if_neg (fun h => hG (g2.1 h))]
    exact ⟨rfl, rfl⟩
end Go.Proofs.Ytpgjhbhflkdchaa
