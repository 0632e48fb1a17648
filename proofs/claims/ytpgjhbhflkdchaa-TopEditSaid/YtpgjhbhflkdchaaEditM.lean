/- Putting in bytes: a text with a byte put in at a place; two that are put in, the later one's place turned over the earlier one's, may change places. Conditions: each law's own premises. -/
import Derived.WalkKit
namespace Go.Proofs.Ytpgjhbhflkdchaa
namespace Edm

/-- a byte put in at a place -/
def ins (s : ByteArray) (p : Nat) (x : UInt8) : ByteArray := s.extract 0 p ++ (ByteArray.mk #[x]) ++ s.extract p s.size

/-- a place, turned over another one -/
def sh (e o : Nat) : Nat := if o < e then e + 1 else e

def insL (l : List UInt8) (p : Nat) (x : UInt8) : List UInt8 := l.take p ++ [x] ++ l.drop p

theorem ext_list {s t : ByteArray} (h : s.data.toList = t.data.toList) : s = t := by
  cases s; cases t
  simp only [ByteArray.mk.injEq]
  exact Array.toList_inj.1 h

theorem size_list (s : ByteArray) : s.size = s.data.toList.length := by rw [Array.length_toList]; rfl

theorem ins_list (s : ByteArray) (p : Nat) (x : UInt8) : (ins s p x).data.toList = insL s.data.toList p x := by
  unfold ins insL
  simp only [ByteArray.data_append, Array.toList_append, ByteArray.data_extract, Array.toList_extract, List.extract_eq_take_drop]
  rw [size_list, List.take_of_length_le (by simp : (List.drop p s.data.toList).length ≤ _)]
  simp

theorem insL_length (l : List UInt8) (p : Nat) (x : UInt8) : (insL l p x).length = l.length + 1 := by
  unfold insL; simp only [List.length_append, List.length_take, List.length_drop, List.length_cons, List.length_nil]; omega

theorem ins_size (s : ByteArray) (p : Nat) (x : UInt8) : (ins s p x).size = s.size + 1 := by
  rw [size_list, size_list s, ins_list, insL_length]

/-- the one ahead is put in first, or last -/
theorem insL_swap (x y : UInt8) : ∀ (p q : Nat) (l : List UInt8), p < q → q ≤ l.length → insL (insL l p x) (q + 1) y = insL (insL l q y) p x
  | 0, q, l, _, _ => by simp [insL]
  | p + 1, 0, l, h, _ => by omega
  | p + 1, q + 1, [], _, h => by simp at h
  | p + 1, q + 1, c :: l, h, h' => by
    have := insL_swap x y p q l (by omega) (by simpa using h')
    simpa [insL] using this

theorem swap (s : ByteArray) (p q : Nat) (x y : UInt8) (h : p ≠ q) (hp : p ≤ s.size) (hq : q ≤ s.size) : ins (ins s p x) (sh q p) y = ins (ins s q y) (sh p q) x := by
  have h' := size_list s
  apply ext_list
  simp only [ins_list]
  unfold sh
  by_cases hlt : p < q
  · rw [if_pos hlt, if_neg (by omega)]
    exact insL_swap _ _ _ _ _ hlt (by omega)
  · rw [if_neg hlt, if_pos (by omega)]
    exact (insL_swap _ _ _ _ _ (by omega) (by omega)).symm

def three (s : ByteArray) (a b c : Nat) (x y z : UInt8) : ByteArray := ins (ins (ins s a x) (sh b a) y) (sh (sh c a) (sh b a)) z

theorem three_first (s : ByteArray) (a b c : Nat) (x y z : UInt8) (hab : a ≠ b) (ha : a ≤ s.size) (hb : b ≤ s.size) : three s a b c x y z = three s b a c y x z := by
  unfold three
  rw [swap s a b x y hab ha hb, show sh (sh c a) (sh b a) = sh (sh c b) (sh a b) by unfold sh; repeat (first | split | omega)]

theorem three_last (s : ByteArray) (a b c : Nat) (x y z : UInt8) (hbc : b ≠ c) (hb : b ≤ s.size) (hc : c ≤ s.size) : three s a b c x y z = three s a c b x z y := by
  unfold three
  exact swap _ _ _ _ _ (by unfold sh; repeat (first | split | omega)) (by rw [ins_size]; unfold sh; split <;> omega) (by rw [ins_size]; unfold sh; split <;> omega)

theorem three_turned (s : ByteArray) (a b c : Nat) (x y z : UInt8) (hab : a ≠ b) (hac : a ≠ c) (hbc : b ≠ c) (ha : a ≤ s.size) (hb : b ≤ s.size) (hc : c ≤ s.size) :
    three s c b a z y x = three s a b c x y z ∧ three s b c a y z x = three s a b c x y z := by
  have h2 : three s b c a y z x = three s a b c x y z := by rw [three_last s b c a y z x hac.symm hc ha, three_first s b a c y x z hab.symm hb ha]
  exact ⟨by rw [three_first s c b a z y x hbc.symm hc hb, h2], h2⟩
end Edm
end Go.Proofs.Ytpgjhbhflkdchaa
