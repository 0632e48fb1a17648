/- The statement's own 'good': is a row one in which each reads what was written last, and which keeps what must stand ahead? Conditions: the contract's own premises. -/
import Derived.Test.YtjmjifcaobkobaaDoorHRow
namespace Go.Proofs.YtjmjifcaobkobaaDoor
open Go.RowKit His

/-- may op i be done next? -/
def gok (all : Bool) (h : List N6) (i : Int) (s : Nat) (v : List Nat) : Bool := decide (0 ≤ i) && (decide (i < h.length) && okStep h (pres all h) s v i.toNat)
def goodRun (all : Bool) (h : List N6) : List Int → Nat → List Nat → Bool
  | [], _, _ => true
  | i :: l, s, v => gok all h i s v && goodRun all h l (s ||| 2 ^ i.toNat) (after h v i.toNat)
def goodB (all : Bool) (h : List N6) (row : List Int) : Bool := decide (row.length = h.length) && goodRun all h row 0 [0, 0, 0]
theorem goodRun_iff {all : Bool} {h : List N6} : ∀ (row : List Int) (s : Nat) (v : List Nat), goodRun all h row s v = true ↔ ∃ l : List Nat, row = zs l ∧ GoodFrom h (pres all h) l s v := by
  intro row
  induction row with
  | nil => intro s v; exact ⟨fun _ => ⟨[], rfl, trivial⟩, fun _ => rfl⟩
  | cons i row ih =>
    intro s v
    rw [goodRun, Bool.and_eq_true, ih]
    unfold gok
    constructor
    · rintro ⟨h1, l, rfl, h2⟩
      simp only [Bool.and_eq_true, decide_eq_true_eq] at h1
      refine ⟨i.toNat :: l, ?_, by omega, h1.2.2, h2⟩
      show i :: zs l = ((i.toNat : Nat) : Int) :: zs l
      rw [Int.toNat_of_nonneg h1.1]
    · rintro ⟨l, hl, hg⟩
      match l, hl, hg with
      | k :: l, hl, hg =>
        have e : zs (k :: l) = (k : Int) :: zs l := rfl
        rw [e] at hl
        injection hl with h1 h2
        subst h1
        obtain ⟨g1, g2, g3⟩ := hg
        refine ⟨?_, l, h2, by simpa using g3⟩
        simp only [Bool.and_eq_true, decide_eq_true_eq, Int.toNat_natCast]
        exact ⟨by omega, by omega, g2⟩
theorem goodB_iff {all : Bool} {h : List N6} {row : List Int} : goodB all h row = true ↔ ∃ l : List Nat, row = zs l ∧ l.length = h.length ∧ GoodFrom h (pres all h) l 0 [0, 0, 0] := by
  unfold goodB
  rw [Bool.and_eq_true, goodRun_iff]
  constructor
  · rintro ⟨h1, l, rfl, h2⟩
    exact ⟨l, rfl, by simpa using h1, h2⟩
  · rintro ⟨l, rfl, h1, h2⟩
    exact ⟨by simpa using h1, l, rfl, h2⟩
theorem goodRun_no {all : Bool} {h : List N6} {i : Int} {l : List Int} {s : Nat} {v : List Nat} (hi : gok all h i s v = false) : goodRun all h (i :: l) s v = false := by rw [goodRun, hi]; rfl
theorem goodRun_go {all : Bool} {h : List N6} {i : Int} {l : List Int} {s : Nat} {v : List Nat} (hi : gok all h i s v = true) : goodRun all h (i :: l) s v = goodRun all h l (s ||| 2 ^ i.toNat) (after h v i.toNat) := by rw [goodRun, hi]; rfl
theorem gok_step {all : Bool} {h : List N6} {k s : Nat} {v : List Nat} (hk : k < h.length) : gok all h (k : Int) s v = okStep h (pres all h) s v k := by
  unfold gok
  have : decide ((k : Int) < (h.length : Int)) = true := by simp; omega
  simp [hk]
/-- an op that must stand ahead does not -/
theorem ok_behind {all : Bool} {h : List N6} {k j s : Nat} {v : List Nat} (hk : k < h.length) (hj : j < h.length) (ha : aheadB all (opAt h j) (opAt h k) = true) (hs : s.testBit j = false) : okStep h (pres all h) s v k = false := by
  cases e : okStep h (pres all h) s v k with
  | false => rfl
  | true =>
    have := (okStep_iff.1 e).2.1 j (by rw [pres_bit, ha]; simp [hk, hj])
    rw [hs] at this; cases this
theorem ok_value {all : Bool} {h : List N6} {k s : Nat} {v : List Nat} (h1 : His.wr (opAt h k) = 0) (h2 : v.getD (ob (opAt h k)) 0 ≠ vl (opAt h k)) : okStep h (pres all h) s v k = false := by
  cases e : okStep h (pres all h) s v k with
  | false => rfl
  | true =>
    rcases (okStep_iff.1 e).2.2 with g | g
    · rw [h1] at g; cases g
    · exact absurd g h2
theorem ok_all {all : Bool} {h : List N6} {k s : Nat} {v : List Nat} (h1 : s.testBit k = false) (h2 : ∀ j, j < h.length → aheadB all (opAt h j) (opAt h k) = true → s.testBit j = true) (h3 : His.wr (opAt h k) = 1 ∨ v.getD (ob (opAt h k)) 0 = vl (opAt h k)) : okStep h (pres all h) s v k = true :=
  okStep_iff.2 ⟨h1, fun j hj => by
    rw [pres_bit] at hj
    simp only [Bool.and_eq_true, decide_eq_true_eq] at hj
    exact h2 j hj.2.1 hj.2.2, h3⟩
theorem and_add_or (a b : Nat) : (a &&& b) + (a ||| b) = a + b := by
  induction a using Nat.strongRecOn generalizing b with
  | ind a ih =>
    by_cases h0 : a = 0
    · subst h0; simp
    · have := ih (a / 2) (by omega) (b / 2)
      have e1 : (a &&& b) / 2 = a / 2 &&& b / 2 := Nat.and_div_two
      have e2 : (a ||| b) / 2 = a / 2 ||| b / 2 := Nat.or_div_two
      have m1 : (a &&& b) % 2 = 1 ↔ a % 2 = 1 ∧ b % 2 = 1 := Nat.and_mod_two_eq_one
      have m2 : (a ||| b) % 2 = 1 ↔ a % 2 = 1 ∨ b % 2 = 1 := Nat.or_mod_two_eq_one
      omega
theorem or_bit {s i : Nat} (h : s.testBit i = false) : s ||| 2 ^ i = s + 2 ^ i := by
  have h0 : s &&& 2 ^ i = 0 := by
    apply Nat.eq_of_testBit_eq
    intro k
    rw [Nat.testBit_and, Nat.zero_testBit, Nat.testBit_two_pow]
    by_cases hk : i = k
    · subst hk; simp [h]
    · simp [hk]
  have := and_add_or s (2 ^ i)
  omega

theorem bitH (s i : Nat) (w : World) (hs : s < 4096) (hi : i < 64) : Calls Tryd.prog 21 #[nv s, nv i] w fun e w' => e = .returned (.bool (s.testBit i)) ∧ w = w' :=
  bit_calls s i w (by omega) (by omega)
theorem bitqH (s i n : Nat) (w : World) (hs : s < 4096) (hi : i < 64) : Calls Tryd.prog 21 #[nv s, nv i] (w.drewN n) fun e w'' => e = .returned (.bool (s.testBit i)) ∧ ∃ m, w'' = w.drewN m :=
  Calls.quiet_of_same ((bitH s i (w.drewN n) hs hi).mono fun _ _ ⟨a, b⟩ => ⟨a, b.symm⟩)

def vcell (v : List Nat) (j : Nat) : Value := nv (v.getD j 0)

end Go.Proofs.YtjmjifcaobkobaaDoor
