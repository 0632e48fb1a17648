/- The reference's search: what a call of rest returns and leaves; where there is nothing to do, and where it was stuck before. Conditions: each contract's own premises. -/
import Derived.Test.YtjmjifcaobkobaaDoorRHas
import Derived.Test.YtjmjifcaobkobaaDoorRefW
namespace Go.Proofs.YtjmjifcaobkobaaDoor
open Go.RowKit Go.Maps His

/-- what a call of rest leaves -/
def RTo (w : World) (h : List N6) (pre : List Nat) (b g N : Nat) (vs : List Value) (m : Nat) (w' : World) : Prop :=
  ∃ vs' L' n', StkAt w' b g N n' (Gd h pre) vs' L' ∧ n' ≤ m ∧ Only (FK g N vs) w w' ∧ ∀ k, FK g N vs' k → FK g N vs k ∨ w.heap.size ≤ k
def RestOk (h : List N6) (pre : List Nat) (hv pv : Value) (b g d : Nat) : Prop :=
  ∀ (l : List Nat) (done v0 v1 v2 n : Nat) (tv : Value) (vs : List Value) (L : Nat → List T3) (w : World), l.length + d = h.length → done < 2 ^ h.length → Odr.cnt h.length done.testBit = l.length →
    v0 ≤ 1000000 → v1 ≤ 1000000 → v2 ≤ 1000000 → n + 11 ^ (d + 1) ≤ 2 ^ 40 → StkAt w b g (2 ^ h.length) n (Gd h pre) vs L → Stand h pre hv pv g w → Ints w w.heap.size tv (zs l) → Off (FK g (2 ^ h.length) vs) tv →
    Calls Tryd.prog 15 #[hv, pv, .pointer (some ⟨b, 0, none⟩), tv, nv done, .agg #[nv v0, nv v1, nv v2]] w fun e w' =>
      ∃ rv, e = .returned rv ∧ Ints w' w'.heap.size rv (zs (l ++ (from_ h pre d done [v0, v1, v2]).getD [])) ∧ RTo w h pre b g (2 ^ h.length) vs (n + 11 ^ (d + 1)) w'
theorem withinq (a b n : Nat) (w : World) (ha : a < 2 ^ 30) (hb : b < 2 ^ 30) : Calls Tryd.prog 22 #[nv a, nv b] (w.drewN n) fun e w'' => e = .returned (.bool (decide (a &&& b = a))) ∧ ∃ m, w'' = w.drewN m :=
  Calls.quiet_of_same ((rwithin_calls a b (w.drewN n) ha hb).mono fun _ _ ⟨a, b⟩ => ⟨a, b.symm⟩)
theorem and_of_diff (x y : Nat) : (x &&& y = x) ↔ Odr.diff x y = 0 := by
  rw [diff_zero_iff]
  constructor
  · intro h i hi
    have := congrArg (fun z => z.testBit i) h
    simp only [Nat.testBit_and, hi, Bool.true_and] at this
    exact this
  · intro h
    apply Nat.eq_of_testBit_eq
    intro i
    rw [Nat.testBit_and]
    cases hx : x.testBit i
    · rfl
    · rw [h i hx]; rfl
set_option maxHeartbeats 1000000 in
theorem rest_full (h : List N6) (pre : List Nat) (hv pv : Value) (b g : Nat) : RestOk h pre hv pv b g 0 := by
  intro l done v0 v1 v2 n tv vs L w hl hd hc h0 h1 h2 hn hs hst hi hoff
  have hlen : l.length = h.length := by omega
  have HS := Lib.hid hs
  have HI := Lib.hid hi
  obtain ⟨A, cap, rfl⟩ := Rd.val hst.ops
  obtain ⟨A', cap', rfl⟩ := Rd.val hi
  rw [length_zops] at *
  rw [length_zs, hlen] at *
  clear hs hst hc hi hoff hd
  go_enter Tryd.func15, Tryd.ntmps15
  go_wp2_with fail
  go_ret
  exact ⟨_, rfl, by
    rw [show (from_ h pre 0 done [v0, v1, v2]).getD [] = [] from rfl, List.append_nil]
    exact Rd.more (Rd.alloc HI.out (Nat.le_refl _) _) (by simp), vs, L, n, HS.out.alloc _, by omega, (Only.refl _ _).alloc _, fun k hk => .inl hk⟩
set_option maxHeartbeats 1000000 in
theorem rest_dead (h : List N6) (pre : List Nat) (hv pv : Value) (b g d : Nat) (l : List Nat) (done v0 v1 v2 n : Nat) (tv : Value) (vs : List Value) (L : Nat → List T3) (w : World) (hl : l.length + (d + 1) = h.length) (hd : done < 2 ^ h.length)
    (hn : n ≤ 2 ^ 40) (hs : StkAt w b g (2 ^ h.length) n (Gd h pre) vs L) (hst : Stand h pre hv pv g w) (hi : Ints w w.heap.size tv (zs l)) (hin : decide ((v0, v1, v2) ∈ L done) = true) :
    Calls Tryd.prog 15 #[hv, pv, .pointer (some ⟨b, 0, none⟩), tv, nv done, .agg #[nv v0, nv v1, nv v2]] w fun e w' =>
      ∃ rv, e = .returned rv ∧ Ints w' w'.heap.size rv (zs l) ∧ RTo w h pre b g (2 ^ h.length) vs n w' := by
  have hne : ((l.length : Int) == (h.length : Int)) = false := by simp; omega
  have hw1 := (Below.refl w.heap.size w).alloc (Nat.le_refl _) (.cells #[nv v0, nv v1, nv v2] 44)
  have hhas := Lib.hid (rhas_calls (hs.alloc (.cells #[nv v0, nv v1, nv v2] 44)) done hd (by omega) v0 v1 v2)
  rw [hin] at hhas
  have HF := Lib.hid fun (w' : World) (hb : Below (w.alloc (.cells #[nv v0, nv v1, nv v2] 44)).heap.size (w.alloc (.cells #[nv v0, nv v1, nv v2] 44)) w') => show Ints w' w'.heap.size tv (zs l) ∧ RTo w h pre b g (2 ^ h.length) vs n w' from by
    have hb2 := hw1.trans (hb.mono (by simp))
    exact ⟨Rd.more (Rd.below hi hb2) hb2.size, vs, L, n, hs.below hb2, Nat.le_refl _, Only.of_below hb2 (Nat.le_refl _) _, fun k hk => .inl hk⟩
  have k0 : (w.alloc (.cells #[nv v0, nv v1, nv v2] 44)).cell? ⟨w.heap.size, 0, none⟩ = some (nv v0) := by rw [World.cell?_alloc_new]; rfl
  have k1 : (w.alloc (.cells #[nv v0, nv v1, nv v2] 44)).cell? ⟨w.heap.size, 1, none⟩ = some (nv v1) := by rw [World.cell?_alloc_new]; rfl
  have k2 : (w.alloc (.cells #[nv v0, nv v1, nv v2] 44)).cell? ⟨w.heap.size, 2, none⟩ = some (nv v2) := by rw [World.cell?_alloc_new]; rfl
  obtain ⟨A, cap, rfl⟩ := Rd.val hst.ops
  obtain ⟨A', cap', rfl⟩ := Rd.val hi
  rw [length_zops] at *
  rw [length_zs] at *
  clear hs hst hin hi hw1
  go_enter Tryd.func15, Tryd.ntmps15
  go_wp2_with (go_at_call 20; (with_reducible refine hhas.out.mono ?_); rintro e w1 ⟨rfl, hb1⟩)
  go_ret
  exact ⟨_, rfl, HF.out _ hb1⟩
end Go.Proofs.YtjmjifcaobkobaaDoor
