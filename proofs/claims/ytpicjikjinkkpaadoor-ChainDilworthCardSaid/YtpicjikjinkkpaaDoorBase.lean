/- Words on memory that the walks of this seat share: a slice that reads as a list of cells, a slice of ints that the call itself owns. Conditions: none. -/
import Derived.WalkKit
import Derived.WalkSpells
import Derived.WalkLawsBesides
import Derived.Lib.Hide
import Derived.Deep.Draws
import Derived.Maps.AppendAt
namespace Go.Proofs.YtpicjikjinkkpaaDoor
open Go.RowKit

/-- the slice value v has n elements of 'size' cells each, which are the cells xs; they lie below block B -/
def Rd (w : World) (B size : Nat) (v : Value) (n : Nat) (xs : List Value) : Prop :=
  xs.length = n * size ∧ ∃ (A : Option Addr) (cap : Nat), v = .slice A n cap ∧ n ≤ cap ∧ cap ≤ maxLen ∧
    (0 < n → ∃ b off, A = some ⟨b, off, none⟩ ∧ b < B ∧ ∀ j u, xs[j]? = some u → w.cell? ⟨b, off + j, none⟩ = some u)

section
variable {w w' : World} {B B' size n : Nat} {v : Value} {xs : List Value}
theorem Rd.keep (h : Rd w B size v n xs) (hk : ∀ p : Addr, p.block < B → w'.cell? p = w.cell? p) : Rd w' B size v n xs := by
  obtain ⟨h1, A, cap, h2, h3, h4, h5⟩ := h
  refine ⟨h1, A, cap, h2, h3, h4, fun hn => ?_⟩
  obtain ⟨b, off, e, hb, hc⟩ := h5 hn
  exact ⟨b, off, e, hb, fun j u hu => (hk _ hb).trans (hc j u hu)⟩
theorem Rd.more (h : Rd w B size v n xs) (hB : B ≤ B') : Rd w B' size v n xs := by
  obtain ⟨h1, A, cap, h2, h3, h4, h5⟩ := h
  refine ⟨h1, A, cap, h2, h3, h4, fun hn => ?_⟩
  obtain ⟨b, off, e, hb, hc⟩ := h5 hn
  exact ⟨b, off, e, by omega, hc⟩
theorem Rd.below (h : Rd w B size v n xs) (hb : Below B w w') : Rd w' B size v n xs := h.keep fun _ hp => hb.cell hp
theorem Rd.drew (h : Rd w B size v n xs) : Rd w.drew B size v n xs := h
theorem Rd.alloc (h : Rd w B size v n xs) (hB : B ≤ w.heap.size) (o : Obj) : Rd (w.alloc o) B size v n xs := h.below ((Below.refl B w).alloc hB o)
theorem Rd.grown (h : Rd w B size v n xs) {row : Option Nat} (hg : w.grownBy w' row) (hB : B ≤ w.heap.size) (hr : ∀ g, row = some g → B ≤ g) : Rd w' B size v n xs :=
  h.below ((Below.refl B w).grown hg hB hr)
/-- its shape where there is an element -/
theorem Rd.shape (h : Rd w B size v n xs) (hn : 0 < n) : ∃ b off cap, v = .slice (some ⟨b, off, none⟩) n cap ∧ n ≤ cap ∧ cap ≤ maxLen ∧ b < B ∧ ∀ j u, xs[j]? = some u → w.cell? ⟨b, off + j, none⟩ = some u := by
  obtain ⟨_, A, cap, h2, h3, h4, h5⟩ := h
  obtain ⟨b, off, rfl, hb, hc⟩ := h5 hn
  exact ⟨b, off, cap, h2, h3, h4, hb, hc⟩
theorem Rd.val (h : Rd w B size v n xs) : ∃ A cap, v = .slice A n cap := by
  obtain ⟨_, A, cap, h2, _⟩ := h
  exact ⟨A, cap, h2⟩
theorem Rd.le (h : Rd w B size v n xs) : n ≤ maxLen := by
  obtain ⟨_, A, cap, _, h3, h4, _⟩ := h
  omega
theorem Rd.nil (w : World) (B size : Nat) : Rd w B size (.slice none 0 0) 0 [] :=
  ⟨by simp, none, 0, rfl, Nat.le_refl _, by decide, fun h => absurd h (by omega)⟩
theorem Rd.of_own {base : Nat} {e : TypeId} (h : w.ownsRow base e size v n xs) : Rd w w.heap.size size v n xs := by
  refine ⟨h.1, ?_⟩
  rcases h.2 with ⟨rfl, rfl⟩ | ⟨g, cap, cur, rfl, hb, hg, hn, hc, hs, ht⟩
  · exact ⟨none, 0, rfl, Nat.le_refl _, by decide, fun h => absurd h (by omega)⟩
  · refine ⟨some ⟨g, 0, none⟩, cap, rfl, hn, hc, fun _ => ⟨g, 0, rfl, (Array.getElem?_eq_some_iff.1 hg).1, fun j u hu => ?_⟩⟩
    rw [Nat.zero_add]
    have hj : j < n * size := by
      have := (List.getElem?_eq_some_iff.1 hu).1
      have := h.1
      omega
    exact (h.cellAt j hj).trans hu
/-- the first k elements -/
theorem Rd.take {A : Option Addr} {cap : Nat} (h : Rd w B size (.slice A n cap) n xs) {k : Nat} (hk : k ≤ n) : Rd w B size (.slice A k cap) k (xs.take (k * size)) := by
  obtain ⟨h1, A', cap', h2, h3, h4, h5⟩ := h
  cases h2
  have hle : k * size ≤ n * size := Nat.mul_le_mul_right _ hk
  refine ⟨by rw [List.length_take, h1]; omega, A, cap, rfl, by omega, h4, fun hn => ?_⟩
  obtain ⟨b, off, e, hb, hc⟩ := h5 (by omega)
  refine ⟨b, off, e, hb, fun j u hu => hc j u ?_⟩
  rw [List.getElem?_take] at hu
  split at hu
  · exact hu
  · cases hu
/-- a new block reads as its cells -/
theorem Rd.lit (w : World) (C : Array Value) (e : TypeId) (size n cap : Nat) (hC : C.size = n * size) (hn : n ≤ cap) (hc : cap ≤ maxLen) :
    Rd (w.alloc (.cells C e)) (w.heap.size + 1) size (.slice (some ⟨w.heap.size, 0, none⟩) n cap) n C.toList :=
  ⟨by simpa using hC, _, cap, rfl, hn, hc, fun _ => ⟨_, 0, rfl, by omega, fun j u hu => by
    rw [Nat.zero_add, World.cell?_alloc_new]
    simpa using hu⟩⟩
end

/-- numbers as values -/
abbrev iv (x : Int) : Value := .int .i64 x
abbrev nv (x : Nat) : Value := .int .i64 (x : Int)

/-- a slice of ints -/
def Ints (w : World) (B : Nat) (v : Value) (l : List Int) : Prop := Rd w B 1 v l.length (l.map iv)
/-- natural numbers as ints -/
def zs (m : List Nat) : List Int := m.map fun x : Nat => (x : Int)
@[simp] theorem length_zs (m : List Nat) : (zs m).length = m.length := by simp [zs]

theorem Ints.at_ {w : World} {B : Nat} {v : Value} {l : List Int} (h : Ints w B v l) {k : Nat} (hk : k < l.length) :
    ∃ b off cap, v = .slice (some ⟨b, off, none⟩) l.length cap ∧ b < B ∧ w.cell? ⟨b, off + k, none⟩ = some (.int .i64 l[k]) := by
  obtain ⟨b, off, cap, e, _, _, hb, hc⟩ := Rd.shape h (by omega)
  exact ⟨b, off, cap, e, hb, hc k _ (by rw [List.getElem?_map, List.getElem?_eq_getElem hk]; rfl)⟩

theorem Ints.lit (w : World) (l : List Int) (e : TypeId) (h : l.length ≤ maxLen) :
    Ints (w.alloc (.cells (l.map iv).toArray e)) (w.heap.size + 1) (.slice (some ⟨w.heap.size, 0, none⟩) l.length l.length) l := by
  have := Rd.lit w (l.map iv).toArray e 1 l.length l.length (by simp) (Nat.le_refl _) h
  exact this

/-- the length of a slice value: for a loop's measure -/
def lenOf : Value → Nat | .slice _ n _ => n | _ => 0

/-- a slice of ints that the call itself made: nobody else reads or writes it -/
def Own (w : World) (base : Nat) (v : Value) (l : List Int) : Prop := w.ownsRow base 3 1 v l.length (l.map iv)

theorem Own.ints {w : World} {base : Nat} {v : Value} {l : List Int} (h : Own w base v l) : Ints w w.heap.size v l := Rd.of_own h
theorem Own.nil (w : World) (base : Nat) : Own w base (.slice none 0 0) [] := World.ownsRow_nil _ _ _ _

/-- its shape: where it lies, what its cells hold, what a store does -/
theorem Own.shape {w : World} {base : Nat} {v : Value} {l : List Int} (h : Own w base v l) (hl : 0 < l.length) :
    ∃ g cap, v = .slice (some ⟨g, 0, none⟩) l.length cap ∧ base ≤ g ∧ g < w.heap.size ∧ l.length ≤ maxLen ∧
      (∀ i (hi : i < l.length), w.cell? ⟨g, i, none⟩ = some (.int .i64 l[i])) ∧ (∀ i, w.frozen? ⟨g, i, none⟩ = false) ∧
      (∀ i u, Own (w.setCell ⟨g, i, none⟩ (.int .i64 u)) base v (l.set i u)) := by
  have hle := (Rd.of_own h).le
  have hlt := h.lt
  rcases h.2 with ⟨rfl, h0⟩ | ⟨g, cap, cur, rfl, hb, hg, hn, hc, hs, ht⟩
  · omega
  · refine ⟨g, cap, rfl, hb, (Array.getElem?_eq_some_iff.1 hg).1, hle, fun i hi => ?_, fun i => h.frozenAt i, fun i u => ?_⟩
    · rw [h.cellAt i (by omega), List.getElem?_map, List.getElem?_eq_getElem hi]; rfl
    · have := (h.stored i (.int .i64 u)).1
      unfold Own
      rw [List.length_set, List.map_set]
      exact this
/-- the same where its shape is written out -/
theorem Own.lit {w : World} {base g n cap : Nat} {l : List Int} (h : Own w base (.slice (some ⟨g, 0, none⟩) n cap) l) :
    base ≤ g ∧ g < w.heap.size ∧ (∀ i (hi : i < l.length), w.cell? ⟨g, i, none⟩ = some (.int .i64 l[i])) ∧ (∀ i, w.frozen? ⟨g, i, none⟩ = false) ∧
      (∀ i u, Own (w.setCell ⟨g, i, none⟩ (.int .i64 u)) base (.slice (some ⟨g, 0, none⟩) n cap) (l.set i u)) := by
  have hn : n = l.length := by
    rcases h.2 with ⟨h2, _⟩ | ⟨g', cap', cur, h2, _⟩
    · cases h2
    · injection h2
  subst hn
  have hlt := h.lt g rfl
  refine ⟨hlt.1, hlt.2, fun i hi => ?_, fun i => h.frozenAt i, fun i u => ?_⟩
  · rw [h.cellAt i (by omega), List.getElem?_map, List.getElem?_eq_getElem hi]; rfl
  · have := (h.stored i (.int .i64 u)).1
    unfold Own
    rw [List.length_set, List.map_set]
    exact this
theorem Own.kept {w w' : World} {base : Nat} {v : Value} {l : List Int} (h : Own w base v l) (hb : Below w.heap.size w w') : Own w' base v l :=
  World.ownsRow.kept (row := none) h ⟨hb.os, hb.tape, hb.output, hb.size, fun k hk _ => hb.block k hk⟩ (by cases hv : v.ownBlock <;> simp)
theorem Own.drew {w : World} {base : Nat} {v : Value} {l : List Int} (h : Own w base v l) : Own w.drew base v l := h
theorem Own.lower {w : World} {base base' : Nat} {v : Value} {l : List Int} (h : Own w base v l) (hb : base' ≤ base) : Own w base' v l := by
  refine ⟨h.1, ?_⟩
  rcases h.2 with h2 | ⟨g, cap, cur, hv, hg, r⟩
  · exact .inl h2
  · exact .inr ⟨g, cap, cur, hv, by omega, r⟩
theorem Own.alloc {w : World} {base : Nat} {v : Value} {l : List Int} (h : Own w base v l) (o : Obj) : Own (w.alloc o) base v l := World.ownsRow.alloc h o

theorem drn {B : Nat} {a w : World} (h : Below B a w) (n : Nat) : Below B a (w.drewN n) := ⟨h.os, h.tape, h.output, h.size, h.block⟩

end Go.Proofs.YtpicjikjinkkpaaDoor
