/- Words on an object of several blocks that its methods turn: what else is in memory stays as it was. Conditions: none. -/
import Derived.Test.YtpicjikjinkkpaaDoorBase
import Derived.Deep.OwnRows
namespace Go.Proofs.YtpicjikjinkkpaaDoor
open Go.RowKit

/-- the world w' is as w was, but for the blocks of S and new ones -/
structure Only (S : Nat → Prop) (w w' : World) : Prop where
  os : w'.os = w.os
  tape : w'.tape = w.tape
  output : w'.output = w.output
  size : w.heap.size ≤ w'.heap.size
  block : ∀ k, k < w.heap.size → ¬ S k → w'.heap[k]? = w.heap[k]?

/-- the blocks of an object -/
def Foot (b : Nat) (v : Value) (k : Nat) : Prop := k = b ∨ v.ownBlock = some k
theorem heap_new' (w : World) (o : Obj) (n : Nat) (h : n = w.heap.size) : (w.alloc o).drew.heap[n]? = some o := by
  subst h
  show (w.heap.push o)[w.heap.size]? = some o
  simp

section
variable {S S' : Nat → Prop} {a b c w w' : World}
theorem Only.refl (S : Nat → Prop) (w : World) : Only S w w := ⟨rfl, rfl, rfl, Nat.le_refl _, fun _ _ _ => rfl⟩
theorem Only.trans (h : Only S a b) (g : Only S' b c) (hS : ∀ k, S' k → S k ∨ a.heap.size ≤ k) : Only S a c :=
  ⟨g.os.trans h.os, g.tape.trans h.tape, g.output.trans h.output, Nat.le_trans h.size g.size, fun k hk hn =>
    (g.block k (Nat.lt_of_lt_of_le hk h.size) (fun hs => (hS k hs).elim hn (fun h => absurd hk (Nat.not_lt.2 h)))).trans (h.block k hk hn)⟩
theorem Only.more (h : Only S a b) (hS : ∀ k, S k → S' k) : Only S' a b := ⟨h.os, h.tape, h.output, h.size, fun k hk hn => h.block k hk (fun hs => hn (hS k hs))⟩
theorem Only.of_below {B : Nat} (h : Below B a b) (hB : a.heap.size ≤ B) (S : Nat → Prop) : Only S a b := ⟨h.os, h.tape, h.output, h.size, fun k hk _ => h.block k (Nat.lt_of_lt_of_le hk hB)⟩
theorem Only.below {B : Nat} (h : Only S a b) (hB : B ≤ a.heap.size) (hS : ∀ k, S k → B ≤ k) : Below B a b :=
  ⟨h.os, h.tape, h.output, h.size, fun k hk => h.block k (Nat.lt_of_lt_of_le hk hB) (fun hs => absurd hk (Nat.not_lt.2 (hS k hs)))⟩
theorem Only.drew (h : Only S a b) : Only S a b.drew := ⟨h.os, h.tape, h.output, h.size, h.block⟩
theorem Only.drewN (h : Only S a b) (n : Nat) : Only S a (b.drewN n) := ⟨h.os, h.tape, h.output, h.size, h.block⟩
theorem Only.alloc (h : Only S a b) (o : Obj) : Only S a (b.alloc o) :=
  h.trans (Only.of_below ((Below.refl b.heap.size b).alloc (Nat.le_refl _) o) (Nat.le_refl _) (fun _ => False)) (fun _ h => h.elim)
theorem Only.setCell (h : Only S a b) {p : Addr} (hp : S p.block ∨ a.heap.size ≤ p.block) (u : Value) : Only S a (b.setCell p u) :=
  ⟨h.os, h.tape, h.output, by simpa using h.size, fun k hk hn => by
    rw [Below.heap_setCell b p u k (fun e => by
      subst e
      rcases hp with hp | hp
      · exact hn hp
      · omega)]
    exact h.block k hk hn⟩
theorem Only.grown (h : Only S a b) {row : Option Nat} (g : b.grownBy c row) (hr : ∀ k, row = some k → S k ∨ a.heap.size ≤ k) : Only S a c :=
  ⟨g.os.trans h.os, g.tape.trans h.tape, g.output.trans h.output, Nat.le_trans h.size g.size, fun k hk hn =>
    (g.block k (Nat.lt_of_lt_of_le hk h.size) (fun e => by
      rcases hr k e.symm with h1 | h1
      · exact hn h1
      · omega)).trans (h.block k hk hn)⟩
theorem Only.cell (h : Only S w w') {p : Addr} (hp : p.block < w.heap.size) (hn : ¬ S p.block) : w'.cell? p = w.cell? p := World.cell?_of_block (h.block _ hp hn)
theorem Only.frozen (h : Only S w w') {p : Addr} (hp : p.block < w.heap.size) (hn : ¬ S p.block) : w'.frozen? p = w.frozen? p := World.frozen?_of_block (h.block _ hp hn)

/-- does a slice lie beside a set of blocks? -/
def Off (S : Nat → Prop) (v : Value) : Prop := ∀ k, v.ownBlock = some k → ¬ S k
theorem Off.nil (S : Nat → Prop) : Off S (.slice none 0 0) := fun k h => by cases h
theorem Off.below {B : Nat} {size n : Nat} {v : Value} {xs : List Value} (h : Rd w B size v n xs) (hn : 0 < n) (hS : ∀ k, S k → B ≤ k) : Off S v := by
  intro k hk hs
  obtain ⟨b, off, cap, rfl, _, _, hb, _⟩ := h.shape hn
  cases hk
  exact absurd hb (Nat.not_lt.2 (hS _ hs))
theorem Off.more {v : Value} (h : Off S v) (hB : ∀ k, v.ownBlock = some k → k < w.heap.size) (hS : ∀ k, S' k → S k ∨ w.heap.size ≤ k) : Off S' v := by
  intro k hk hs
  rcases hS k hs with h1 | h1
  · exact h k hk h1
  · exact absurd (hB k hk) (Nat.not_lt.2 h1)

theorem Rd.only {B size n : Nat} {v : Value} {xs : List Value} (h : Rd w B size v n xs) (hB : B ≤ w.heap.size) (g : Only S w w') (hoff : Off S v) : Rd w' B size v n xs := by
  obtain ⟨h1, A, cap, h2, h3, h4, h5⟩ := h
  refine ⟨h1, A, cap, h2, h3, h4, fun hn => ?_⟩
  obtain ⟨b, off, e, hb, hc⟩ := h5 hn
  refine ⟨b, off, e, hb, fun j u hu => (g.cell (p := ⟨b, off + j, none⟩) (Nat.lt_of_lt_of_le hb hB) (hoff b ?_)).trans (hc j u hu)⟩
  rw [h2, e]; rfl
/-- the same for what lies below the object -/
theorem Rd.past {B size n : Nat} {v : Value} {xs : List Value} (h : Rd w B size v n xs) (hB : B ≤ w.heap.size) (g : Only S w w') (hS : ∀ k, S k → B ≤ k) : Rd w' B size v n xs :=
  h.below (g.below hB hS)
theorem row_only {base : Nat} {e : TypeId} {size : Nat} {v : Value} {n : Nat} {xs : List Value} (h : w.ownsRow base e size v n xs) (g : Only S w w') (hoff : Off S v) : w'.ownsRow base e size v n xs := by
  refine ⟨h.1, ?_⟩
  rcases h.2 with hn | ⟨b, cap, cur, rfl, hb, hgg, rest⟩
  · exact .inl hn
  · exact .inr ⟨b, cap, cur, rfl, hb, (g.block b (Array.getElem?_eq_some_iff.1 hgg).1 (hoff b rfl)).trans hgg, rest⟩
theorem Own.only {base : Nat} {v : Value} {l : List Int} (h : Own w base v l) (g : Only S w w') (hoff : Off S v) : Own w' base v l := row_only h g hoff
theorem row_only' {bl : Nat} {t : TypeId} {n : Nat} {f : Nat → Value} (h : w.rowIs bl t n f) (g : Only S w w') (hoff : ¬ S bl) : w'.rowIs bl t n f := h.of_block (g.block bl h.lt hoff)
theorem row_lt {base : Nat} {e : TypeId} {size : Nat} {v : Value} {n : Nat} {xs : List Value} (h : w.ownsRow base e size v n xs) : ∀ k, v.ownBlock = some k → base ≤ k ∧ k < w.heap.size := by
  intro k hk
  rcases h.2 with ⟨rfl, _⟩ | ⟨b, cap, cur, rfl, hb, hgg, rest⟩
  · cases hk
  · cases hk
    exact ⟨hb, (Array.getElem?_eq_some_iff.1 hgg).1⟩
theorem row_drewN {base : Nat} {e : TypeId} {size : Nat} {v : Value} {n : Nat} {xs : List Value} (h : w.ownsRow base e size v n xs) (k : Nat) : (w.drewN k).ownsRow base e size v n xs := h
theorem rowIs_drewN {bl : Nat} {t : TypeId} {n : Nat} {f : Nat → Value} (h : w.rowIs bl t n f) (k : Nat) : (w.drewN k).rowIs bl t n f := h
/-- a row whose cells are listed -/
def Row (w : World) (bl : Nat) (t : TypeId) (xs : List Value) : Prop := w.rowIs bl t xs.length (fun i => xs.getD i .nilFunc)
end
end Go.Proofs.YtpicjikjinkkpaaDoor
