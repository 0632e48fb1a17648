/- Words for functions in whose loops an iterator is gone over: each such going-over leaves a mark among the deferred calls; at the end the marks are shut. Conditions: none. -/
import Derived.Test.YtpicjikjinkkpaaDoorIter
namespace Go.Proofs.YtpicjikjinkkpaaDoor
open Go.RowKit Go.Shelf

/-- the marks that loops over iterators have left -/
def marks (rs : List Nat) : List Deferred := rs.map fun r => { target := .collected r, args := #[] }
/-- each mark's block is there, and nothing was deferred in it -/
def MarksOk (B : Nat) (rs : List Nat) (w : World) : Prop := rs.Nodup ∧ ∀ r ∈ rs, B ≤ r ∧ w.heap[r]? = some (.deferred (some []))
/-- of blocks from B on only some that are no cells have turned -/
structure Shut (B : Nat) (w w' : World) : Prop where
  os : w'.os = w.os
  tape : w'.tape = w.tape
  output : w'.output = w.output
  size : w'.heap.size = w.heap.size
  low : ∀ k, k < B → w'.heap[k]? = w.heap[k]?
  cells : ∀ (k : Nat) (o : Obj), w.heap[k]? = some o → o.isCells = true → w'.heap[k]? = some o
theorem Shut.refl (B : Nat) (w : World) : Shut B w w := ⟨rfl, rfl, rfl, rfl, fun _ _ => rfl, fun _ _ h _ => h⟩
theorem Shut.trans {B : Nat} {a b c : World} (h : Shut B a b) (g : Shut B b c) : Shut B a c :=
  ⟨g.os.trans h.os, g.tape.trans h.tape, g.output.trans h.output, g.size.trans h.size, fun k hk => (g.low k hk).trans (h.low k hk), fun k o ho hc => g.cells k o (h.cells k o ho hc) hc⟩
theorem Shut.below {B : Nat} {a w w' : World} (h : Below B a w) (g : Shut B w w') : Below B a w' :=
  h.trans ⟨g.os, g.tape, g.output, by rw [g.size]; exact Nat.le_refl _, g.low⟩
theorem Shut.mono {B C : Nat} {a b : World} (h : Shut B a b) (hC : C ≤ B) : Shut C a b := ⟨h.os, h.tape, h.output, h.size, fun k hk => h.low k (by omega), h.cells⟩
theorem Shut.own {B base : Nat} {w w' : World} {v : Value} {l : List Int} (h : Own w base v l) (g : Shut B w w') : Own w' base v l := by
  refine ⟨h.1, ?_⟩
  rcases h.2 with h2 | ⟨b, cap, cur, hv, hb, hh, r⟩
  · exact .inl h2
  · exact .inr ⟨b, cap, cur, hv, hb, g.cells b _ hh rfl, r⟩
theorem shut_putObj {B : Nat} {w : World} {r : Nat} (hB : B ≤ r) (h : w.heap[r]? = some (.deferred (some []))) : Shut B w (w.putObj r (.deferred none)) := by
  refine ⟨rfl, rfl, rfl, by simp [World.putObj], fun k hk => World.putObj_heap_other (by omega), fun k o ho hc => ?_⟩
  rw [World.putObj_heap_other]
  · exact ho
  · rintro rfl
    rw [h] at ho
    injection ho with ho
    subst ho
    cases hc

theorem MarksOk.nil (B : Nat) (w : World) : MarksOk B [] w := ⟨List.nodup_nil, by simp⟩
theorem MarksOk.cons {B r : Nat} {rs : List Nat} {w : World} (h : MarksOk B rs w) (hr : w.heap[r]? = some (.deferred (some []))) (hB : B ≤ r) (hn : r ∉ rs) : MarksOk B (r :: rs) w :=
  ⟨List.nodup_cons.2 ⟨hn, h.1⟩, fun x hx => by
    rcases List.mem_cons.1 hx with rfl | hx
    · exact ⟨hB, hr⟩
    · exact h.2 x hx⟩
theorem MarksOk.lt {B : Nat} {rs : List Nat} {w : World} (h : MarksOk B rs w) : ∀ r ∈ rs, r < w.heap.size := fun r hr => (Array.getElem?_eq_some_iff.1 (h.2 r hr).2).1
theorem MarksOk.keep {B : Nat} {rs : List Nat} {w w' : World} (h : MarksOk B rs w) (hk : ∀ r ∈ rs, w'.heap[r]? = w.heap[r]?) : MarksOk B rs w' :=
  ⟨h.1, fun r hr => ⟨(h.2 r hr).1, by rw [hk r hr]; exact (h.2 r hr).2⟩⟩
theorem MarksOk.below {B C : Nat} {rs : List Nat} {w w' : World} (h : MarksOk B rs w) (hb : Below C w w') (hC : ∀ r ∈ rs, r < C) : MarksOk B rs w' := h.keep fun r hr => hb.block r (hC r hr)
theorem MarksOk.calls {B : Nat} {rs : List Nat} {w w' : World} (h : MarksOk B rs w) (hb : Below w.heap.size w w') : MarksOk B rs w' := h.below hb h.lt
theorem MarksOk.others {B : Nat} {rs : List Nat} {w w' : World} (h : MarksOk B rs w) (hk : KeepsOthers w w') : MarksOk B rs w' :=
  h.keep fun r hr => (hk.2 r _ (h.2 r hr).2 rfl).trans (h.2 r hr).2.symm

/-- at the end the marks are shut, one by one -/
theorem leaves_marks {F : Fence} {n : Nat} {P : Program} {fn : Func} {tmps : Array Value} {R : Ending → World → Prop} {B : Nat} : ∀ (rs : List Nat) (w : World), MarksOk B rs w →
    (∀ w', Shut B w w' → LeavesInM F n P fn tmps R [] .returning w') → LeavesInM F n P fn tmps R (marks rs) .returning w := by
  intro rs
  induction rs with
  | nil => intro w _ h; exact h w (Shut.refl _ _)
  | cons r rs ih =>
    intro w hm h
    obtain ⟨hn, hall⟩ := hm
    obtain ⟨h1, h2⟩ := List.nodup_cons.1 hn
    obtain ⟨hB, hr⟩ := hall r (List.mem_cons_self ..)
    have hs := shut_putObj (B := B) hB hr
    refine ⟨by simp, .inl ⟨r, _, rfl, run_takeDeferred hr, ?_⟩⟩
    refine ih _ ⟨h2, fun x hx => ?_⟩ (fun w' hw' => h w' (hs.trans hw'))
    obtain ⟨a, b⟩ := hall x (List.mem_cons_of_mem _ hx)
    refine ⟨a, ?_⟩
    rw [World.putObj_heap_other (by rintro rfl; exact h1 hx)]
    exact b

/-! what an iterator's law asks of the words of this seat -/
theorem ownFrom_own {β : Type} {B : Nat} (f : β → Nat) (g : β → Value) (l : β → List Int) : OwnFrom B (fun (s : β) W => Own W (f s) (g s) (l s)) := by
  intro s W W' row h hg hr
  refine ⟨h.1, ?_⟩
  rcases h.2 with h2 | ⟨b, cap, cur, hv, hb, hh, r⟩
  · exact .inl h2
  · refine .inr ⟨b, cap, cur, hv, hb, ?_, r⟩
    rw [hg.block b (Array.getElem?_eq_some_iff.1 hh).1 (fun e => by
      obtain ⟨_, o, ho, hc⟩ := hr b e.symm
      rw [hh] at ho
      injection ho with ho
      subst ho
      cases hc)]
    exact hh
theorem ownFrom_marks {β : Type} {B C : Nat} {rs : List Nat} (hC : ∀ r ∈ rs, r < B) : OwnFrom B (fun (_ : β) W => MarksOk C rs W ∧ B ≤ W.heap.size) := by
  intro s W W' row h hg hr
  exact ⟨h.1.keep fun r hr' => hg.block r (by have := hC r hr'; omega) (fun e => by have := (hr r e.symm).1; have := hC r hr'; omega), by have := hg.size; omega⟩
theorem ownFrom_tab {β : Type} {B : Nat} : OwnFrom B (fun (_ : β) W => Tab W) := by
  intro s W W' row h hg hr k hk
  exact cell_kept (h k hk) hg (fun r e => (hr r e).2)
theorem ownFrom_pure {β : Type} {B : Nat} (p : β → Prop) : OwnFrom B (fun (s : β) _ => p s) := fun _ _ _ _ h _ _ => h
theorem ownFrom_cell {β : Type} {B : Nat} (a : β → Addr) (v : β → Value) : OwnFrom B (fun (s : β) W => W.cell? (a s) = some (v s) ∧ W.frozen? (a s) = false) := by
  intro s W W' row h hg hr
  exact ⟨cell_kept h.1 hg (fun r e => (hr r e).2), (frozen_kept h.1 hg (fun r e => (hr r e).2)).trans h.2⟩
theorem cell_other (W : World) (p : Addr) (v : Value) {q : Addr} (h : q.block ≠ p.block) : (W.setCell p v).drew.cell? q = W.cell? q := by
  show (W.setCell p v).cell? q = W.cell? q
  unfold World.cell?
  rw [Below.heap_setCell _ _ _ _ h]
theorem ownFrom_cell1 {β : Type} {B : Nat} (a : β → Addr) (v : β → Value) : OwnFrom B (fun (s : β) W => W.cell? (a s) = some (v s)) := by
  intro s W W' row h hg hr
  exact cell_kept h hg (fun r e => (hr r e).2)

end Go.Proofs.YtpicjikjinkkpaaDoor
