/- Contract of view.commit. Conditions: the contract's own premises. -/
import Derived.Test.YtkindaadadggoaaDoorVRead
import Derived.Test.YtkindaadadggoaaDoorRound
import Derived.OrdersHeld
namespace Go.Proofs.YtkindaadadggoaaDoor
open Go.RowKit Go.Shelf
attribute [local go_sem] Oper.semAt_some

section
variable {P : Program} {Q : Exit → Act → World → Prop} {l n : Nat}
/-- a region that draws its order inside an iterator's round, its loads taken first -/
theorem region_held_round {id : Nat} {a : Act} {w : World} {ops : List Oper} {S : World → Prop} (hm : P.follows .mixedOrders = true) (hnd : noDefer ops = true)
    (h : wpAnyH P .any ops.toArray (NormalOnly Q) S ops.toArray.size (Array.replicate ops.toArray.size false) a w.drew) :
    (Code.region id ops.toArray true).wpIn (Fence.wide.inRound l) n P Q a w := by
  refine Code.wpIn_mono (Q := NormalOnly Q) (fun e a w h => by cases e <;> first | exact h | exact (h : False).elim) ?_
  refine wpIn_region_any hm ?_
  refine wpAnyIn_round (fun i o c ho hc => ?_) (fun ⟨a, w, h⟩ => h) _ _ _ _ (wpAny_of_held _ _ _ _ h)
  have hmem : o ∈ ops := by
    have := Array.mem_of_getElem? ho
    simpa using this
  have := List.all_eq_true.1 hnd o hmem
  rw [hc] at this
  cases this
end

namespace Vw
open Odr
/-- a commit in the making: the versions of some items are appended -/
def cm (v : V) (x : Nat) (s : List Nat) : V := { now := v.now + 1, txs := v.txs.set x { tx v x with ph := 2, en := v.now + 1 }, vers := (List.range 4).map fun i => verl v i ++ List.replicate (s.count i) ((x : Int), v.now + 1) }
theorem verl_cm (v : V) (x : Nat) (s : List Nat) {i : Nat} (hi : i < 4) : verl (cm v x s) i = verl v i ++ List.replicate (s.count i) ((x : Int), v.now + 1) := by
  have : i = 0 ∨ i = 1 ∨ i = 2 ∨ i = 3 := by omega
  rcases this with rfl | rfl | rfl | rfl <;> rfl
theorem cm_all (v : V) (x : Nat) {s : List Nat} (hn : s.Nodup) (hs : ∀ i, i < 4 → (i ∈ s ↔ (tx v x).wrt.testBit i = true)) : cm v x s = commit v x := by
  unfold cm commit
  congr 1
  refine List.map_congr_left fun i hi => ?_
  have h := hs i (List.mem_range.1 hi)
  unfold verNew
  by_cases g : i ∈ s
  · rw [if_pos (h.1 g), hn.count, if_pos g]; rfl
  · rw [if_neg (fun h' => g (h.2 h')), List.count_eq_zero_of_not_mem g]; simp
theorem tx_cm {v : V} (h : v.txs.length = 5) {x : Nat} (hx : x < 5) (s : List Nat) (y : Nat) : tx (cm v x s) y = if y = x then { tx v x with ph := 2, en := v.now + 1 } else tx v y := getD_tx_set _ (by omega) y
end Vw

theorem ownFrom_row {W W' : World} {B : Nat} {row : Option Nat} (hg : W.grownBy W' row) (hr : ∀ r, row = some r → B ≤ r ∧ ∃ o : Obj, W.heap[r]? = some o ∧ o.isCells = false) {k : Nat} {c : Array Value} {t : TypeId} {fr : Nat × Nat} (h : W.heap[k]? = some (.cells c t fr)) : W'.heap[k]? = some (.cells c t fr) := by
  rw [hg.block k (Array.getElem?_eq_some_iff.1 h).1 (fun e => by
    obtain ⟨_, o, ho, hc⟩ := hr k e.symm
    rw [h] at ho
    injection ho with ho
    subst ho
    cases hc)]
  exact h
theorem st_from {W W' : World} {B : Nat} {row : Option Nat} {b : Nat} {v : Vw.V} {vs : Nat → Value} (h : StAt W b v vs) (hg : W.grownBy W' row) (hr : ∀ r, row = some r → B ≤ r ∧ ∃ o : Obj, W.heap[r]? = some o ∧ o.isCells = false) : StAt W' b v vs := by
  refine ⟨?_, fun i hi => ⟨(h.2.1 i hi).1, ?_⟩, h.2.2⟩
  · obtain ⟨c, h1, h2⟩ := h.1
    exact ⟨c, ownFrom_row hg hr h1, h2⟩
  · rcases (h.2.1 i hi).2 with h2 | ⟨k, cap, cur, hv, hb, hh, r⟩
    · exact .inl h2
    · exact .inr ⟨k, cap, cur, hv, hb, ownFrom_row hg hr hh, r⟩
theorem ownFrom_st {β : Type} {B : Nat} (b : Nat) (v : Vw.V) (vs : Nat → Value) : OwnFrom B (fun (_ : β) W => StAt W b v vs) := fun _ _ _ _ h hg hr => st_from h hg hr
theorem ownFrom_ex {β : Type} {B : Nat} (b : Nat) (v : β → Vw.V) (C : (Nat → Value) → Prop) : OwnFrom B (fun (s : β) W => ∃ vs, StAt W b (v s) vs ∧ C vs) := fun _ _ _ _ ⟨vs, h, hc⟩ hg hr => ⟨vs, st_from h hg hr, hc⟩
theorem ownFrom_only {β : Type} {B C : Nat} {S : Nat → Prop} {w : World} (hB : w.heap.size ≤ B) : OwnFrom B (fun (_ : β) W => Only S w W ∧ C ≤ W.heap.size) := by
  intro s W W' row h hg hr
  exact ⟨h.1.grown hg (fun k e => .inr (Nat.le_trans hB (hr k e).1)), by have := hg.size; omega⟩
/-- a variable that is laid down in a block of its own -/
theorem boxedV (w : World) (v : Value) (e : TypeId) : ∃ w1, w.alloc (.cells #[v] e) = w1 ∧ w1.heap.size = w.heap.size + 1 ∧ Below w.heap.size w w1 ∧ w1.cell? ⟨w.heap.size, 0, none⟩ = some v ∧ w1.frozen? ⟨w.heap.size, 0, none⟩ = false :=
  ⟨_, rfl, by simp, (Below.refl _ _).alloc (Nat.le_refl _) _, by rw [World.cell?_alloc_new]; rfl, by simp⟩
theorem Tryd.infoVer : (Tryd.prog.info? 106).map (fun i => (i.zero, i.size, i.bytes)) = some (some (.agg #[.int .i64 0, .int .i64 0]), 2, 16) := by kernel_rfl
theorem StAt.away {w : World} {b : Nat} {v : Vw.V} {vs : Nat → Value} (h : StAt w b v vs) (p : Addr) (u : Value) (hp : ∀ k, FootV b vs k → k ≠ p.block) : StAt (w.setCell p u) b v vs :=
  h.only (S := fun k => k = p.block) ((Only.refl (fun k => k = p.block) w).setCell (.inl rfl) u) (fun k hk e => hp k hk e)
theorem commit_start {w : World} {b : Nat} {v : Vw.V} {vs : Nat → Value} (h : StAt w b v vs) (hl : v.txs.length = 5) {x : Nat} (hx : x < 5) :
    StAt (((w.setCell ⟨b, 0, none⟩ (nv (v.now + 1))).setCell ⟨b, 1 + x * 9, none⟩ (.int .i64 2)).setCell ⟨b, 1 + x * 9 + 2, none⟩ (nv (v.now + 1))) b (Vw.cm v x []) vs := by
  refine ⟨(((h.1.set 0 _).set (1 + x * 9) _).set (1 + x * 9 + 2) _).congr fun j hj => ?_, fun i hi => ?_, h.2.2⟩
  · unfold vcell
    by_cases e2 : j = 1 + x * 9 + 2
    · subst e2
      rw [if_pos rfl, if_neg (by omega), if_pos (by omega), show (1 + x * 9 + 2 - 1) / 9 = x by omega, show (1 + x * 9 + 2 - 1) % 9 = 2 by omega, Vw.tx_cm hl hx, if_pos rfl]
      rfl
    · rw [if_neg e2]
      by_cases e1 : j = 1 + x * 9
      · subst e1
        rw [if_pos rfl, if_neg (by omega), if_pos (by omega), show (1 + x * 9 - 1) / 9 = x by omega, show (1 + x * 9 - 1) % 9 = 0 by omega, Vw.tx_cm hl hx, if_pos rfl]
        rfl
      · rw [if_neg e1]
        by_cases e0 : j = 0
        · subst e0; rfl
        · rw [if_neg e0, if_neg e0, if_neg e0]
          by_cases h46 : j < 46
          · rw [if_pos h46, if_pos h46, Vw.tx_cm hl hx]
            by_cases hq : (j - 1) / 9 = x
            · rw [if_pos hq, hq]
              have hm : (j - 1) % 9 ≠ 0 := by omega
              have hm2 : (j - 1) % 9 ≠ 2 := by omega
              generalize (j - 1) % 9 = m at *
              match m, hm, hm2 with
              | 1, _, _ => rfl
              | 3, _, _ => rfl
              | 4, _, _ => rfl
              | m + 5, _, _ => rfl
            · rw [if_neg hq]
          · rw [if_neg h46, if_neg h46]
  · rw [Vw.verl_cm v x [] hi, List.count_nil, List.replicate_zero, List.append_nil]
    exact ownsRow_setCell_below (ownsRow_setCell_below (ownsRow_setCell_below (h.2.1 i hi) (Nat.lt_succ_self b) _) (Nat.lt_succ_self b) _) (Nat.lt_succ_self b) _
theorem StAt.heap {w w' : World} {b : Nat} {v : Vw.V} {vs : Nat → Value} (h : StAt w b v vs) (e : w'.heap = w.heap) : StAt w' b v vs := by
  refine ⟨?_, fun i hi => ⟨(h.2.1 i hi).1, ?_⟩, h.2.2⟩
  · obtain ⟨c, h1, h2⟩ := h.1
    exact ⟨c, by rw [e]; exact h1, h2⟩
  · rcases (h.2.1 i hi).2 with h2 | ⟨k, cap, cur, hv, hb, hh, r⟩
    · exact .inl h2
    · exact .inr ⟨k, cap, cur, hv, hb, by rw [e]; exact hh, r⟩
theorem vercells_snoc (l : List Vw.Ver) (p : Vw.Ver) : vercells (l ++ [p]) = vercells l ++ [iv p.1, nv p.2] := by
  unfold vercells
  rw [List.flatMap_append]
  rfl
theorem StAt.shut {w w' : World} {b B : Nat} {v : Vw.V} {vs : Nat → Value} (h : StAt w b v vs) (g : Shut B w w') : StAt w' b v vs := by
  refine ⟨?_, fun i hi => ⟨(h.2.1 i hi).1, ?_⟩, h.2.2⟩
  · obtain ⟨c, h1, h2⟩ := h.1
    exact ⟨c, g.cells b _ h1 rfl, h2⟩
  · rcases (h.2.1 i hi).2 with h2 | ⟨k, cap, cur, hv, hb, hh, r⟩
    · exact .inl h2
    · exact .inr ⟨k, cap, cur, hv, hb, g.cells k _ hh rfl, r⟩
theorem Shut.only {B : Nat} {S : Nat → Prop} {a w w' : World} (h : Only S a w) (g : Shut B w w') (hB : a.heap.size ≤ B) : Only S a w' :=
  ⟨g.os.trans h.os, g.tape.trans h.tape, g.output.trans h.output, by rw [g.size]; exact h.size, fun k hk hn => (g.low k (by omega)).trans (h.block k hk hn)⟩
theorem Shut.cellV {B : Nat} {w w' : World} (g : Shut B w w') {p : Addr} {v : Value} (h : w.cell? p = some v) : w'.cell? p = some v := by
  obtain ⟨o, ho, hc⟩ := cells_of_cell h
  exact (World.cell?_of_block ((g.cells _ _ ho hc).trans ho.symm)).trans h
/-- one more item's version is appended, and its field is stored -/
theorem commit_next {W w1 : World} {b x y n g cap gg cap2 : Nat} {v : Vw.V} {S : List Nat} {vs : Nat → Value} {o : Obj} (h : StAt W b (Vw.cm v x S) vs) (hl : v.txs.length = 5) (hx : x < 5) (hy : y < 4)
    (hv : vs y = .slice (some ⟨g, 0, none⟩) n cap) (hn : n = (Vw.verl (Vw.cm v x S) y).length) (hg : (W.alloc o).drew.grownBy w1 (Value.slice (some ⟨g, 0, none⟩) n cap).ownBlock)
    (ho : w1.ownsRow (b + 1) 106 2 (.slice (some ⟨gg, 0, none⟩) (n + 1) cap2) (n + 1) (vercells (Vw.verl (Vw.cm v x S) y) ++ [nv x, nv (v.now + 1)]))
    (hat : (Value.slice (some ⟨g, 0, none⟩) n cap).ownBlock = some gg ∨ gg = W.heap.size + 1) :
    StAt (w1.setCell ⟨b, 46 + y, none⟩ (.slice (some ⟨gg, 0, none⟩) (n + 1) cap2)) b (Vw.cm v x (S ++ [y])) (fun k => if k = y then .slice (some ⟨gg, 0, none⟩) (n + 1) cap2 else vs k) ∧
      ∀ k, FootV b (fun k => if k = y then .slice (some ⟨gg, 0, none⟩) (n + 1) cap2 else vs k) k → FootV b vs k ∨ W.heap.size ≤ k := by
  have hgb : b + 1 ≤ g ∧ g < W.heap.size := by
    have := h.own hy g (by rw [hv]; rfl)
    exact this
  have hbW : b < W.heap.size := h.1.lt
  have hgg : gg = g ∨ gg = W.heap.size + 1 := by
    rcases hat with e | e
    · left; injection e with e; exact e.symm
    · exact .inr e
  have hrow : w1.rowIs b 104 50 (vcell (Vw.cm v x S) vs) := (h.1.alloc o).of_block (hg.block b (by simp; omega) (fun e => by
    injection e with e
    have e' : b = g := e
    omega))
  have hcount : ∀ i, (S ++ [y]).count i = if i = y then S.count i + 1 else S.count i := fun i => by
    rw [List.count_append, List.count_singleton]
    by_cases e : i = y
    · subst e; simp
    · have e2 : ¬ y = i := fun q => e q.symm
      simp [e, e2]
  have hold : ∀ i, i < 4 → i ≠ y → Vw.verl (Vw.cm v x (S ++ [y])) i = Vw.verl (Vw.cm v x S) i := fun i hi e => by
    rw [Vw.verl_cm v x _ hi, Vw.verl_cm v x _ hi, hcount i, if_neg e]
  have hnew : Vw.verl (Vw.cm v x (S ++ [y])) y = Vw.verl (Vw.cm v x S) y ++ [((x : Int), v.now + 1)] := by
    rw [Vw.verl_cm v x _ hy, Vw.verl_cm v x _ hy, hcount y, if_pos rfl, List.replicate_succ', List.append_assoc]
  refine ⟨⟨(hrow.set (46 + y) _).congr fun j hj => ?_, fun i hi => ?_, ?_⟩, ?_⟩
  · unfold vcell
    by_cases e : j = 46 + y
    · subst e
      rw [if_pos rfl, if_neg (by omega), if_neg (by omega)]
      dsimp only
      rw [if_pos (by omega)]
    · rw [if_neg e]
      by_cases h0 : j = 0
      · rw [if_pos h0, if_pos h0]; rfl
      · rw [if_neg h0, if_neg h0]
        by_cases h46 : j < 46
        · rw [if_pos h46, if_pos h46, Vw.tx_cm hl hx, Vw.tx_cm hl hx]
        · rw [if_neg h46, if_neg h46]
          dsimp only
          rw [if_neg (by omega)]
  · unfold OwnV
    by_cases e : i = y
    · subst e
      simp only [if_true]
      rw [hnew, List.length_append, ← hn, vercells_snoc]
      exact ownsRow_setCell_below ho (Nat.lt_succ_self b) _
    · simp only [if_neg e]
      rw [hold i hi e]
      refine ownsRow_setCell_below ?_ (Nat.lt_succ_self b) _
      refine World.ownsRow.kept (row := (Value.slice (some ⟨g, 0, none⟩) n cap).ownBlock) (World.ownsRow.drew (World.ownsRow.alloc (h.2.1 i hi) o)) hg ?_
      cases hk : (vs i).ownBlock with
      | none => exact .inl rfl
      | some k => exact .inr fun e2 => h.2.2 i y hi hy e k hk (by rw [hv]; exact e2.symm)
  · intro i j hi hj hij k hk1 hk2
    by_cases ei : i = y
    · have ej : j ≠ y := fun q => hij (ei.trans q.symm)
      simp only [if_pos ei] at hk1
      simp only [if_neg ej] at hk2
      have h1 : gg = k := by injection hk1
      have h2 := (h.own hj k hk2).2
      rcases hgg with e | e
      · exact h.2.2 j y hj hy ej k hk2 (by rw [hv, ← h1, e]; rfl)
      · omega
    · simp only [if_neg ei] at hk1
      by_cases ej : j = y
      · simp only [if_pos ej] at hk2
        have h1 : gg = k := by injection hk2
        have h2 := (h.own hi k hk1).2
        rcases hgg with e | e
        · exact h.2.2 i y hi hy ei k hk1 (by rw [hv, ← h1, e]; rfl)
        · omega
      · simp only [if_neg ej] at hk2
        exact h.2.2 i j hi hj hij k hk1 hk2
  · rintro k (rfl | ⟨i, hi, hk⟩)
    · exact .inl (.inl rfl)
    · by_cases e : i = y
      · simp only [if_pos e] at hk
        have h1 : gg = k := by injection hk
        rcases hgg with e2 | e2
        · exact .inl (.inr ⟨y, hy, by rw [hv, ← h1, e2]; rfl⟩)
        · exact .inr (by omega)
      · simp only [if_neg e] at hk
        exact .inl (.inr ⟨i, hi, hk⟩)
/-- of the items that were seen none was written since -/
def Okl (v : Vw.V) (x : Nat) {s : Nat} (pre : List (El s)) : Prop := ∀ y ∈ pre.map (·.1), ¬ (Vw.tx v x).bg < Vw.lastAt (Vw.verl v y)
theorem Okl.snoc {v : Vw.V} {x s : Nat} {pre : List (El s)} (h : Okl v x pre) (y : El s) (hy : ¬ (Vw.tx v x).bg < Vw.lastAt (Vw.verl v y.1)) : Okl v x (pre ++ [y]) := by
  intro z hz
  rw [List.map_append, List.mem_append] at hz
  rcases hz with hz | hz
  · exact h z hz
  · simp only [List.map_cons, List.map_nil, List.mem_singleton] at hz
    rw [hz]; exact hy
set_option maxRecDepth 20000 in
set_option maxHeartbeats 4000000 in
theorem vcommit_calls (v : Vw.V) (x : Nat) (b : Nat) (vs : Nat → Value) (w : World) (h : StAt w b v vs) (hI : Vw.Inv v) (hx : x < 5) (hp : (Vw.tx v x).ph = 1) (hT : Tab w) (hTb : 2 < b) :
    Calls Tryd.prog 62 #[.pointer (some ⟨b, 0, none⟩), nv x] w fun e w' => (Vw.stale v x = true → e = .returned (.iface 93 (.int .i64 6)) ∧ StTo w b vs (Vw.put v x { Vw.tx v x with ph := 3 }) w') ∧
      (Vw.stale v x = false → e = .returned .nilIface ∧ StTo w b vs (Vw.commit v x) w') := by
  refine (callsIn_wide (n := 9)).1 ?_
  refine callsIn_of_wp_marks Tryd.func62 rfl trivial ?_ rfl
  simp only [Tryd.ntmps62, List.size_toArray, List.length_cons, List.length_nil, Nat.reduceAdd, Nat.reduceSub, Array.replicate_succ, Array.replicate_zero, List.push_toArray, List.append_toArray, List.nil_append, List.cons_append]
  gi_wp2_with fail
  obtain ⟨w1, hw1, z1, b1, k1, -⟩ := boxedV w (.pointer (some ⟨b, 0, none⟩)) 44
  obtain ⟨w2, hw2, z2, b2, k2, -⟩ := boxedV w1 (nv x) 3
  obtain ⟨W3, hw3, z3, b3, k3, f2⟩ := boxedV w2 .nilIface 30
  rw [hw1, hw2, hw3]
  have hb3 : Below w.heap.size w W3 := (b1.trans (b2.mono (by omega))).trans (b3.mono (by omega))
  have hs3 : W3.heap.size = w.heap.size + 1 + 1 + 1 := by omega
  have c0 : W3.cell? ⟨w.heap.size, 0, none⟩ = some (.pointer (some ⟨b, 0, none⟩)) := ((b2.trans (b3.mono (by omega))).cell (p := ⟨w.heap.size, 0, none⟩) (by simp; omega)).trans k1
  have c1 : W3.cell? ⟨w.heap.size + 1, 0, none⟩ = some (nv x) := by
    rw [z1] at k2
    exact (b3.cell (p := ⟨w.heap.size + 1, 0, none⟩) (by simp; omega)).trans k2
  have c2 : W3.cell? ⟨w.heap.size + 1 + 1, 0, none⟩ = some .nilIface := by
    rw [z2, z1] at k3
    exact k3
  rw [z2, z1] at f2
  clear hw1 hw2 hw3 z1 z2 z3 b1 b2 b3 k1 k2 k3
  obtain ⟨B, hB⟩ : ∃ B, B = w.heap.size := ⟨_, rfl⟩
  rw [← hB] at c0 c1 c2 f2 hs3 ⊢
  have HBw := Lib.hid hB
  have i1 : (x : Int) < 5 := by omega
  have i2 : (0 : Int) ≤ (x : Int) := by omega
  have s0 : B < W3.heap.size := by omega
  have s1 : B + 1 < W3.heap.size := by omega
  clear hB
  refine wpIn_wide.2 ?_
  go_region_held3 (fun w' => w'.cell? ⟨B, 0, none⟩ = some (.pointer (some ⟨b, 0, none⟩)) ∧ w'.cell? ⟨B + 1, 0, none⟩ = some (nv x))
    (first | exact ⟨c0, c1⟩ | exact ⟨(World.cell?_alloc_old _ _ _ (by simp; omega)).trans c0, (World.cell?_alloc_old _ _ _ (by simp; omega)).trans c1⟩) (fail)
  have hb34 : Below W3.heap.size W3 (W3.alloc (.cells #[.pointer (some ⟨b, 1 + x * 9, none⟩)] 107)).drew := ((Below.refl _ _).alloc (Nat.le_refl _) _).drew
  have hs4 : (W3.alloc (.cells #[.pointer (some ⟨b, 1 + x * 9, none⟩)] 107)).drew.heap.size = B + 1 + 1 + 1 + 1 := by rw [← hs3]; simp
  have c3 : (W3.alloc (.cells #[.pointer (some ⟨b, 1 + x * 9, none⟩)] 107)).drew.cell? ⟨B + 1 + 1 + 1, 0, none⟩ = some (.pointer (some ⟨b, 1 + x * 9, none⟩)) := by
    rw [← hs3]
    show (W3.alloc _).cell? _ = _
    rw [World.cell?_alloc_new]; rfl
  generalize (W3.alloc (.cells #[.pointer (some ⟨b, 1 + x * 9, none⟩)] 107)).drew = W4 at *
  have hb4 := hb3.trans (hb34.mono hb3.size)
  have d0 := (hb34.cell (p := ⟨B, 0, none⟩) s0).trans c0
  have d1 := (hb34.cell (p := ⟨B + 1, 0, none⟩) s1).trans c1
  have d2 := (hb34.cell (p := ⟨B + 1 + 1, 0, none⟩) (by simp; omega)).trans c2
  have g2 := (hb34.frozen (p := ⟨B + 1 + 1, 0, none⟩) (by simp; omega)).trans f2
  have hst := h.below hb4
  have e4 := hst.wrt hx
  have htab := hT.below hb4
  have HFT := Lib.hid (show ∀ k, FootV b vs k → k < B from fun k hk => by rw [HBw.out]; exact (h.foot k hk).2)
  have hbB : b < B := by rw [HBw.out]; exact h.1.lt
  have hw16 := hI.wlt x
  obtain ⟨s, hs⟩ : ∃ s, s = (Vw.tx v x).wrt := ⟨_, rfl⟩
  rw [← hs] at e4 hw16
  have HS := Lib.hid hs
  clear hs c0 c1 c2 f2 hb34 hb3 s0 s1 hs3 h hT
  gi_wp2_with fail
  refine ⟨trivial, ?_⟩
  refine (callsIn_wide.2 (bits_make s _)).mono ?_
  rintro e wb ⟨rfl, hwb⟩
  have hsb : wb.heap.size = B + 1 + 1 + 1 + 1 + 1 := by rw [← hwb]; simp; omega
  have hbb : Below W4.heap.size W4 wb := by rw [← hwb]; exact (Below.refl _ W4).alloc (Nat.le_refl _) _
  have hcb : wb.cell? ⟨B + 1 + 1 + 1 + 1, 0, none⟩ = some (nv s) := by rw [← hwb, ← hs4, World.cell?_alloc_new]; rfl
  rw [hs4]
  have e0 := (hbb.cell (p := ⟨B, 0, none⟩) (by simp; omega)).trans d0
  have e1 := (hbb.cell (p := ⟨B + 1, 0, none⟩) (by simp; omega)).trans d1
  have e2 := (hbb.cell (p := ⟨B + 1 + 1, 0, none⟩) (by simp; omega)).trans d2
  have e3 := (hbb.cell (p := ⟨B + 1 + 1 + 1, 0, none⟩) (by simp; omega)).trans c3
  have g2' := (hbb.frozen (p := ⟨B + 1 + 1, 0, none⟩) (by simp; omega)).trans g2
  have hstb := hst.below hbb
  have htabb := htab.below hbb
  have hBb := hb4.trans (hbb.mono hb4.size)
  clear hwb hbb d0 d1 d2 c3 g2 hst htab hb4 hs4 e4
  have HSB := Lib.hid hsb
  have HST := Lib.hid hstb
  have HTB := Lib.hid htabb
  have HBB := Lib.hid hBb
  have hTB : 2 < b := hTb
  clear hsb
  have hs4096 : s < 4096 := by omega
  gi_wp2_with fail
  refine wpIn_rangeFunc_ownF rfl (by omega) (gf := 81) (lb := #[.pointer (some ⟨B + 1 + 1 + 1 + 1, 0, none⟩)]) rfl trivial (enters_of Tryd.func81 (by kernel_rfl) rfl)
    (bits_stops 8 (by omega) (B + 1 + 1 + 1 + 1) b s hs4096 wb htabb hTB hcb) belowK_t (belowK_b (by have := HSB.out; omega)) (Below.refl _ _) (fun _ => rfl)
    (fun pre W => Okl v x pre ∧ Below wb.heap.size wb W)
    (fun d pre W => (d = .ret ∧ Vw.stale v x = true) ∧ W.cell? ⟨B + 1 + 1, 0, none⟩ = some (.iface 93 (.int .i64 6)) ∧ StAt W b (Vw.put v x { Vw.tx v x with ph := 3 }) vs ∧ Only (FootV b vs) w W ∧ wb.heap.size ≤ W.heap.size)
    (OwnFrom.and (ownFrom_pure _) (ownFrom_below (Nat.le_refl _) (Nat.le_refl _)))
    (fun _ => OwnFrom.and (ownFrom_pure _) (OwnFrom.and (ownFrom_cell1 _ _) (OwnFrom.and (ownFrom_st _ _ _) (ownFrom_only (by have := HSB.out; have := HBw.out; omega)))))
    ⟨(fun z hz => (by cases hz)), Below.refl _ _⟩
    (fun y => { tmps := #[.pointer (some ⟨b, 0, none⟩), nv x, .pointer (some ⟨B, 0, none⟩), .pointer (some ⟨B + 1, 0, none⟩), .pointer (some ⟨B + 1 + 1, 0, none⟩), .pointer (some ⟨B + 1 + 1 + 1, 0, none⟩), nv y.1, undef, undef, .pointer (some ⟨b, 0, none⟩), nv x, .pointer (some ⟨b, 0, none⟩), .pointer (some ⟨b, 1, none⟩), .pointer (some ⟨b, 1 + x * 9, none⟩), .pointer (some ⟨b, 1 + x * 9, none⟩), .pointer (some ⟨b, 1 + x * 9, none⟩), .pointer (some ⟨b, 1 + x * 9 + 4, none⟩), nv s, .func (.func 81) #[] #[.pointer (some ⟨B + 1 + 1 + 1 + 1, 0, none⟩)], nv y.1, undef, undef, undef, undef, undef, undef, undef, undef, undef, undef, undef, undef, undef, undef, undef, undef, undef, undef, undef, undef, undef, undef, undef, undef, undef, undef, undef, undef, undef, undef, undef, undef, undef, undef, undef, undef, undef, undef, undef, undef, undef, undef, undef, undef, undef, undef, undef, undef, undef, undef, undef, undef, undef, undef, undef, undef, undef, undef, undef, undef, undef, undef, undef, undef], defers := [] }) ?assign ?body ?done ?stop
  case assign =>
    intro l y W K hK
    gi_wp2
    exact hK
  case body =>
    rintro l pre ⟨y, hy⟩ W ⟨j1, j2⟩ _
    have hy4 : y < 4 := by
      rcases Nat.lt_or_ge y 4 with g | g
      · exact g
      · have h1 := Nat.ge_two_pow_of_testBit hy
        have h2 : 2 ^ 4 ≤ 2 ^ y := Nat.pow_le_pow_right (by omega) g
        omega
    have hwB : Below w.heap.size w W := HBB.out.trans (j2.mono HBB.out.size)
    have hSW := HST.out.below j2
    have a0 := (j2.cell (p := ⟨B, 0, none⟩) (by have := HSB.out; simp; omega)).trans e0
    have a2 := (j2.cell (p := ⟨B + 1 + 1, 0, none⟩) (by have := HSB.out; simp; omega)).trans e2
    have a3 := (j2.cell (p := ⟨B + 1 + 1 + 1, 0, none⟩) (by have := HSB.out; simp; omega)).trans e3
    have af := (j2.frozen (p := ⟨B + 1 + 1, 0, none⟩) (by have := HSB.out; simp; omega)).trans g2'
    have v1 := hSW.ver hy4
    have hln := hI.ver_len hy4
    have hfew := hI.few hy4
    obtain ⟨g, cap, hv, hg1, hg2, hc⟩ := hSW.lit hy4 hln
    rw [hv] at v1
    obtain ⟨-, hcl⟩ := hc ((Vw.verl v y).length - 1) (by omega)
    rw [show ((Vw.verl v y).getD ((Vw.verl v y).length - 1) Vw.dv).2 = Vw.lastAt (Vw.verl v y) from rfl] at hcl
    have v2 := hSW.bg hx
    have v3 := hSW.ph hx
    have v4 := hSW.1.frozen (1 + x * 9)
    have HY := Lib.hid (show ((Vw.tx v x).wrt.testBit y && decide ((Vw.tx v x).bg < Vw.lastAt (Vw.verl v y))) = true → Vw.stale v x = true from fun h => List.any_eq_true.2 ⟨y, List.mem_range.2 hy4, h⟩)
    have HYW := Lib.hid (show (Vw.tx v x).wrt.testBit y = true by rw [← HS.out]; exact hy)
    have J1 := Lib.hid j1
    have J2 := Lib.hid j2
    have HPUT := Lib.hid (show StAt (W.setCell ⟨b, 1 + x * 9, none⟩ (.int .i64 3)) b (Vw.put v x { Vw.tx v x with ph := 3 }) vs from hSW.put hI.ltx hx (c := 0) (by decide) (.int .i64 3) { Vw.tx v x with ph := 3 } (fun d hd => by
      match d with
      | 0 => rfl
      | 1 => rfl
      | 2 => rfl
      | 3 => rfl
      | 4 => rfl
      | d + 5 => rfl))
    have i3 : (y : Int) < 4 := by omega
    have i4 : (0 : Int) ≤ (y : Int) := by omega
    have HBWS := Lib.hid (And.intro hwB j2.size)
    generalize hn : (Vw.verl v y).length = n at *
    have HN := Lib.hid hn
    have w1 : IntKind.i64.wrap ((n : Int) - 1) = (n : Int) - 1 := IntWalk.i64_in _ (by constructor <;> omega)
    have w2 : (0 : Int) ≤ (n : Int) - 1 := by omega
    have w3 : (1 : Int) ≤ (n : Int) := by omega
    have w4 : ((n : Int) - 1).toNat = n - 1 := by omega
    have w5 : (n : Int) - 1 < (n : Int) := by omega
    by_cases hst : (Vw.tx v x).bg < Vw.lastAt (Vw.verl v y)
    · have HX := Lib.hid (HY.out (by rw [HYW.out]; simpa using hst))
      have t1 : decide ((Vw.tx v x).bg < Vw.lastAt (Vw.verl v y)) = true := by simpa using hst
      generalize Vw.lastAt (Vw.verl v y) = la at *
      generalize (Vw.tx v x).bg = bg at *
      clear j1 j2 hSW hc hv hwB hst hn HY
      gi_wp2_with fail
      refine region_tail_round (k := 11) (by kernel_rfl) (by kernel_rfl) (by kernel_rfl) ?_
      simp only [List.take_succ_cons, List.take_zero, List.drop_succ_cons, List.drop_zero]
      repeat (first | still_step)
      refine wpStill_nil ?_
      go_wp2
      dsimp only [NormalOnly]
      gi_wp2_with fail
      have q1 := KeepsOthers.setCell W ⟨b, 1 + x * 9, none⟩ (.int .i64 3)
      have q2 := KeepsOthers.setCell (W.setCell ⟨b, 1 + x * 9, none⟩ (.int .i64 3)) ⟨B + 1 + 1, 0, none⟩ (.iface 93 (.int .i64 6))
      have q3 : (W.setCell ⟨b, 1 + x * 9, none⟩ (.int .i64 3)).cell? ⟨B + 1 + 1, 0, none⟩ = some .nilIface := (World.cell?_setCell_far _ _ _ _ (by simp; omega)).trans a2
      exact ⟨(q1.trans q2).trans (KeepsOthers.drew _), ⟨rfl, HX.out⟩, World.cell?_setCell_same _ _ _ q3, (HPUT.out.away _ _ (fun k hk => by have := HFT.out k hk; simp; omega)).drewN 1,
        ((((Only.of_below HBWS.out.1 (Nat.le_refl _) _).setCell (.inl (.inl rfl)) _).setCell (.inr (by have := HBw.out; simp; omega)) _).drew), by have := HBWS.out.2; have := HSB.out; simp; omega⟩
    · have HX := Lib.hid (J1.out.snoc ⟨y, hy⟩ hst)
      have t1 : decide ((Vw.tx v x).bg < Vw.lastAt (Vw.verl v y)) = false := by simpa using hst
      generalize Vw.lastAt (Vw.verl v y) = la at *
      generalize (Vw.tx v x).bg = bg at *
      clear j1 j2 hSW hc hv hwB hst hn HY
      gi_wp2_with fail
      refine region_tail_round (k := 11) (by kernel_rfl) (by kernel_rfl) (by kernel_rfl) ?_
      simp only [List.take_succ_cons, List.take_zero, List.drop_succ_cons, List.drop_zero]
      repeat (first | still_step)
      refine wpStill_nil ?_
      go_wp2
      dsimp only [NormalOnly]
      gi_wp2_with fail
      exact ⟨KeepsOthers.drew W, (Below.refl b W).drew, HX.out, J2.out.drew⟩
  case done =>
    rintro D xs W hD hxs ⟨j1, j2⟩ hK
    have hnst : Vw.stale v x = false := by
      cases hh : Vw.stale v x
      · rfl
      · exfalso
        obtain ⟨i, hi, hh⟩ := List.any_eq_true.1 hh
        rw [Bool.and_eq_true, decide_eq_true_eq] at hh
        refine j1 i ?_ hh.2
        rw [hxs, mem_bitsOf hs4096, HS.out]
        exact hh.1
    have HNS := Lib.hid hnst
    have HMK := Lib.hid (show MarksOk B [D] W from (MarksOk.nil B W).cons hK (by have := HSB.out; omega) (by simp))
    have hmarks : ({ target := .collected D, args := #[] } : Deferred) :: [] = marks [D] := rfl
    have hSW := HST.out.below j2
    have hwB := HBB.out.trans (j2.mono HBB.out.size)
    have a0 := (j2.cell (p := ⟨B, 0, none⟩) (by have := HSB.out; simp; omega)).trans e0
    have a1 := (j2.cell (p := ⟨B + 1, 0, none⟩) (by have := HSB.out; simp; omega)).trans e1
    have a2 := (j2.cell (p := ⟨B + 1 + 1, 0, none⟩) (by have := HSB.out; simp; omega)).trans e2
    have a3 := (j2.cell (p := ⟨B + 1 + 1 + 1, 0, none⟩) (by have := HSB.out; simp; omega)).trans e3
    have af := (j2.frozen (p := ⟨B + 1 + 1, 0, none⟩) (by have := HSB.out; simp; omega)).trans g2'
    have b0 := hSW.now
    have b1 := hSW.1.frozen 0
    have hnow := hI.now_le
    have HCS := Lib.hid (commit_start hSW hI.ltx hx)
    have HTW := Lib.hid (HTB.out.below j2)
    have HWB := Lib.hid (And.intro hwB j2.size)
    obtain ⟨nw, hnw⟩ : ∃ nw, nw = v.now := ⟨_, rfl⟩
    rw [← hnw] at b0 hnow HCS
    have HNW := Lib.hid hnw
    have w1 : IntKind.i64.wrap ((nw : Int) + 1) = (nw : Int) + 1 := IntWalk.i64_in _ (by constructor <;> omega)
    clear j1 j2 hK hnst hwB hnw hxs e0 e1 e2 e3 g2' hcb hstb htabb hBb hTb
    gi_wp2_with fail
    have hne0 : ∀ j k, (⟨b, j, none⟩ : Addr) ≠ ⟨B + k, 0, none⟩ := fun j k e => by
      have h1 : b = B + k := congrArg Addr.block e
      omega
    have p0 := (World.cell?_setCell_other W ⟨b, 0, none⟩ ⟨B, 0, none⟩ (.int .i64 ((nw : Int) + 1)) (hne0 0 0)).trans a0
    have p3 := (World.cell?_setCell_other W ⟨b, 0, none⟩ ⟨B + 1 + 1 + 1, 0, none⟩ (.int .i64 ((nw : Int) + 1)) (hne0 0 3)).trans a3
    have pn := World.cell?_setCell_same W ⟨b, 0, none⟩ (.int .i64 ((nw : Int) + 1)) b0
    have s1 : ∀ (W' : World) (i : Nat) (u : Value) (k : Nat), (W'.setCell ⟨b, i, none⟩ u).cell? ⟨B + k, 0, none⟩ = W'.cell? ⟨B + k, 0, none⟩ := fun W' i u k => World.cell?_setCell_other _ _ _ _ (hne0 i k)
    have s2 : ∀ (W' : World) (i : Nat) (u : Value), (W'.setCell ⟨b, 1 + x * 9 + i, none⟩ u).cell? ⟨b, 0, none⟩ = W'.cell? ⟨b, 0, none⟩ := fun W' i u => World.cell?_setCell_other _ _ _ _ (fun e => by
      have h1 : 1 + x * 9 + i = 0 := congrArg Addr.off e
      omega)
    have r1 := (hSW.1.set 0 (.int .i64 ((nw : Int) + 1))).cell (i := 1 + x * 9) (by omega)
    have r2 := (hSW.1.set 0 (.int .i64 ((nw : Int) + 1))).cell (i := 1 + x * 9 + 2) (by omega)
    have r3 := (hSW.1.set 0 (.int .i64 ((nw : Int) + 1))).frozen (1 + x * 9)
    have r4 := (hSW.1.set 0 (.int .i64 ((nw : Int) + 1))).frozen (1 + x * 9 + 2)
    have r5 := ((hSW.1.set 0 (.int .i64 ((nw : Int) + 1))).set (1 + x * 9) (.int .i64 2)).cell (i := 1 + x * 9 + 2) (by omega)
    have r6 := ((hSW.1.set 0 (.int .i64 ((nw : Int) + 1))).set (1 + x * 9) (.int .i64 2)).frozen (1 + x * 9 + 2)
    refine wpIn_wide.2 ?_
    go_region_held3 (fun w' => w'.cell? ⟨B, 0, none⟩ = some (.pointer (some ⟨b, 0, none⟩)) ∧ w'.cell? ⟨B + 1 + 1 + 1, 0, none⟩ = some (.pointer (some ⟨b, 1 + x * 9, none⟩)) ∧ w'.cell? ⟨b, 0, none⟩ = some (.int .i64 ((nw : Int) + 1)))
      (first | exact ⟨p0, p3, pn⟩ | exact ⟨(s1 _ _ _ 0).trans p0, (s1 _ _ _ 3).trans p3, (s2 _ 0 _).trans pn⟩ | exact ⟨(s1 _ _ _ 0).trans ((s1 _ _ _ 0).trans p0), (s1 _ _ _ 3).trans ((s1 _ _ _ 3).trans p3), (s2 _ 2 _).trans ((s2 _ 0 _).trans pn)⟩) (fail)
    obtain ⟨W6, hW6⟩ : ∃ W6, (((W.setCell ⟨b, 0, none⟩ (.int .i64 ((nw : Int) + 1))).setCell ⟨b, 1 + x * 9, none⟩ (.int .i64 2)).setCell ⟨b, 1 + x * 9 + 2, none⟩ (.int .i64 ((nw : Int) + 1))).drew = W6 := ⟨_, rfl⟩
    rw [hW6]
    have k6 : KeepsOthers W W6 := by rw [← hW6]; exact (((KeepsOthers.setCell _ _ _).trans (KeepsOthers.setCell _ _ _)).trans (KeepsOthers.setCell _ _ _)).trans (KeepsOthers.drew _)
    have b6 : Below b W W6 := by rw [← hW6]; exact ((((Below.refl b W).setCell (p := ⟨b, 0, none⟩) (Nat.le_refl _) _).setCell (p := ⟨b, 1 + x * 9, none⟩) (Nat.le_refl _) _).setCell (p := ⟨b, 1 + x * 9 + 2, none⟩) (Nat.le_refl _) _).drew
    have o6 : Only (FootV b vs) w W6 := by rw [← hW6]; exact ((((Only.of_below HWB.out.1 (Nat.le_refl _) _).setCell (.inl (.inl rfl)) _).setCell (.inl (.inl rfl)) _).setCell (.inl (.inl rfl)) _).drew
    have t6 : StAt W6 b (Vw.cm v x []) vs := by
      have hh := HCS.out
      rw [show Vw.cm v x [] = Vw.cm v x [] from rfl] at hh
      rw [← hW6]
      exact hh.heap rfl
    have z6 : W.heap.size ≤ W6.heap.size := k6.size
    have q0 : W6.cell? ⟨B, 0, none⟩ = some (.pointer (some ⟨b, 0, none⟩)) := by rw [← hW6]; exact (s1 _ _ _ 0).trans ((s1 _ _ _ 0).trans p0)
    have q1 : W6.cell? ⟨B + 1, 0, none⟩ = some (nv x) := by rw [← hW6]; exact (s1 _ _ _ 1).trans ((s1 _ _ _ 1).trans ((s1 _ _ _ 1).trans a1))
    have q2 : W6.cell? ⟨B + 1 + 1, 0, none⟩ = some .nilIface := by rw [← hW6]; exact (s1 _ _ _ 2).trans ((s1 _ _ _ 2).trans ((s1 _ _ _ 2).trans a2))
    have q3 : W6.cell? ⟨B + 1 + 1 + 1, 0, none⟩ = some (.pointer (some ⟨b, 1 + x * 9, none⟩)) := by rw [← hW6]; exact (s1 _ _ _ 3).trans ((s1 _ _ _ 3).trans p3)
    have qf : W6.frozen? ⟨B + 1 + 1, 0, none⟩ = false := by
      have e : W6.heap[B + 1 + 1]? = W.heap[B + 1 + 1]? := by
        rw [← hW6]
        show (((W.setCell ⟨b, 0, none⟩ (.int .i64 ((nw : Int) + 1))).setCell ⟨b, 1 + x * 9, none⟩ (.int .i64 2)).setCell ⟨b, 1 + x * 9 + 2, none⟩ (.int .i64 ((nw : Int) + 1))).heap[B + 1 + 1]? = _
        rw [Below.heap_setCell _ _ _ _ (by simp; omega), Below.heap_setCell _ _ _ _ (by simp; omega), Below.heap_setCell _ _ _ _ (by simp; omega)]
      exact (World.frozen?_of_block e).trans af
    have m6 := HMK.out.others k6
    have tb6 := HTW.out.keep b6 hTB
    have wr6 := t6.wrt hx
    rw [Vw.tx_cm hI.ltx hx, if_pos rfl, show ({ Vw.tx v x with ph := 2, en := v.now + 1 } : Vw.T).wrt = s from HS.out.symm] at wr6
    clear k6 b6 p0 p3 pn s1 s2 r1 r2 r3 r4 r5 r6 hW6 HCS HMK HTW a0 a1 a2 a3 af b0 b1 hSW hne0 w1
    gi_wp2_with fail
    refine ⟨trivial, ?_⟩
    refine (callsIn_wide.2 (bits_make s _)).mono ?_
    rintro e wb2 ⟨rfl, hwb⟩
    obtain ⟨B2, hB2⟩ : ∃ B2, B2 = W6.heap.size := ⟨_, rfl⟩
    have hsb2 : wb2.heap.size = B2 + 1 := by rw [← hwb, hB2]; simp
    have hbb : Below W6.heap.size W6 wb2 := by rw [← hwb]; exact (Below.refl _ W6).alloc (Nat.le_refl _) _
    have hcb : wb2.cell? ⟨B2, 0, none⟩ = some (nv s) := by rw [← hwb, hB2, World.cell?_alloc_new]; rfl
    rw [← hB2]
    have hBB : B + 1 + 1 + 1 + 1 + 1 ≤ B2 := by have := HWB.out.2; have := HSB.out; omega
    have e0 := (hbb.cell (p := ⟨B, 0, none⟩) (by simp; omega)).trans q0
    have e1 := (hbb.cell (p := ⟨B + 1, 0, none⟩) (by simp; omega)).trans q1
    have e2 := (hbb.cell (p := ⟨B + 1 + 1, 0, none⟩) (by simp; omega)).trans q2
    have ef := (hbb.frozen (p := ⟨B + 1 + 1, 0, none⟩) (by simp; omega)).trans qf
    have hstb := t6.below hbb
    have htabb := tb6.below hbb
    have honb : Only (FootV b vs) w wb2 := o6.trans (Only.of_below hbb (Nat.le_refl _) (fun _ => False)) (fun _ h => h.elim)
    have hmkb := m6.calls hbb
    clear hwb hbb q0 q1 q2 q3 qf t6 tb6 o6 m6 wr6 z6 hB2
    gi_wp2_with fail
    have HS2 := Lib.hid hsb2
    have HBB2 := Lib.hid hBB
    have HN1 := Lib.hid (show (bitsOf s).length ≤ 12 by unfold bitsOf; exact Nat.le_trans (List.length_filter_le _ _) (by simp))
    have hf0 : ∀ i, i < 4 → (Vw.verl v i).length ≤ 6 := fun i hi => hI.few hi
    have HFEW := Lib.hid hf0
    clear hsb2 hf0
    refine wpIn_rangeFunc_ownF rfl (by omega) (gf := 81) (lb := #[.pointer (some ⟨B2, 0, none⟩)]) rfl trivial (enters_of Tryd.func81 (by kernel_rfl) rfl)
      (bits_stops 8 (by omega) B2 b s hs4096 wb2 htabb hTB hcb) belowK_t (belowK_b (by have := HS2.out; omega)) (Below.refl _ _) (fun _ => rfl)
      (fun pre W => (∃ vs', StAt W b (Vw.cm v x (pre.map (·.1))) vs' ∧ ∀ k, FootV b vs' k → FootV b vs k ∨ wb2.heap.size ≤ k) ∧ (Only (FootV b vs) w W ∧ wb2.heap.size ≤ W.heap.size) ∧ W.cell? ⟨B, 0, none⟩ = some (.pointer (some ⟨b, 0, none⟩)) ∧ W.cell? ⟨B + 1, 0, none⟩ = some (nv x) ∧ (W.cell? ⟨B + 1 + 1, 0, none⟩ = some .nilIface ∧ W.frozen? ⟨B + 1 + 1, 0, none⟩ = false) ∧ (MarksOk B [D] W ∧ wb2.heap.size ≤ W.heap.size))
      (fun _ _ _ => False)
      (OwnFrom.and (ownFrom_ex b _ _) (OwnFrom.and (ownFrom_only (by have := HS2.out; have := HBw.out; omega)) (OwnFrom.and (ownFrom_cell1 _ _) (OwnFrom.and (ownFrom_cell1 _ _) (OwnFrom.and (ownFrom_cell _ _) (ownFrom_marks hmkb.lt))))))
      (fun _ _ _ _ _ h _ _ => h)
      ⟨⟨vs, hstb, fun k hk => .inl hk⟩, ⟨honb, Nat.le_refl _⟩, e0, e1, ⟨e2, ef⟩, hmkb, Nat.le_refl _⟩
      (fun y => { tmps := #[.pointer (some ⟨b, 0, none⟩), nv x, .pointer (some ⟨B, 0, none⟩), .pointer (some ⟨B + 1, 0, none⟩), .pointer (some ⟨B + 1 + 1, 0, none⟩), .pointer (some ⟨B + 1 + 1 + 1, 0, none⟩), undef, undef, nv y.1, .pointer (some ⟨b, 0, none⟩), nv x, .pointer (some ⟨b, 0, none⟩), .pointer (some ⟨b, 1, none⟩), .pointer (some ⟨b, 1 + x * 9, none⟩), .pointer (some ⟨b, 1 + x * 9, none⟩), .pointer (some ⟨b, 1 + x * 9, none⟩), .pointer (some ⟨b, 1 + x * 9 + 4, none⟩), nv s, .func (.func 81) #[] #[.pointer (some ⟨B + 1 + 1 + 1 + 1, 0, none⟩)], undef, undef, undef, undef, undef, undef, undef, undef, undef, undef, undef, undef, undef, undef, undef, undef, undef, undef, undef, undef, undef, undef, undef, .pointer (some ⟨b, 0, none⟩), .pointer (some ⟨b, 0, none⟩), .pointer (some ⟨b, 0, none⟩), nv nw, .int .i64 ((nw : Int) + 1), .pointer (some ⟨b, 0, none⟩), .pointer (some ⟨b, 0, none⟩), .pointer (some ⟨b, 1 + x * 9, none⟩), .pointer (some ⟨b, 1 + x * 9, none⟩), .pointer (some ⟨b, 0, none⟩), .pointer (some ⟨b, 0, none⟩), .pointer (some ⟨b, 0, none⟩), .int .i64 ((nw : Int) + 1), .pointer (some ⟨b, 1 + x * 9, none⟩), .pointer (some ⟨b, 1 + x * 9, none⟩), .pointer (some ⟨b, 1 + x * 9, none⟩), .pointer (some ⟨b, 1 + x * 9 + 2, none⟩), .pointer (some ⟨b, 1 + x * 9, none⟩), .pointer (some ⟨b, 1 + x * 9, none⟩), .pointer (some ⟨b, 1 + x * 9 + 4, none⟩), nv s, .func (.func 81) #[] #[.pointer (some ⟨B2, 0, none⟩)], nv y.1, undef, undef, undef, undef, undef, undef, undef, undef, undef, undef, undef, undef, undef, undef, undef, undef, undef, undef, undef], defers := [] }) ?assign2 ?body2 ?done2 ?stop2
    case assign2 =>
      intro l y W K hK
      gi_wp2
      exact hK
    case body2 =>
      rintro l pre ⟨y, hy⟩ W ⟨⟨vs', j1, j2⟩, ⟨j3, j4⟩, j5, j6, ⟨j7, j8⟩, j9, -⟩ hlen
      have hy4 : y < 4 := by
        rcases Nat.lt_or_ge y 4 with g | g
        · exact g
        · have h1 := Nat.ge_two_pow_of_testBit hy
          have h2 : 2 ^ 4 ≤ 2 ^ y := Nat.pow_le_pow_right (by omega) g
          omega
      have hL := Vw.verl_cm v x (pre.map (·.1)) hy4
      have hcnt : (pre.map (·.1)).count y ≤ pre.length := by
        have := List.count_le_length (a := y) (l := pre.map (·.1))
        simpa using this
      have hv6 := HFEW.out y hy4
      have hlen1 : (Vw.verl (Vw.cm v x (pre.map (·.1))) y).length ≤ 100 := by
        rw [hL, List.length_append, List.length_replicate]
        have := HN1.out
        omega
      have hlen0 : 1 ≤ (Vw.verl (Vw.cm v x (pre.map (·.1))) y).length := by
        rw [hL, List.length_append]
        have := hI.ver_len hy4
        omega
      obtain ⟨g, cap, hv, hg1, hg2, hc⟩ := j1.lit hy4 hlen0
      have v1 := j1.ver hy4
      have v2 := j1.now
      have v3 := j1.1.frozen (46 + y)
      have hown := j1.2.1 y hy4
      rw [hv] at v1 hown
      rw [show (Vw.cm v x (pre.map (·.1))).now = nw + 1 by rw [HNW.out]; rfl] at v2
      have J1 := Lib.hid j1
      have J2 := Lib.hid j2
      have J3 := Lib.hid j3
      have J9 := Lib.hid j9
      have HOW := Lib.hid hown
      have hgn : (Value.slice (some ⟨g, 0, none⟩) (Vw.verl (Vw.cm v x (pre.map (·.1))) y).length cap).ownBlock ≠ some b := fun e => by
        have h1 : g = b := by injection e
        omega
      generalize hnn : (Vw.verl (Vw.cm v x (pre.map (·.1))) y).length = n at *
      have i3 : (y : Int) < 4 := by omega
      have i4 : (0 : Int) ≤ (y : Int) := by omega
      have x0 : B < W.heap.size := by have := HBB2.out; have := HS2.out; omega
      have x1 : B + 1 < W.heap.size := by have := HBB2.out; have := HS2.out; omega
      have x2 : b < W.heap.size := by omega
      obtain ⟨i0, hi0, hz0, hz1, hz2⟩ := info_parts Tryd.infoVer
      have HOA := Lib.hid (show World.ownsRow (W.alloc (.cells #[nv x, nv (nw + 1)] 106)).drew (b + 1) 106 2 (.slice (some ⟨g, 0, none⟩) n cap) n (vercells (Vw.verl (Vw.cm v x (pre.map (·.1))) y)) from by
        refine World.ownsRow.drew (World.ownsRow.alloc ?_ _)
        have := hown
        unfold OwnV at this
        rw [hnn] at this
        exact this)
      have HGB := Lib.hid (show B ≠ g from fun e => by
        rcases j2 g (.inr ⟨y, hy4, by rw [hv]; rfl⟩) with q | q
        · have := HFT.out g q; omega
        · have := HBB2.out; have := HS2.out; omega)
      have HGB1 := Lib.hid (show B + 1 ≠ g from fun e => by
        rcases j2 g (.inr ⟨y, hy4, by rw [hv]; rfl⟩) with q | q
        · have := HFT.out g q; omega
        · have := HBB2.out; have := HS2.out; omega)
      have HGB2 := Lib.hid (show B + 1 + 1 ≠ g from fun e => by
        rcases j2 g (.inr ⟨y, hy4, by rw [hv]; rfl⟩) with q | q
        · have := HFT.out g q; omega
        · have := HBB2.out; have := HS2.out; omega)
      have x3 : B + 1 + 1 < W.heap.size := by have := HBB2.out; have := HS2.out; omega
      have HV := Lib.hid hv
      have HGb := Lib.hid (show b ≠ g by omega)
      have HNB := Lib.hid (show ∀ (W' : World) (i : Nat) (u : Value) (k : Nat), (W'.setCell ⟨b, i, none⟩ u).cell? ⟨B + k, 0, none⟩ = W'.cell? ⟨B + k, 0, none⟩ from fun W' i u k => World.cell?_setCell_far _ _ _ _ (by simp; omega))
      have HN0 := Lib.hid (show ∀ (W' : World) (u : Value), (W'.setCell ⟨b, 46 + y, none⟩ u).cell? ⟨b, 0, none⟩ = W'.cell? ⟨b, 0, none⟩ from fun W' u => World.cell?_setCell_other _ _ _ _ (fun e => by
        have h1 : 46 + y = 0 := congrArg Addr.off e
        omega))
      clear hv hc hcnt hL hown j1 j2 j3 j9
      gi_wp2_with fail
      refine region_held_round (S := fun w' => w'.cell? ⟨B, 0, none⟩ = some (.pointer (some ⟨b, 0, none⟩)) ∧ w'.cell? ⟨B + 1, 0, none⟩ = some (nv x) ∧ w'.cell? ⟨b, 0, none⟩ = some (nv (nw + 1))) (by kernel_rfl) (by kernel_rfl) ?_
      have hS0 : (fun w' : World => w'.cell? ⟨B, 0, none⟩ = some (.pointer (some ⟨b, 0, none⟩)) ∧ w'.cell? ⟨B + 1, 0, none⟩ = some (nv x) ∧ w'.cell? ⟨b, 0, none⟩ = some (nv (nw + 1))) W.drew := ⟨j5, j6, v2⟩
      refine wpAnyH_take (i := 0) (oi := ⟨some 65, _, _, _, _, _⟩) (v := ?_) rfl (by kernel_rfl) (by kernel_rfl) (by kernel_rfl) (fun _ _ _ h => h) (Or.inl ⟨by rfl, ?_⟩) hS0 ?_
      rotate_left
      · intro w' hSw; (try dsimp only at hSw); go_simp; try with_reducible rfl
      simp only [Act.put, List.setIfInBounds_toArray, List.set_cons_zero, List.set_cons_succ]
      refine wpAnyH_take (i := 1) (oi := ⟨some 66, _, _, _, _, _⟩) (v := ?_) rfl (by kernel_rfl) (by kernel_rfl) (by kernel_rfl) (fun _ _ _ h => h) (Or.inl ⟨by rfl, ?_⟩) hS0 ?_
      rotate_left
      · intro w' hSw; (try dsimp only at hSw); go_simp; try with_reducible rfl
      simp only [Act.put, List.setIfInBounds_toArray, List.set_cons_zero, List.set_cons_succ]
      refine wpAnyH_take (i := 2) (oi := ⟨some 67, _, _, _, _, _⟩) (v := ?_) rfl (by kernel_rfl) (by kernel_rfl) (by kernel_rfl) (fun _ _ _ h => h) (Or.inl ⟨by rfl, ?_⟩) hS0 ?_
      rotate_left
      · intro w' hSw; (try dsimp only at hSw); go_simp; try with_reducible rfl
      simp only [Act.put, List.setIfInBounds_toArray, List.set_cons_zero, List.set_cons_succ]
      refine wpAnyH_take (i := 3) (oi := ⟨some 68, _, _, _, _, _⟩) (v := ?_) rfl (by kernel_rfl) (by kernel_rfl) (by kernel_rfl) (fun _ _ _ h => h) (Or.inl ⟨by rfl, ?_⟩) hS0 ?_
      rotate_left
      · intro w' hSw; (try dsimp only at hSw); go_simp; try with_reducible rfl
      simp only [Act.put, List.setIfInBounds_toArray, List.set_cons_zero, List.set_cons_succ]
      refine wpAnyH_take (i := 4) (oi := ⟨some 69, _, _, _, _, _⟩) (v := ?_) rfl (by kernel_rfl) (by kernel_rfl) (by kernel_rfl) (fun _ _ _ h => h) (Or.inl ⟨by rfl, ?_⟩) hS0 ?_
      rotate_left
      · intro w' hSw; (try dsimp only at hSw); go_simp; try with_reducible rfl
      simp only [Act.put, List.setIfInBounds_toArray, List.set_cons_zero, List.set_cons_succ]
      refine wpAnyH_take (i := 5) (oi := ⟨some 70, _, _, _, _, _⟩) (v := ?_) rfl (by kernel_rfl) (by kernel_rfl) (by kernel_rfl) (fun _ _ _ h => h) (Or.inl ⟨by rfl, ?_⟩) hS0 ?_
      rotate_left
      · intro w' hSw; (try dsimp only at hSw); go_simp; try with_reducible rfl
      simp only [Act.put, List.setIfInBounds_toArray, List.set_cons_zero, List.set_cons_succ]
      refine wpAnyH_take (i := 6) (oi := ⟨some 71, _, _, _, _, _⟩) (v := ?_) rfl (by kernel_rfl) (by kernel_rfl) (by kernel_rfl) (fun _ _ _ h => h) (Or.inl ⟨by rfl, ?_⟩) hS0 ?_
      rotate_left
      · intro w' hSw; (try dsimp only at hSw); go_simp; try with_reducible rfl
      simp only [Act.put, List.setIfInBounds_toArray, List.set_cons_zero, List.set_cons_succ]
      refine wpAnyH_take (i := 8) (oi := ⟨some 73, _, _, _, _, _⟩) (v := ?_) rfl (by kernel_rfl) (by kernel_rfl) (by kernel_rfl) (fun _ _ _ h => h) (Or.inl ⟨by rfl, ?_⟩) hS0 ?_
      rotate_left
      · intro w' hSw; (try dsimp only at hSw); go_simp; try with_reducible rfl
      simp only [Act.put, List.setIfInBounds_toArray, List.set_cons_zero, List.set_cons_succ]
      refine wpAnyH_take (i := 9) (oi := ⟨some 74, _, _, _, _, _⟩) (v := ?_) rfl (by kernel_rfl) (by kernel_rfl) (by kernel_rfl) (fun _ _ _ h => h) (Or.inl ⟨by rfl, ?_⟩) hS0 ?_
      rotate_left
      · intro w' hSw; (try dsimp only at hSw); go_simp; try with_reducible rfl
      simp only [Act.put, List.setIfInBounds_toArray, List.set_cons_zero, List.set_cons_succ]
      refine wpAnyH_take (i := 10) (oi := ⟨some 75, _, _, _, _, _⟩) (v := ?_) rfl (by kernel_rfl) (by kernel_rfl) (by kernel_rfl) (fun _ _ _ h => h) (Or.inl ⟨by rfl, ?_⟩) hS0 ?_
      rotate_left
      · intro w' hSw; (try dsimp only at hSw); go_simp; try with_reducible rfl
      simp only [Act.put, List.setIfInBounds_toArray, List.set_cons_zero, List.set_cons_succ]
      refine wpAnyH_take (i := 11) (oi := ⟨some 76, _, _, _, _, _⟩) (v := ?_) rfl (by kernel_rfl) (by kernel_rfl) (by kernel_rfl) (fun _ _ _ h => h) (Or.inl ⟨by rfl, ?_⟩) hS0 ?_
      rotate_left
      · intro w' hSw; (try dsimp only at hSw); go_simp; try with_reducible rfl
      simp only [Act.put, List.setIfInBounds_toArray, List.set_cons_zero, List.set_cons_succ]
      refine wpAnyH_take (i := 12) (oi := ⟨some 77, _, _, _, _, _⟩) (v := ?_) rfl (by kernel_rfl) (by kernel_rfl) (by kernel_rfl) (fun _ _ _ h => h) (Or.inl ⟨by rfl, ?_⟩) hS0 ?_
      rotate_left
      · intro w' hSw; (try dsimp only at hSw); go_simp; try with_reducible rfl
      simp only [Act.put, List.setIfInBounds_toArray, List.set_cons_zero, List.set_cons_succ]
      refine wpAnyH_take (i := 13) (oi := ⟨some 78, _, _, _, _, _⟩) (v := ?_) rfl (by kernel_rfl) (by kernel_rfl) (by kernel_rfl) (fun _ _ _ h => h) (Or.inl ⟨by rfl, ?_⟩) hS0 ?_
      rotate_left
      · intro w' hSw; (try dsimp only at hSw); go_simp; try with_reducible rfl
      simp only [Act.put, List.setIfInBounds_toArray, List.set_cons_zero, List.set_cons_succ]
      refine wpAnyH_take (i := 16) (oi := ⟨some 81, _, _, _, _, _⟩) (v := ?_) rfl (by kernel_rfl) (by kernel_rfl) (by kernel_rfl) (fun _ _ _ h => h) (Or.inl ⟨by rfl, ?_⟩) hS0 ?_
      rotate_left
      · intro w' hSw; (try dsimp only at hSw); go_simp; try with_reducible rfl
      simp only [Act.put, List.setIfInBounds_toArray, List.set_cons_zero, List.set_cons_succ]
      refine wpAnyH_take (i := 17) (oi := ⟨some 82, _, _, _, _, _⟩) (v := ?_) rfl (by kernel_rfl) (by kernel_rfl) (by kernel_rfl) (fun _ _ _ h => h) (Or.inl ⟨by rfl, ?_⟩) hS0 ?_
      rotate_left
      · intro w' hSw; (try dsimp only at hSw); go_simp; try with_reducible rfl
      simp only [Act.put, List.setIfInBounds_toArray, List.set_cons_zero, List.set_cons_succ]
      refine wpAnyH_ready (rs := [7, 14]) (by kernel_rfl) (by simp) ?_
      refine AllReadyH.cons (o := ⟨some 72, _, _, _, _, _⟩) rfl (fun K hK => ?_) (AllReadyH.cons (o := ⟨some 79, _, _, _, _, _⟩) rfl (fun K hK => ?_) AllReadyH.nil)
      · go_simp
        refine hK.out _ _ hS0 (fun hS1 => ?_)
        clear hK K
        refine wpAnyH_ready (rs := [14]) (by kernel_rfl) (by simp) ?_
        refine AllReadyH.cons (o := ⟨some 79, _, _, _, _, _⟩) rfl (fun K hK => ?_) AllReadyH.nil
        go_simp
        refine hK.out _ _ ⟨(World.cell?_alloc_old _ _ _ (by simp; omega)).trans j5, (World.cell?_alloc_old _ _ _ (by simp; omega)).trans j6, (World.cell?_alloc_old _ _ _ (by simp; omega)).trans v2⟩ (fun hS2 => ?_)
        clear hK K
        refine wpAnyH_ready (rs := [15]) (by kernel_rfl) (by simp) ?_
        refine AllReadyH.cons (o := ⟨some 80, _, _, _, _, _⟩) rfl (fun K hK => ?_) AllReadyH.nil
        refine step_append_lies _ (by rfl) _ _ _ (by rfl) (b + 1) 106 i0 _ 2 16 Tryd.underlying101 hi0 hz0 hz1 hz2 rfl (by omega) (.slice (some ⟨g, 0, none⟩) n cap) n (vercells (Vw.verl (Vw.cm v x (pre.map (·.1))) y)) (by rfl) HOA.out ⟨W.heap.size, 0, none⟩ 1 1 [nv x, nv (nw + 1)] (by rfl) (by rfl) (World.news_of_block (cs := #[nv x, nv (nw + 1)]) (t := 106) (fr := (0, 0)) (by show (W.heap.push _)[W.heap.size]? = _; simp)) (by simp [Value.oneCell']) (by omega) (by unfold maxLen; omega) (by omega) (by show b + 1 ≤ (W.heap.push _).size; simp; omega) (W.heap.size + 1) (by show (W.heap.push _).size = _; simp) ?_
        intro gg cap2 w1 hown1 hgrow hat hlt1
        have hbr : ∀ k, k < W.heap.size → k ≠ g → w1.heap[k]? = W.heap[k]? := fun k hk hkg => (hgrow.block k (by show k < (W.heap.push _).size; simp; omega) (fun e => by injection e with e; exact hkg e)).trans (by show (W.heap.push _)[k]? = _; rw [Array.getElem?_push]; rw [if_neg (by omega)])
        have y0 := (World.cell?_of_block (a := ⟨B, 0, none⟩) (hbr B x0 HGB.out)).trans j5
        have y1 := (World.cell?_of_block (a := ⟨B + 1, 0, none⟩) (hbr (B + 1) x1 HGB1.out)).trans j6
        have y2 := (World.cell?_of_block (a := ⟨b, 0, none⟩) (hbr b x2 HGb.out)).trans v2
        have y3 := (World.cell?_of_block (a := ⟨b, 46 + y, none⟩) (hbr b x2 HGb.out)).trans v1
        have y4 := (World.frozen?_of_block (a := ⟨b, 46 + y, none⟩) (hbr b x2 HGb.out)).trans v3
        refine hK.out _ _ ⟨y0, y1, y2⟩ (fun hS3 => ?_)
        simp only [Act.put, List.setIfInBounds_toArray, List.set_cons_zero, List.set_cons_succ]
        clear hK K
        refine wpAnyH_take (i := 18) (oi := ⟨some 83, _, _, _, _, _⟩) (v := ?_) rfl (by kernel_rfl) (by kernel_rfl) (by kernel_rfl) (fun _ _ _ h => h) (Or.inl ⟨by rfl, ?_⟩) hS3 ?_
        rotate_left
        · intro w' hSw; (try dsimp only at hSw); go_simp; try with_reducible rfl
        simp only [Act.put, List.setIfInBounds_toArray, List.set_cons_zero, List.set_cons_succ]
        refine wpAnyH_ready (rs := [19]) (by kernel_rfl) (by simp) ?_
        refine AllReadyH.cons (o := ⟨none, _, _, _, _, _⟩) rfl (fun K hK => ?_) AllReadyH.nil
        go_simp
        refine hK.out _ _ ⟨(HNB.out _ _ _ 0).trans y0, (HNB.out _ _ _ 1).trans y1, (HN0.out _ _).trans y2⟩ (fun hS4 => ?_)
        clear hK K
        refine wpAnyH_done (by kernel_rfl) ?_ _
        dsimp only [NormalOnly]
        gi_wp2_with fail
        have hgr2 : ∀ k, (Value.slice (some ⟨g, 0, none⟩) n cap).ownBlock = some k → FootV b vs k ∨ w.heap.size ≤ k := fun k hk => by
          injection hk with hk
          rcases J2.out g (.inr ⟨y, hy4, by rw [HV.out]; rfl⟩) with q | q
          · exact .inl (hk ▸ q)
          · exact .inr (by have := HS2.out; have := HBB2.out; have := HBw.out; have hk' : g = k := hk; omega)
        obtain ⟨t1, t2⟩ := commit_next J1.out hI.ltx hx hy4 HV.out hnn.symm hgrow (by rw [← HNW.out]; exact hown1) hat
        have t1' : StAt (w1.setCell ⟨b, 46 + y, none⟩ (.slice (some ⟨gg, 0, none⟩) (n + 1) cap2)) b (Vw.cm v x ((pre ++ [(⟨y, hy⟩ : El s)]).map (·.1))) (fun k => if k = y then .slice (some ⟨gg, 0, none⟩) (n + 1) cap2 else vs' k) := by
          rw [List.map_append]
          exact t1
        have y5 := (World.cell?_of_block (a := ⟨B + 1 + 1, 0, none⟩) (hbr (B + 1 + 1) x3 HGB2.out)).trans j7
        have y6 := (World.frozen?_of_block (a := ⟨B + 1 + 1, 0, none⟩) (hbr (B + 1 + 1) x3 HGB2.out)).trans j8
        have ko : KeepsOthers W (w1.setCell ⟨b, 46 + y, none⟩ (.slice (some ⟨gg, 0, none⟩) (n + 1) cap2)) := (((KeepsOthers.alloc W _).trans (KeepsOthers.drew _)).trans (KeepsOthers.of_grownBy hgrow (fun j o hj hjo => by
          injection hj with hj
          have hj' : g = j := hj
          subst hj'
          rcases (HOA.out).2 with ⟨q, _⟩ | ⟨k, cp, cur, q, _, hh, _⟩
          · cases q
          · injection q with q _ _
            injection q with q
            have q' : g = k := congrArg Addr.block q
            rw [q', hh] at hjo
            injection hjo with hjo
            rw [← hjo]; rfl))).trans (KeepsOthers.setCell _ _ _)
        have hsz : W.heap.size ≤ w1.heap.size := Nat.le_trans (by simp) hgrow.size
        refine ⟨ko, ?_, ⟨_, t1', fun k hk => ?_⟩, ⟨?_, ?_⟩, (HNB.out _ _ _ 0).trans y0, (HNB.out _ _ _ 1).trans y1, ⟨(HNB.out _ _ _ 2).trans y5, ?_⟩, J9.out.others ko, ?_⟩
        · exact ((((Below.refl b W).alloc (by omega) _).drew).grown hgrow (by simp; omega) (fun k hk => by injection hk with hk; have hk' : g = k := hk; omega)).setCell (p := ⟨b, 46 + y, none⟩) (Nat.le_refl _) _
        · rcases t2 k hk with q | q
          · exact J2.out k q
          · exact .inr (by omega)
        · exact ((((J3.out.alloc _).drew).grown hgrow hgr2).setCell (.inl (.inl rfl)) _)
        · simp; omega
        · exact (World.frozen?_of_block (Below.heap_setCell _ _ _ _ (by simp; omega))).trans y6
        · simp; omega
      · go_simp
        refine hK.out _ _ ⟨(World.cell?_alloc_old _ _ _ (by simp; omega)).trans j5, (World.cell?_alloc_old _ _ _ (by simp; omega)).trans j6, (World.cell?_alloc_old _ _ _ (by simp; omega)).trans v2⟩ (fun hS2 => ?_)
        clear hK K
        have v1a : (W.alloc (.cells #[nv x, nv (nw + 1)] 106)).cell? ⟨b, 46 + y, none⟩ = some (.slice (some ⟨g, 0, none⟩) n cap) := (World.cell?_alloc_old _ _ _ (by simp; omega)).trans v1
        refine wpAnyH_ready (rs := [7]) (by kernel_rfl) (by simp) ?_
        refine AllReadyH.cons (o := ⟨some 72, _, _, _, _, _⟩) rfl (fun K hK => ?_) AllReadyH.nil
        go_simp
        refine hK.out _ _ hS2 (fun hS5 => ?_)
        clear hK K
        refine wpAnyH_ready (rs := [15]) (by kernel_rfl) (by simp) ?_
        refine AllReadyH.cons (o := ⟨some 80, _, _, _, _, _⟩) rfl (fun K hK => ?_) AllReadyH.nil
        refine step_append_lies _ (by rfl) _ _ _ (by rfl) (b + 1) 106 i0 _ 2 16 Tryd.underlying101 hi0 hz0 hz1 hz2 rfl (by omega) (.slice (some ⟨g, 0, none⟩) n cap) n (vercells (Vw.verl (Vw.cm v x (pre.map (·.1))) y)) (by rfl) HOA.out ⟨W.heap.size, 0, none⟩ 1 1 [nv x, nv (nw + 1)] (by rfl) (by rfl) (World.news_of_block (cs := #[nv x, nv (nw + 1)]) (t := 106) (fr := (0, 0)) (by show (W.heap.push _)[W.heap.size]? = _; simp)) (by simp [Value.oneCell']) (by omega) (by unfold maxLen; omega) (by omega) (by show b + 1 ≤ (W.heap.push _).size; simp; omega) (W.heap.size + 1) (by show (W.heap.push _).size = _; simp) ?_
        intro gg cap2 w1 hown1 hgrow hat hlt1
        have hbr : ∀ k, k < W.heap.size → k ≠ g → w1.heap[k]? = W.heap[k]? := fun k hk hkg => (hgrow.block k (by show k < (W.heap.push _).size; simp; omega) (fun e => by injection e with e; exact hkg e)).trans (by show (W.heap.push _)[k]? = _; rw [Array.getElem?_push]; rw [if_neg (by omega)])
        have y0 := (World.cell?_of_block (a := ⟨B, 0, none⟩) (hbr B x0 HGB.out)).trans j5
        have y1 := (World.cell?_of_block (a := ⟨B + 1, 0, none⟩) (hbr (B + 1) x1 HGB1.out)).trans j6
        have y2 := (World.cell?_of_block (a := ⟨b, 0, none⟩) (hbr b x2 HGb.out)).trans v2
        have y3 := (World.cell?_of_block (a := ⟨b, 46 + y, none⟩) (hbr b x2 HGb.out)).trans v1
        have y4 := (World.frozen?_of_block (a := ⟨b, 46 + y, none⟩) (hbr b x2 HGb.out)).trans v3
        refine hK.out _ _ ⟨y0, y1, y2⟩ (fun hS3 => ?_)
        simp only [Act.put, List.setIfInBounds_toArray, List.set_cons_zero, List.set_cons_succ]
        clear hK K
        refine wpAnyH_take (i := 18) (oi := ⟨some 83, _, _, _, _, _⟩) (v := ?_) rfl (by kernel_rfl) (by kernel_rfl) (by kernel_rfl) (fun _ _ _ h => h) (Or.inl ⟨by rfl, ?_⟩) hS3 ?_
        rotate_left
        · intro w' hSw; (try dsimp only at hSw); go_simp; try with_reducible rfl
        simp only [Act.put, List.setIfInBounds_toArray, List.set_cons_zero, List.set_cons_succ]
        refine wpAnyH_ready (rs := [19]) (by kernel_rfl) (by simp) ?_
        refine AllReadyH.cons (o := ⟨none, _, _, _, _, _⟩) rfl (fun K hK => ?_) AllReadyH.nil
        go_simp
        refine hK.out _ _ ⟨(HNB.out _ _ _ 0).trans y0, (HNB.out _ _ _ 1).trans y1, (HN0.out _ _).trans y2⟩ (fun hS4 => ?_)
        clear hK K
        refine wpAnyH_done (by kernel_rfl) ?_ _
        dsimp only [NormalOnly]
        gi_wp2_with fail
        have hgr2 : ∀ k, (Value.slice (some ⟨g, 0, none⟩) n cap).ownBlock = some k → FootV b vs k ∨ w.heap.size ≤ k := fun k hk => by
          injection hk with hk
          rcases J2.out g (.inr ⟨y, hy4, by rw [HV.out]; rfl⟩) with q | q
          · exact .inl (hk ▸ q)
          · exact .inr (by have := HS2.out; have := HBB2.out; have := HBw.out; have hk' : g = k := hk; omega)
        obtain ⟨t1, t2⟩ := commit_next J1.out hI.ltx hx hy4 HV.out hnn.symm hgrow (by rw [← HNW.out]; exact hown1) hat
        have t1' : StAt (w1.setCell ⟨b, 46 + y, none⟩ (.slice (some ⟨gg, 0, none⟩) (n + 1) cap2)) b (Vw.cm v x ((pre ++ [(⟨y, hy⟩ : El s)]).map (·.1))) (fun k => if k = y then .slice (some ⟨gg, 0, none⟩) (n + 1) cap2 else vs' k) := by
          rw [List.map_append]
          exact t1
        have y5 := (World.cell?_of_block (a := ⟨B + 1 + 1, 0, none⟩) (hbr (B + 1 + 1) x3 HGB2.out)).trans j7
        have y6 := (World.frozen?_of_block (a := ⟨B + 1 + 1, 0, none⟩) (hbr (B + 1 + 1) x3 HGB2.out)).trans j8
        have ko : KeepsOthers W (w1.setCell ⟨b, 46 + y, none⟩ (.slice (some ⟨gg, 0, none⟩) (n + 1) cap2)) := (((KeepsOthers.alloc W _).trans (KeepsOthers.drew _)).trans (KeepsOthers.of_grownBy hgrow (fun j o hj hjo => by
          injection hj with hj
          have hj' : g = j := hj
          subst hj'
          rcases (HOA.out).2 with ⟨q, _⟩ | ⟨k, cp, cur, q, _, hh, _⟩
          · cases q
          · injection q with q _ _
            injection q with q
            have q' : g = k := congrArg Addr.block q
            rw [q', hh] at hjo
            injection hjo with hjo
            rw [← hjo]; rfl))).trans (KeepsOthers.setCell _ _ _)
        have hsz : W.heap.size ≤ w1.heap.size := Nat.le_trans (by simp) hgrow.size
        refine ⟨ko, ?_, ⟨_, t1', fun k hk => ?_⟩, ⟨?_, ?_⟩, (HNB.out _ _ _ 0).trans y0, (HNB.out _ _ _ 1).trans y1, ⟨(HNB.out _ _ _ 2).trans y5, ?_⟩, J9.out.others ko, ?_⟩
        · exact ((((Below.refl b W).alloc (by omega) _).drew).grown hgrow (by simp; omega) (fun k hk => by injection hk with hk; have hk' : g = k := hk; omega)).setCell (p := ⟨b, 46 + y, none⟩) (Nat.le_refl _) _
        · rcases t2 k hk with q | q
          · exact J2.out k q
          · exact .inr (by omega)
        · exact ((((J3.out.alloc _).drew).grown hgrow hgr2).setCell (.inl (.inl rfl)) _)
        · simp; omega
        · exact (World.frozen?_of_block (Below.heap_setCell _ _ _ _ (by simp; omega))).trans y6
        · simp; omega
    case done2 =>
      rintro D2 xs W hD2 hxs ⟨⟨vs', j1, j2⟩, ⟨j3, j4⟩, j5, j6, ⟨j7, j8⟩, j9, -⟩ hK
      have hcm : Vw.cm v x (xs.map (·.1)) = Vw.commit v x := by
        refine Vw.cm_all v x ?_ fun i hi => ?_
        · rw [hxs]
          unfold bitsOf
          exact List.nodup_range.filter _
        · rw [hxs, mem_bitsOf hs4096, HS.out]
      rw [hcm] at j1
      have hDn : D2 ∉ [D] := fun h => by
        have h1 := hmkb.lt D (List.mem_singleton.2 rfl)
        have h2 := List.mem_singleton.1 h
        omega
      have hm2 : MarksOk B [D2, D] W := j9.cons hK (by have := HS2.out; have := HBB2.out; omega) hDn
      have hmarks2 : ({ target := .collected D2, args := #[] } : Deferred) :: marks [D] = marks [D2, D] := rfl
      rw [hmarks2]
      have HM := Lib.hid (hm2.others (KeepsOthers.setCell W ⟨B + 1 + 1, 0, none⟩ .nilIface))
      have HR := Lib.hid (World.cell?_setCell_same W ⟨B + 1 + 1, 0, none⟩ .nilIface j7)
      have HT2 := Lib.hid (show StAt (W.setCell ⟨B + 1 + 1, 0, none⟩ .nilIface) b (Vw.commit v x) vs' from j1.away _ _ (fun k hk => by
        rcases j2 k hk with q | q
        · have := HFT.out k q; simp; omega
        · have := HS2.out; have := HBB2.out; simp; omega))
      have HO2 := Lib.hid (show Only (FootV b vs) w (W.setCell ⟨B + 1 + 1, 0, none⟩ .nilIface) from j3.setCell (.inr (by have := HBw.out; simp; omega)) _)
      have HF2 := Lib.hid (show ∀ k, FootV b vs' k → FootV b vs k ∨ w.heap.size ≤ k from fun k hk => by
        rcases j2 k hk with q | q
        · exact .inl q
        · exact .inr (by have := HS2.out; have := HBB2.out; have := HBw.out; omega))
      clear j1 j2 j3 j9 hm2 hmarks2 hmkb
      gi_wp2_with fail
      refine leaves_marks _ _ HM.out fun w' hs => ?_
      have hcw := hs.cellV HR.out
      refine ⟨.nilIface, by simp [results, Tryd.results62, go_sem, hcw], fun hst => ?_, fun _ => ⟨rfl, vs', HT2.out.shut hs, Shut.only HO2.out hs (by have := HBw.out; omega), HF2.out⟩⟩
      rw [HNS.out] at hst; cases hst
    case stop2 =>
      rintro D d pre W hD _ h hK
      exact h.elim
  case stop =>
    rintro D d pre W hD _ ⟨⟨rfl, hst⟩, j1, j2, j3, j4⟩ hK
    have HM := Lib.hid (show MarksOk B [D] W from (MarksOk.nil B W).cons hK (by have := HSB.out; omega) (by simp))
    have hmarks : ({ target := .collected D, args := #[] } : Deferred) :: [] = marks [D] := rfl
    have HR := Lib.hid j1
    have HT2 := Lib.hid j2
    have HO2 := Lib.hid j3
    have HX := Lib.hid hst
    rw [hmarks]
    clear j1 j2 j3 hK hst
    gi_wp2_with fail
    refine leaves_marks _ _ HM.out fun w' hs => ?_
    have hcw := hs.cellV HR.out
    refine ⟨.iface 93 (.int .i64 6), by simp [results, Tryd.results62, go_sem, hcw], fun _ => ⟨rfl, vs, HT2.out.shut hs, Shut.only HO2.out hs (by have := HBw.out; omega), fun k hk => .inl hk⟩, fun h => ?_⟩
    rw [HX.out] at h; cases h
end Go.Proofs.YtkindaadadggoaaDoor
