/- The cover of chain.Rows as it is made. Conditions: each contract's own premises. -/
import Derived.Test.YtpicjikjinkkpaaDoorCovM
import Derived.Test.YtpicjikjinkkpaaDoorMarks
import Derived.Deep.RegionHeld3
namespace Go.Proofs.YtpicjikjinkkpaaDoor
open Go.RowKit Go.Shelf
attribute [local go_sem] Oper.semAt_some

/-- 'make([]int, n)', its run at any world -/
theorem run_makeN (n : Nat) (hn : n ≤ 1000000) : ∃ ZN : Obj, (∀ w : World, (Instr.makeSlice 22 (nv n) (nv n)).run Tryd.prog w = .ok (.slice (some ⟨w.heap.size, 0, none⟩) n n) (w.alloc ZN)) ∧
    ∀ (w : World) (base : Nat), base ≤ w.heap.size → Own (w.alloc ZN) base (.slice (some ⟨w.heap.size, 0, none⟩) n n) (zs (List.replicate n 0)) := by
  obtain ⟨i0, hi, hz0, hz1, hz2⟩ := info_parts Tryd.infoInt
  refine ⟨.cells (madeCells (Value.int .i64 0).cells (n * 1)) 3, fun w => ?_, fun w base hb => ?_⟩
  · have h := run_make (P := Tryd.prog) w 22 3 i0 (.int .i64 0) Tryd.underlying22 hi hz0 .i64 .i64 (n : Int) (n : Int) (by omega) (by omega) (by rw [hz2]; omega) (by omega)
    rw [hz1] at h
    exact h
  · have e := toList_madeCells_one (.int .i64 0) n
    obtain ⟨w', hrun, r1, r2⟩ := run_make_full (P := Tryd.prog) w base 22 3 i0 (.int .i64 0) 1 Tryd.underlying22 hi hz0 hz1 .i64 .i64 n (by rw [hz2]; omega) (by unfold maxLen; omega) hb
    have h := run_make (P := Tryd.prog) w 22 3 i0 (.int .i64 0) Tryd.underlying22 hi hz0 .i64 .i64 (n : Int) (n : Int) (by omega) (by omega) (by rw [hz2]; omega) (by omega)
    rw [hz1] at h
    have hw := hrun.symm.trans h
    injection hw with _ hw
    subst hw
    unfold Own
    simp only [Value.cells, Nat.mul_one] at r1
    rw [e] at r1
    have h2 : zs (List.replicate n 0) = List.replicate n (0 : Int) := by simp [zs]
    rw [h2]
    simp [Value.cells, iv]
    simpa using r1
section
variable {w : World} {ZN : Obj} {n most : Nat}
def Made (ZN : Obj) (n : Nat) : Prop := ∀ (w : World) (base : Nat), base ≤ w.heap.size → Own (w.alloc ZN) base (.slice (some ⟨w.heap.size, 0, none⟩) n n) (zs (List.replicate n 0))
theorem made1 (h : Made ZN n) (o2 o3 : Obj) : Own (((w.alloc ZN).alloc o2).alloc o3).drew w.heap.size (sl0 w.heap.size n) (zs (List.replicate n 0)) := (((h w _ (Nat.le_refl _)).alloc _).alloc _).drew
theorem made2 (h : Made ZN n) (o1 o3 : Obj) : Own (((w.alloc o1).alloc ZN).alloc o3).drew (w.heap.size + 1) (sl0 (w.heap.size + 1) n) (zs (List.replicate n 0)) := by
  have := h (w.alloc o1) _ (Nat.le_refl _)
  rw [World.size_alloc] at this
  exact (this.alloc _).drew
theorem made3 (h : Made ZN n) (o1 o2 : Obj) : Own (((w.alloc o1).alloc o2).alloc ZN).drew (w.heap.size + 1 + 1) (sl0 (w.heap.size + 1 + 1) n) (zs (List.replicate n 0)) := by
  have := h ((w.alloc o1).alloc o2) _ (Nat.le_refl _)
  rw [World.size_alloc, World.size_alloc] at this
  exact this.drew
abbrev cobj (a c : Value) (most : Nat) : Obj := .cells #[a, .slice none 0 0, c, .int .i64 (most : Int)] 59
theorem cov_cells (a c : Value) : ∀ j, j < 4 → #[a, .slice none 0 0, c, .int .i64 (most : Int)][j]? = some (ccell a (.slice none 0 0) c most j) := by
  intro j hj
  match j, hj with
  | 0, _ => rfl
  | 1, _ => rfl
  | 2, _ => rfl
  | 3, _ => rfl
theorem covA (w : World) (a c : Value) : (w.alloc (cobj a c most)).rowIs w.heap.size 59 4 (ccell a (.slice none 0 0) c most) := ⟨_, (MapKept.heap_alloc w _).1, rfl, cov_cells a c⟩
theorem cov1 (a c : Value) (o2 o3 : Obj) : (((w.alloc (cobj a c most)).alloc o2).alloc o3).drew.rowIs w.heap.size 59 4 (ccell a (.slice none 0 0) c most) := rowIs_drewN (((covA w a c).alloc _).alloc _) 1
theorem cov2 (a c : Value) (o1 o3 : Obj) : (((w.alloc o1).alloc (cobj a c most)).alloc o3).drew.rowIs (w.heap.size + 1) 59 4 (ccell a (.slice none 0 0) c most) := by
  have := covA (most := most) (w.alloc o1) a c
  rw [World.size_alloc] at this
  exact rowIs_drewN (this.alloc _) 1
theorem cov3 (a c : Value) (o1 o2 : Obj) : (((w.alloc o1).alloc o2).alloc (cobj a c most)).drew.rowIs (w.heap.size + 1 + 1) 59 4 (ccell a (.slice none 0 0) c most) := by
  have := covA (most := most) ((w.alloc o1).alloc o2) a c
  rw [World.size_alloc, World.size_alloc] at this
  exact rowIs_drewN this 1
theorem cov_mk {W : World} {B gn go s : Nat} (hr : W.rowIs B 59 4 (ccell (sl0 gn n) (.slice none 0 0) (sl0 go n) most)) (hn : Own W gn (sl0 gn n) (zs (List.replicate n 0))) (ho : Own W go (sl0 go n) (zs (List.replicate n 0)))
    (h : gn ≠ go ∧ gn ≠ B ∧ go ≠ B ∧ B < s + 1 + 1 + 1 ∧ gn < s + 1 + 1 + 1 ∧ go < s + 1 + 1 + 1) (hs : s + 1 + 1 + 1 ≤ W.heap.size) : CovAt W B gn go (s + 1 + 1 + 1) n (List.replicate n 0) (.slice none 0 0) most [] (List.replicate n 0) :=
  ⟨hr, hn, ho, World.ownsRow_nil _ _ _ _, h.1, h.2.1, h.2.2.1, h.2.2.2.1, h.2.2.2.2.1, h.2.2.2.2.2, hs⟩
end
theorem cov_ex {w2 W : World} {B gn go n most : Nat} (hr : W.rowIs B 59 4 (ccell (sl0 gn n) (.slice none 0 0) (sl0 go n) most)) (hn : Own W gn (sl0 gn n) (zs (List.replicate n 0))) (ho : Own W go (sl0 go n) (zs (List.replicate n 0)))
    (h : gn ≠ go ∧ gn ≠ B ∧ go ≠ B ∧ B < w2.heap.size + 1 + 1 + 1 ∧ gn < w2.heap.size + 1 + 1 + 1 ∧ go < w2.heap.size + 1 + 1 + 1) (hs : w2.heap.size + 1 + 1 + 1 ≤ W.heap.size) (hb : Below w2.heap.size w2 W) (h5 : w2.heap.size ≤ gn ∧ w2.heap.size ≤ go ∧ w2.heap.size ≤ B) :
    ∃ gn' go' B' : Nat, Value.pointer (some ⟨B, 0, none⟩) = .pointer (some ⟨B', 0, none⟩) ∧ Hid (CovAt W B' gn' go' (w2.heap.size + 1 + 1 + 1) n (List.replicate n 0) (.slice none 0 0) most [] (List.replicate n 0)) ∧ Hid (Below w2.heap.size w2 W ∧ w2.heap.size ≤ gn' ∧ w2.heap.size ≤ go' ∧ w2.heap.size ≤ B') :=
  ⟨gn, go, B, rfl, Lib.hid (cov_mk hr hn ho h hs), Lib.hid ⟨hb, h5⟩⟩
theorem CovAt.setNear {w : World} {B gn go T n : Nat} {near : List Nat} {rv : Value} {most : Nat} {rows out : List Nat} (h : CovAt w B gn go T n near rv most rows out) (k x : Nat) : CovAt (w.setCell ⟨gn, k, none⟩ (.int .i64 (x : Int))) B gn go T n (near.set k x) rv most rows out := by
  have h1 := h.ltn
  have h3 := h.ne
  have h5 := h.nn
  have ho : Only (fun j => j = gn) w (w.setCell ⟨gn, k, none⟩ (.int .i64 (x : Int))) := (Only.refl (fun j => j = gn) w).setCell (p := ⟨gn, k, none⟩) (.inl rfl) _
  refine ⟨row_only' h.row ho (fun e => h5 e.symm), ?_, h.out.only ho (fun j hj (e : j = gn) => by have q : go = j := Option.some.inj hj; omega), h.rws.only ho (fun j hj (e : j = gn) => by have := (row_lt h.rws j hj).1; omega), h.ne, h.nn, h.no, h.ltB, h.ltn, h.lto, Nat.le_trans h.lw ho.size⟩
  rw [← zs_set]
  exact h.near.lit.2.2.2.2 k x
theorem cells_from {W W' : World} {B : Nat} {row : Option Nat} (hg : W.grownBy W' row) (hr : ∀ r, row = some r → B ≤ r ∧ ∃ o : Obj, W.heap[r]? = some o ∧ o.isCells = false) {k : Nat} {c : Array Value} {t : TypeId} {fr : Nat × Nat} (h : W.heap[k]? = some (.cells c t fr)) : W'.heap[k]? = some (.cells c t fr) := by
  rw [hg.block k (Array.getElem?_eq_some_iff.1 h).1 (fun e => by
    obtain ⟨_, o, ho, hc⟩ := hr k e.symm
    rw [h] at ho
    injection ho with ho
    subst ho
    cases hc)]
  exact h
theorem ownFrom_cov {β : Type} {C B gn go T n : Nat} (near : β → List Nat) (rv : Value) (most : Nat) (rows out : List Nat) : OwnFrom C (fun (s : β) W => CovAt W B gn go T n (near s) rv most rows out) := by
  intro s W W' row h hg hr
  have hown : ∀ (f : Nat) (g : Value) (l : List Int), Own W f g l → Own W' f g l := fun f g l h => ownFrom_own (β := Unit) (B := C) (fun _ => f) (fun _ => g) (fun _ => l) () W W' row h hg hr
  obtain ⟨c, h1, h2⟩ := h.row
  exact ⟨⟨c, cells_from hg hr h1, h2⟩, hown _ _ _ h.near, hown _ _ _ h.out, hown _ _ _ h.rws, h.ne, h.nn, h.no, h.ltB, h.ltn, h.lto, Nat.le_trans h.lw hg.size⟩
theorem ownFrom_onlyC {β : Type} {B : Nat} {S : Nat → Prop} {w : World} (hB : w.heap.size ≤ B) : OwnFrom B (fun (_ : β) W => Only S w W) :=
  fun _ _ _ _ h hg hr => h.grown hg (fun k e => .inr (Nat.le_trans hB (hr k e).1))
theorem MarksOk.only {S : Nat → Prop} {B : Nat} {rs : List Nat} {w w' : World} (h : MarksOk B rs w) (ho : Only S w w') (hS : ∀ r, S r → r < B) : MarksOk B rs w' :=
  h.keep fun r hr => ho.block r (h.lt r hr) (fun e => by have := hS r e; have := (h.2 r hr).1; omega)
end Go.Proofs.YtpicjikjinkkpaaDoor
