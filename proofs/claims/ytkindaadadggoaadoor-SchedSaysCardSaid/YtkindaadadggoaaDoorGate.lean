/- Contracts of package prior: New, Do, Acts, Dead. Conditions: each contract's own premises. -/
import Derived.Test.YtkindaadadggoaaDoorPriorT
import Derived.Test.YtkindaadadggoaaDoorObj
import Derived.Test.YtkindaadadggoaaDoorActMem
import Derived.Test.YtkindaadadggoaaDoorCore
import Derived.StillTailTactics
import Derived.Deep.AppendLies
namespace Go.Proofs.YtkindaadadggoaaDoor
open Go.RowKit

/-- the cells of a gate -/
def gcell (skips : Bool) (g : Gt.G) (v : Value) (j : Nat) : Value :=
  if j = 0 then .bool skips else if j < 5 then nv (g.rd.getD (j - 1) 0) else if j < 9 then nv (g.wr.getD (j - 5) 0) else if j = 9 then nv g.dead else v
/-- a gate in memory: its own block b, its acts in v -/
def GateAt (w : World) (b : Nat) (skips : Bool) (g : Gt.G) (v : Value) : Prop := w.rowIs b 91 11 (gcell skips g v) ∧ OwnA w (b + 1) v (Sch.zacts g.acts)

section
variable {w w' : World} {b : Nat} {skips : Bool} {g : Gt.G} {v : Value}
theorem GateAt.sk (h : GateAt w b skips g v) : w.cell? ⟨b, 0, none⟩ = some (.bool skips) := h.1.cell (i := 0) (by decide)
theorem GateAt.rd (h : GateAt w b skips g v) {i : Nat} (hi : i < 4) : w.cell? ⟨b, 1 + i, none⟩ = some (nv (g.rd.getD i 0)) := by
  rw [h.1.cell (i := 1 + i) (by omega), gcell, if_neg (by omega), if_pos (by omega), show 1 + i - 1 = i by omega]
theorem GateAt.wr (h : GateAt w b skips g v) {i : Nat} (hi : i < 4) : w.cell? ⟨b, 5 + i, none⟩ = some (nv (g.wr.getD i 0)) := by
  rw [h.1.cell (i := 5 + i) (by omega), gcell, if_neg (by omega), if_neg (by omega), if_pos (by omega), show 5 + i - 5 = i by omega]
theorem GateAt.dead (h : GateAt w b skips g v) : w.cell? ⟨b, 9, none⟩ = some (nv g.dead) := h.1.cell (i := 9) (by decide)
theorem GateAt.acts (h : GateAt w b skips g v) : w.cell? ⟨b, 10, none⟩ = some v := h.1.cell (i := 10) (by decide)
theorem GateAt.alloc (h : GateAt w b skips g v) (o : Obj) : GateAt (w.alloc o) b skips g v := ⟨h.1.alloc o, h.2.alloc o⟩
theorem GateAt.drewN (h : GateAt w b skips g v) (n : Nat) : GateAt (w.drewN n) b skips g v := h
theorem GateAt.own (h : GateAt w b skips g v) : ∀ k, v.ownBlock = some k → b + 1 ≤ k ∧ k < w.heap.size := row_lt h.2
theorem GateAt.foot (h : GateAt w b skips g v) : ∀ k, Foot b v k → b ≤ k ∧ k < w.heap.size := by
  rintro k (rfl | hk)
  · exact ⟨Nat.le_refl _, h.1.lt⟩
  · have := h.own k hk; omega
theorem GateAt.only {S : Nat → Prop} (h : GateAt w b skips g v) (ho : Only S w w') (hS : ∀ k, Foot b v k → ¬ S k) : GateAt w' b skips g v :=
  ⟨row_only' h.1 ho (hS b (.inl rfl)), row_only h.2 ho (fun k hk => hS k (.inr hk))⟩
/-- a store into the gate's own block -/
theorem GateAt.set {g' : Gt.G} (h : GateAt w b skips g v) (i : Nat) (x : Value) (he : g'.acts = g.acts) (hc : ∀ j, j < 11 → (if j = i then x else gcell skips g v j) = gcell skips g' v j) : GateAt (w.setCell ⟨b, i, none⟩ x) b skips g' v := by
  refine ⟨(h.1.set i x).congr hc, ?_⟩
  unfold OwnA
  rw [he]
  exact ownsRow_setCell_below h.2 (Nat.lt_succ_self b) x
end

theorem hasq (s i n : Nat) (w : World) (hs : s < 4096) (hi : i < 64) : Calls Tryd.prog 58 #[nv s, nv i] (w.drewN n) fun e w'' => e = .returned (.bool (s.testBit i)) ∧ ∃ m, w'' = w.drewN m :=
  Calls.quiet_of_same ((has12 s i (w.drewN n) hs hi).mono fun _ _ ⟨a, b⟩ => ⟨a, b.symm⟩)

/-- behind a method: the gate, and all else as it was -/
def GateTo (w : World) (b : Nat) (skips : Bool) (v : Value) (g : Gt.G) (w' : World) : Prop := ∃ v', GateAt w' b skips g v' ∧ Only (Foot b v) w w' ∧ ∀ k, Foot b v' k → Foot b v k ∨ w.heap.size ≤ k

theorem GateTo.same {w : World} {b : Nat} {skips : Bool} {g : Gt.G} {v : Value} (h : GateAt w b skips g v) (o : Obj) (n : Nat) : GateTo w b skips v g ((w.alloc o).drewN n) :=
  ⟨v, (h.alloc o).drewN n, ((Only.refl _ _).alloc o).drewN n, fun _ hk => .inl hk⟩

set_option maxHeartbeats 1000000 in
theorem gdo_dead (skips : Bool) (g : Gt.G) (tx it wt : Nat) (b : Nat) (v : Value) (w : World) (h : GateAt w b skips g v) (hg : Gt.Inv g) (a1 : tx < 5) (a2 : it < 4) (a3 : wt < 2) (hd : g.dead.testBit tx = true) :
    Calls Tryd.prog 17 #[.pointer (some ⟨b, 0, none⟩), .agg #[nv tx, nv it, nv wt]] w fun e w' => e = .returned (.tuple #[.bool false, .iface 93 (.int .i64 7)]) ∧ GateTo w b skips v g w' := by
  have hd32 : g.dead < 4096 := by have := hg.2.2.2.2.1; omega
  have H := Lib.hid h
  have HB := h.1.lt
  have h1 := (h.alloc (.cells #[nv tx, nv it, nv wt] 28)).dead
  generalize hdd : g.dead = dd at *
  have hhas := Lib.hid fun n w5 => hasq dd tx n w5 hd32 (by omega)
  rw [hd] at hhas
  clear hd h hg hdd
  go_enter Tryd.func17, Tryd.ntmps17
  go_wp2_with (go_at_call 57; refine (within_yes _ _ _ _ (by omega) (by omega)).mono ?_; rintro e w' ⟨rfl, rfl⟩)
  go_quiet ((go_at_call 58; exact hhas.out _ _))
  go_wp2_with fail
  go_ret2
  exact ⟨rfl, GateTo.same H.out _ _⟩

set_option maxHeartbeats 1000000 in
theorem gdo_full (skips : Bool) (g : Gt.G) (tx it wt : Nat) (b : Nat) (v : Value) (w : World) (h : GateAt w b skips g v) (hg : Gt.Inv g) (a1 : tx < 5) (a2 : it < 4) (a3 : wt < 2) (hd : g.dead.testBit tx = false) (hl : g.acts.length = 24) :
    Calls Tryd.prog 17 #[.pointer (some ⟨b, 0, none⟩), .agg #[nv tx, nv it, nv wt]] w fun e w' => e = .returned (.tuple #[.bool false, .iface 93 (.int .i64 4)]) ∧ GateTo w b skips v g w' := by
  have hd32 : g.dead < 4096 := by have := hg.2.2.2.2.1; omega
  obtain ⟨A, cap, rfl⟩ := Rd.val h.2.acts
  have H := Lib.hid h
  have HB := h.1.lt
  have h1 := (h.alloc (.cells #[nv tx, nv it, nv wt] 28)).dead
  have h2 := (h.alloc (.cells #[nv tx, nv it, nv wt] 28)).acts
  rw [Sch.length_zacts, hl] at h2
  generalize hdd : g.dead = dd at *
  have hhas := Lib.hid fun n w5 => hasq dd tx n w5 hd32 (by omega)
  rw [hd] at hhas
  clear hd h hg hdd
  rw [Sch.length_zacts, hl] at *
  clear hl
  go_enter Tryd.func17, Tryd.ntmps17
  go_wp2_with (go_at_call 57; refine (within_yes _ _ _ _ (by omega) (by omega)).mono ?_; rintro e w' ⟨rfl, rfl⟩)
  go_quiet ((go_at_call 58; exact hhas.out _ _))
  go_wp2_with fail
  go_ret2
  exact ⟨rfl, GateTo.same H.out _ _⟩

/-- what becomes of one that is stopped -/
theorem GateAt.stop {w : World} {b : Nat} {skips : Bool} {g : Gt.G} {v : Value} (h : GateAt w b skips g v) (x : Nat) : GateAt (w.setCell ⟨b, 9, none⟩ (nv x)) b skips { g with dead := x } v :=
  h.set 9 (nv x) rfl fun j hj => by
    unfold gcell
    by_cases e : j = 9
    · subst e; rfl
    · rw [if_neg e]
      repeat' split
      all_goals first | rfl | omega

set_option maxRecDepth 20000 in
set_option maxHeartbeats 2000000 in
theorem gdo_clash0 (skips : Bool) (g : Gt.G) (tx it : Nat) (b : Nat) (v : Value) (w : World) (h : GateAt w b skips g v) (hg : Gt.Inv g) (a1 : tx < 5) (a2 : it < 4) (hd : g.dead.testBit tx = false) (hl : g.acts.length ≠ 24) (hlate : Gt.late g (tx, it, 0) = true) :
    Calls Tryd.prog 17 #[.pointer (some ⟨b, 0, none⟩), .agg #[nv tx, nv it, .int .i64 0]] w fun e w' => e = .returned (.tuple #[.bool false, .iface 93 (.int .i64 6)]) ∧ GateTo w b skips v { g with dead := g.dead ||| 2 ^ tx } w' := by
  have hd32 : g.dead < 4096 := by have := hg.2.2.2.2.1; omega
  have hw5 : g.wr.getD it 0 ≤ 5 := hg.2.2.2.2.2.2.2.2.1 it a2
  have hl24 : g.acts.length < 24 := by have := hg.2.2.2.2.2.1; omega
  obtain ⟨A, cap, rfl⟩ := Rd.val h.2.acts
  have H := Lib.hid h
  have HB := h.1.lt
  have h0 := h.alloc (.cells #[nv tx, nv it, .int .i64 0] 28)
  have h1 := h0.dead
  have h2 := h0.acts
  have h3 := h0.wr a2
  have h4 := h0.1.frozen 9
  have hlt : decide ((tx : Int) + 1 < ((g.wr.getD it 0 : Nat) : Int)) = true := by
    unfold Gt.late at hlate
    simp at hlate ⊢
    omega
  generalize hdd : g.dead = dd at *
  generalize g.wr.getD it 0 = x at *
  have hhas := Lib.hid fun n w5 => hasq dd tx n w5 hd32 (by omega)
  have hor := bits_or_shl dd tx (by omega) (by omega)
  rw [hd] at hhas
  rw [Sch.length_zacts] at *
  generalize g.acts.length = n at *
  clear hd h hg hdd h0 hlate hl
  go_enter Tryd.func17, Tryd.ntmps17
  go_wp2_with (go_at_call 57; refine (within_yes _ _ _ _ (by omega) (by omega)).mono ?_; rintro e w' ⟨rfl, rfl⟩)
  go_quiet ((go_at_call 58; exact hhas.out _ _))
  go_wp2_with fail
  go_quiet (fail)
  go_wp2_with fail
  go_region
  all_goals
    go_wp2_with fail
    go_ret2
    exact ⟨rfl, _, ((H.out.alloc _).drewN _).stop _, (((Only.refl _ _).alloc _).drewN _).setCell (.inl (.inl rfl)) _, fun _ hk => .inl hk⟩
def gread (g : Gt.G) (tx it : Nat) : Gt.G := { g with rd := g.rd.set it (max (g.rd.getD it 0) (tx + 1)) }
theorem GateAt.readSet {w : World} {b : Nat} {skips : Bool} {g : Gt.G} {v : Value} (h : GateAt w b skips g v) (hl : g.rd.length = 4) {i : Nat} (hi : i < 4) (x : Nat) : GateAt (w.setCell ⟨b, 1 + i, none⟩ (nv x)) b skips { g with rd := g.rd.set i x } v :=
  h.set (1 + i) (nv x) rfl fun j hj => by
    unfold gcell
    by_cases e : j = 1 + i
    · subst e
      rw [if_pos rfl, if_neg (by omega), if_pos (by omega), Sch.getD_set, if_pos ⟨by omega, by omega⟩]
    · rw [if_neg e]
      repeat' split
      all_goals first | rfl | omega | skip
      rw [Sch.getD_set, if_neg (by omega)]
theorem GateAt.writeSet {w : World} {b : Nat} {skips : Bool} {g : Gt.G} {v : Value} (h : GateAt w b skips g v) (hl : g.wr.length = 4) {i : Nat} (hi : i < 4) (x : Nat) : GateAt (w.setCell ⟨b, 5 + i, none⟩ (nv x)) b skips { g with wr := g.wr.set i x } v :=
  h.set (5 + i) (nv x) rfl fun j hj => by
    unfold gcell
    by_cases e : j = 5 + i
    · subst e
      rw [if_pos rfl, if_neg (by omega), if_neg (by omega), if_pos (by omega), Sch.getD_set, if_pos ⟨by omega, by omega⟩]
    · rw [if_neg e]
      repeat' split
      all_goals first | rfl | omega | skip
      rw [Sch.getD_set, if_neg (by omega)]
/-- the acts' own field is stored anew -/
theorem GateAt.actsSet {w w1 : World} {b : Nat} {skips : Bool} {g : Gt.G} {v v1 : Value} {l : List Sch.N3} (h : GateAt w b skips g v) (hb : Below (b + 1) w w1) (ho : OwnA w1 (b + 1) v1 (Sch.zacts l)) : GateAt (w1.setCell ⟨b, 10, none⟩ v1) b skips { g with acts := l } v1 := by
  have hr : w1.rowIs b 91 11 (gcell skips g v) := h.1.of_block (hb.block b (Nat.lt_succ_self b))
  refine ⟨(hr.set 10 v1).congr fun j hj => ?_, ?_⟩
  · unfold gcell
    by_cases e : j = 10
    · subst e; rfl
    · rw [if_neg e]
      repeat' split
      all_goals first | rfl | omega
  · exact ownsRow_setCell_below ho (Nat.lt_succ_self b) v1

/-- behind the test: the act is appended, and its field is stored -/
def Tail (w : World) (b : Nat) (skips : Bool) (g : Gt.G) (v : Value) (wA : World) : Prop := GateAt wA b skips g v ∧ Only (Foot b v) w wA ∧ w.heap.size ≤ wA.heap.size
theorem tail_done {w wA w1 : World} {b n : Nat} {skips : Bool} {g : Gt.G} {v : Value} {a : Sch.N3} {o : Obj} {gg cap : Nat} (hT : Tail w b skips g v wA) (hn : g.acts.length = n) (hgrow : (wA.alloc o).drew.grownBy w1 v.ownBlock)
    (hown : w1.ownsRow (b + 1) 28 3 (.slice (some ⟨gg, 0, none⟩) (n + 1) cap) (n + 1) (acells (Sch.zacts g.acts) ++ [nv a.1, nv a.2.1, nv a.2.2])) (hat : v.ownBlock = some gg ∨ gg = w.heap.size + 2) :
    GateTo w b skips v { g with acts := g.acts ++ [a] } (w1.setCell ⟨b, 10, none⟩ (.slice (some ⟨gg, 0, none⟩) (n + 1) cap)) := by
  obtain ⟨h1, h2, h3⟩ := hT
  have hlt := h1.1.lt
  have hb : Below (b + 1) wA w1 := (((Below.refl (b + 1) wA).alloc (by omega) o).drew).grown hgrow (by simp; omega) (fun k hk => (h1.own k hk).1)
  have ho : OwnA w1 (b + 1) (.slice (some ⟨gg, 0, none⟩) (n + 1) cap) (Sch.zacts (g.acts ++ [a])) := by
    unfold OwnA
    rw [Sch.length_zacts, List.length_append, hn, show Sch.zacts (g.acts ++ [a]) = Sch.zacts g.acts ++ [Sch.z3 a] from List.map_append, show acells (Sch.zacts g.acts ++ [Sch.z3 a]) = acells (Sch.zacts g.acts) ++ acells [Sch.z3 a] from List.flatMap_append]
    exact hown
  refine ⟨_, h1.actsSet hb ho, ?_, fun k hk => ?_⟩
  · exact ((((h2.alloc o).drew).grown hgrow (fun k hk => .inl (.inr hk))).setCell (.inl (.inl rfl)) _)
  · rcases hk with rfl | hk
    · exact .inl (.inl rfl)
    · cases hk
      rcases hat with g1 | g1
      · exact .inl (.inr g1)
      · exact .inr (by show w.heap.size ≤ gg; omega)
theorem cell_new (w : World) (C : Array Value) (t : TypeId) (k b i j : Nat) (v x : Value) (hb : b < w.heap.size) (h : C[j]? = some x) : (((w.alloc (.cells C t)).drewN k).setCell ⟨b, i, none⟩ v).cell? ⟨w.heap.size, j, none⟩ = some x := by
  refine (World.cell?_of_block (Below.heap_setCell _ ⟨b, i, none⟩ v w.heap.size (by show w.heap.size ≠ b; omega))).trans ?_
  show (w.alloc (.cells C t)).cell? ⟨w.heap.size, j, none⟩ = some x
  rw [World.cell?_alloc_new, h]
end Go.Proofs.YtkindaadadggoaaDoor
