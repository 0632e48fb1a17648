/- Contracts of prior.Do at acts that are done, or skipped. Conditions: each contract's own premises. -/
import Derived.Test.YtkindaadadggoaaDoorGate
import Derived.Deep.RegionLaw
import Derived.Deep.AppendLies
namespace Go.Proofs.YtkindaadadggoaaDoor
open Go.RowKit

def gwrite (g : Gt.G) (tx it : Nat) : Gt.G := { g with wr := g.wr.set it (tx + 1) }
set_option maxRecDepth 20000 in
set_option maxHeartbeats 2000000 in
theorem gdo_read (skips : Bool) (g : Gt.G) (tx it : Nat) (b : Nat) (v : Value) (w : World) (h : GateAt w b skips g v) (hg : Gt.Inv g) (a1 : tx < 5) (a2 : it < 4) (hd : g.dead.testBit tx = false) (hl : g.acts.length ≠ 24) (hlate : Gt.late g (tx, it, 0) = false) :
    Calls Tryd.prog 17 #[.pointer (some ⟨b, 0, none⟩), .agg #[nv tx, nv it, .int .i64 0]] w fun e w' => e = .returned (.tuple #[.bool true, .nilIface]) ∧ GateTo w b skips v { gread g tx it with acts := (gread g tx it).acts ++ [(tx, it, 0)] } w' := by
  have hd32 : g.dead < 4096 := by have := hg.2.2.2.2.1; omega
  have hw5 : g.wr.getD it 0 ≤ 5 := hg.2.2.2.2.2.2.2.2.1 it a2
  have hr5 : g.rd.getD it 0 ≤ 5 := hg.2.2.2.2.2.2.2.1 it a2
  have hl24 : g.acts.length < 24 := by have := hg.2.2.2.2.2.1; omega
  obtain ⟨A, cap, rfl⟩ := Rd.val h.2.acts
  rw [Sch.length_zacts] at h ⊢
  have HB := h.1.lt
  have h0 := h.alloc (.cells #[nv tx, nv it, .int .i64 0] 28)
  have h1 := h0.dead
  have h2 := h0.acts
  have h3 := h0.wr a2
  have h5 := h0.rd a2
  have h4 := h0.1.frozen (1 + it)
  have hlt : decide ((tx : Int) + 1 < ((g.wr.getD it 0 : Nat) : Int)) = false := by
    unfold Gt.late at hlate
    simp at hlate ⊢
    omega
  have hsel := Lib.hid (show (if ((g.rd.getD it 0 : Nat) : Int) < (tx : Int) + 1 then (tx : Int) + 1 else ((g.rd.getD it 0 : Nat) : Int)) = ((max (g.rd.getD it 0) (tx + 1) : Nat) : Int) by split <;> omega)
  clear hlate
  have HS := Lib.hid (show ∀ k, Tail w b skips (gread g tx it) (.slice A g.acts.length cap) (((w.alloc (.cells #[nv tx, nv it, .int .i64 0] 28)).drewN k).setCell ⟨b, 1 + it, none⟩ (nv (max (g.rd.getD it 0) (tx + 1)))) from fun k =>
    ⟨(h0.drewN k).readSet hg.1 a2 _, (((Only.refl _ _).alloc _).drewN k).setCell (.inl (.inl rfl)) _, by simp⟩)
  have f0 : ∀ k, (((w.alloc (.cells #[nv tx, nv it, .int .i64 0] 28)).drewN k).setCell ⟨b, 1 + it, none⟩ (nv (max (g.rd.getD it 0) (tx + 1)))).cell? ⟨w.heap.size, 0, none⟩ = some (nv tx) := fun k => cell_new w _ _ k b _ _ _ _ HB rfl
  have f1 : ∀ k, (((w.alloc (.cells #[nv tx, nv it, .int .i64 0] 28)).drewN k).setCell ⟨b, 1 + it, none⟩ (nv (max (g.rd.getD it 0) (tx + 1)))).cell? ⟨w.heap.size, 1, none⟩ = some (nv it) := fun k => cell_new w _ _ k b _ _ _ _ HB rfl
  have f2 : ∀ k, (((w.alloc (.cells #[nv tx, nv it, .int .i64 0] 28)).drewN k).setCell ⟨b, 1 + it, none⟩ (nv (max (g.rd.getD it 0) (tx + 1)))).cell? ⟨w.heap.size, 2, none⟩ = some (.int .i64 0) := fun k => cell_new w _ _ k b _ _ _ _ HB rfl
  have f3 := fun k => (HS.out k).1.acts
  have f4 := fun k => (HS.out k).1.1.frozen 10
  have HO := Lib.hid (show ∀ k, World.ownsRow (((w.alloc (.cells #[nv tx, nv it, .int .i64 0] 28)).drewN k).setCell ⟨b, 1 + it, none⟩ (nv (max (g.rd.getD it 0) (tx + 1)))) (b + 1) 28 3 (.slice A g.acts.length cap) g.acts.length (acells (Sch.zacts g.acts)) from fun k => by
    have := (HS.out k).1.2
    unfold OwnA at this
    rw [Sch.length_zacts] at this
    exact this)
  have HR := Lib.hid fun k => (HS.out k).1.1
  have HC := Lib.hid (show ∀ k o, ((((w.alloc (.cells #[nv tx, nv it, .int .i64 0] 28)).drewN k).setCell ⟨b, 1 + it, none⟩ (nv (max (g.rd.getD it 0) (tx + 1)))).alloc o).drew.cell? ⟨b, 10, none⟩ = some (.slice A g.acts.length cap) from fun k o => ((HS.out k).1.alloc o).acts)
  have ag : (Value.slice A g.acts.length cap).ownBlock ≠ some b := fun e => by have := (h.own b e).1; omega
  obtain ⟨i0, hi0, hz0, hz1, hz2⟩ := info_parts Tryd.infoAct
  have HN := Lib.hid (show (gread g tx it).acts.length = g.acts.length from rfl)
  generalize hdd : g.dead = dd at *
  generalize hxx : g.wr.getD it 0 = x at *
  generalize max (g.rd.getD it 0) (tx + 1) = mx at *
  generalize g.rd.getD it 0 = rv at *
  have hhas := Lib.hid fun n w5 => hasq dd tx n w5 hd32 (by omega)
  rw [hd] at hhas
  generalize hnn : g.acts.length = n at *
  clear hd h hg hdd h0 hl hnn hxx
  go_enter Tryd.func17, Tryd.ntmps17
  go_wp2_with (go_at_call 57; refine (within_yes _ _ _ _ (by omega) (by omega)).mono ?_; rintro e w' ⟨rfl, rfl⟩)
  go_quiet ((go_at_call 58; exact hhas.out _ _))
  go_wp2_with fail
  go_quiet (fail)
  go_wp2_with fail
  go_quiet (fail)
  go_wp2_with fail
  go_region
  rw [hsel.out]
  go_wp2_with fail
  go_region_law (refine step_append_lies _ (by rfl) _ _ _ (by rfl) (b + 1) 28 i0 _ 3 24 Tryd.underlying22 hi0 hz0 hz1 hz2 rfl (by omega) (.slice A n cap) n (acells (Sch.zacts g.acts)) (by rfl) (World.ownsRow.drew ((HO.out _).alloc _)) ⟨w.heap.size + 1, 0, none⟩ 1 1 [nv tx, nv it, .int .i64 0] (by first | rfl | simp) (by rfl) (World.news_of_block (cs := #[nv tx, nv it, .int .i64 0]) (t := 28) (fr := (0, 0)) (heap_new' _ _ _ (by simp))) (by simp [Value.oneCell']) (by omega) (by unfold maxLen; omega) (by omega) (by simp; omega) (w.heap.size + 2) (by simp) ?_; intro gg cap2 w1 hown1 hgrow hat hlt1; have hfz : w1.frozen? ⟨b, 10, none⟩ = false := (hgrow.frozen_far _ (by simp; omega) (Ne.symm ag)).trans (((HR.out _).alloc _).drew.frozen 10); have hc10 : w1.cell? ⟨b, 10, none⟩ = some (.slice A n cap) := (hgrow.cell_far _ (by simp; omega) (Ne.symm ag)).trans (HC.out _ _))
  all_goals
    have HF := Lib.hid (tail_done (a := (tx, it, 0)) (HS.out _) HN.out hgrow hown1 hat)
    clear hown1 hgrow hat
    go_wp2_with fail
    go_ret2
    exact ⟨rfl, HF.out⟩

set_option maxRecDepth 20000 in
set_option maxHeartbeats 2000000 in
theorem gdo_write (skips : Bool) (g : Gt.G) (tx it : Nat) (b : Nat) (v : Value) (w : World) (h : GateAt w b skips g v) (hg : Gt.Inv g) (a1 : tx < 5) (a2 : it < 4) (hd : g.dead.testBit tx = false) (hl : g.acts.length ≠ 24) (hlate : Gt.late g (tx, it, 1) = false) (hearly : Gt.early g (tx, it, 1) = false) :
    Calls Tryd.prog 17 #[.pointer (some ⟨b, 0, none⟩), .agg #[nv tx, nv it, .int .i64 1]] w fun e w' => e = .returned (.tuple #[.bool true, .nilIface]) ∧ GateTo w b skips v { gwrite g tx it with acts := (gwrite g tx it).acts ++ [(tx, it, 1)] } w' := by
  have hd32 : g.dead < 4096 := by have := hg.2.2.2.2.1; omega
  have hw5 : g.wr.getD it 0 ≤ 5 := hg.2.2.2.2.2.2.2.2.1 it a2
  have hr5 : g.rd.getD it 0 ≤ 5 := hg.2.2.2.2.2.2.2.1 it a2
  have hl24 : g.acts.length < 24 := by have := hg.2.2.2.2.2.1; omega
  obtain ⟨A, cap, rfl⟩ := Rd.val h.2.acts
  rw [Sch.length_zacts] at h ⊢
  have HB := h.1.lt
  have h0 := h.alloc (.cells #[nv tx, nv it, .int .i64 1] 28)
  have h1 := h0.dead
  have h2 := h0.acts
  have h3 := h0.wr a2
  have h5 := h0.rd a2
  have h4 := h0.1.frozen (5 + it)
  have hlt : decide ((tx : Int) + 1 < ((g.wr.getD it 0 : Nat) : Int)) = false := by
    unfold Gt.late at hlate
    simp at hlate ⊢
    omega
  have hea : decide ((tx : Int) + 1 < ((g.rd.getD it 0 : Nat) : Int)) = false := by
    unfold Gt.early at hearly
    simp at hearly ⊢
    omega
  clear hlate hearly
  have HS := Lib.hid (show ∀ k, Tail w b skips (gwrite g tx it) (.slice A g.acts.length cap) (((w.alloc (.cells #[nv tx, nv it, .int .i64 1] 28)).drewN k).setCell ⟨b, 5 + it, none⟩ (nv (tx + 1))) from fun k =>
    ⟨(h0.drewN k).writeSet hg.2.1 a2 _, (((Only.refl _ _).alloc _).drewN k).setCell (.inl (.inl rfl)) _, by simp⟩)
  have f0 : ∀ k, (((w.alloc (.cells #[nv tx, nv it, .int .i64 1] 28)).drewN k).setCell ⟨b, 5 + it, none⟩ (nv (tx + 1))).cell? ⟨w.heap.size, 0, none⟩ = some (nv tx) := fun k => cell_new w _ _ k b _ _ _ _ HB rfl
  have f1 : ∀ k, (((w.alloc (.cells #[nv tx, nv it, .int .i64 1] 28)).drewN k).setCell ⟨b, 5 + it, none⟩ (nv (tx + 1))).cell? ⟨w.heap.size, 1, none⟩ = some (nv it) := fun k => cell_new w _ _ k b _ _ _ _ HB rfl
  have f2 : ∀ k, (((w.alloc (.cells #[nv tx, nv it, .int .i64 1] 28)).drewN k).setCell ⟨b, 5 + it, none⟩ (nv (tx + 1))).cell? ⟨w.heap.size, 2, none⟩ = some (.int .i64 1) := fun k => cell_new w _ _ k b _ _ _ _ HB rfl
  have f3 := fun k => (HS.out k).1.acts
  have f4 := fun k => (HS.out k).1.1.frozen 10
  have HO := Lib.hid (show ∀ k, World.ownsRow (((w.alloc (.cells #[nv tx, nv it, .int .i64 1] 28)).drewN k).setCell ⟨b, 5 + it, none⟩ (nv (tx + 1))) (b + 1) 28 3 (.slice A g.acts.length cap) g.acts.length (acells (Sch.zacts g.acts)) from fun k => by
    have := (HS.out k).1.2
    unfold OwnA at this
    rw [Sch.length_zacts] at this
    exact this)
  have HR := Lib.hid fun k => (HS.out k).1.1
  have HC := Lib.hid (show ∀ k o, ((((w.alloc (.cells #[nv tx, nv it, .int .i64 1] 28)).drewN k).setCell ⟨b, 5 + it, none⟩ (nv (tx + 1))).alloc o).drew.cell? ⟨b, 10, none⟩ = some (.slice A g.acts.length cap) from fun k o => ((HS.out k).1.alloc o).acts)
  have ag : (Value.slice A g.acts.length cap).ownBlock ≠ some b := fun e => by have := (h.own b e).1; omega
  obtain ⟨i0, hi0, hz0, hz1, hz2⟩ := info_parts Tryd.infoAct
  have HN := Lib.hid (show (gwrite g tx it).acts.length = g.acts.length from rfl)
  generalize hdd : g.dead = dd at *
  generalize hxx : g.wr.getD it 0 = x at *
  generalize g.rd.getD it 0 = rv at *
  have HTX := Lib.hid (show ((tx : Int) + 1) = ((tx + 1 : Nat) : Int) by simp)
  have hhas := Lib.hid fun n w5 => hasq dd tx n w5 hd32 (by omega)
  rw [hd] at hhas
  generalize hnn : g.acts.length = n at *
  clear hd h hg hdd h0 hl hnn hxx
  go_enter Tryd.func17, Tryd.ntmps17
  go_wp2_with (go_at_call 57; refine (within_yes _ _ _ _ (by omega) (by omega)).mono ?_; rintro e w' ⟨rfl, rfl⟩)
  go_quiet ((go_at_call 58; exact hhas.out _ _))
  go_wp2_with fail
  go_quiet (fail)
  go_wp2_with fail
  go_quiet (fail)
  go_wp2_with fail
  go_region
  trace_state
  go_wp2_with fail
  go_region_law (refine step_append_lies _ (by rfl) _ _ _ (by rfl) (b + 1) 28 i0 _ 3 24 Tryd.underlying22 hi0 hz0 hz1 hz2 rfl (by omega) (.slice A n cap) n (acells (Sch.zacts g.acts)) (by rfl) (World.ownsRow.drew ((HO.out _).alloc _)) ⟨w.heap.size + 1, 0, none⟩ 1 1 [nv tx, nv it, .int .i64 1] (by first | rfl | simp) (by rfl) (World.news_of_block (cs := #[nv tx, nv it, .int .i64 1]) (t := 28) (fr := (0, 0)) (heap_new' _ _ _ (by simp))) (by simp [Value.oneCell']) (by omega) (by unfold maxLen; omega) (by omega) (by simp; omega) (w.heap.size + 2) (by simp) ?_; intro gg cap2 w1 hown1 hgrow hat hlt1; have hfz : w1.frozen? ⟨b, 10, none⟩ = false := (hgrow.frozen_far _ (by simp; omega) (Ne.symm ag)).trans (((HR.out _).alloc _).drew.frozen 10); have hc10 : w1.cell? ⟨b, 10, none⟩ = some (.slice A n cap) := (hgrow.cell_far _ (by simp; omega) (Ne.symm ag)).trans (HC.out _ _))
  all_goals
    have HF := Lib.hid (tail_done (a := (tx, it, 1)) (HS.out _) HN.out hgrow hown1 hat)
    clear hown1 hgrow hat
    go_wp2_with fail
    go_ret2
    exact ⟨rfl, HF.out⟩

end Go.Proofs.YtkindaadadggoaaDoor
