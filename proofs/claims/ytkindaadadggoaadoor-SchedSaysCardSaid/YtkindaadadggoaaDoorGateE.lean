/- Contracts of prior.Do at writes that are stopped, or skipped; at numbers out of range; New, Acts, Dead. Conditions: each contract's own premises. -/
import Derived.Test.YtkindaadadggoaaDoorGateD
namespace Go.Proofs.YtkindaadadggoaaDoor
open Go.RowKit

set_option maxRecDepth 20000 in
set_option maxHeartbeats 2000000 in
theorem gdo_clash1 (skips : Bool) (g : Gt.G) (tx it : Nat) (b : Nat) (v : Value) (w : World) (h : GateAt w b skips g v) (hg : Gt.Inv g) (a1 : tx < 5) (a2 : it < 4) (hd : g.dead.testBit tx = false) (hl : g.acts.length ≠ 24) (hearly : Gt.early g (tx, it, 1) = true) :
    Calls Tryd.prog 17 #[.pointer (some ⟨b, 0, none⟩), .agg #[nv tx, nv it, .int .i64 1]] w fun e w' => e = .returned (.tuple #[.bool false, .iface 93 (.int .i64 6)]) ∧ GateTo w b skips v { g with dead := g.dead ||| 2 ^ tx } w' := by
  have hd32 : g.dead < 4096 := by have := hg.2.2.2.2.1; omega
  have hw5 : g.wr.getD it 0 ≤ 5 := hg.2.2.2.2.2.2.2.2.1 it a2
  have hr5 : g.rd.getD it 0 ≤ 5 := hg.2.2.2.2.2.2.2.1 it a2
  have hl24 : g.acts.length < 24 := by have := hg.2.2.2.2.2.1; omega
  obtain ⟨A, cap, rfl⟩ := Rd.val h.2.acts
  rw [Sch.length_zacts] at h ⊢
  have H := Lib.hid h
  have HB := h.1.lt
  have h0 := h.alloc (.cells #[nv tx, nv it, .int .i64 1] 28)
  have h1 := h0.dead
  have h2 := h0.acts
  have h3 := h0.wr a2
  have h5 := h0.rd a2
  have h6 := h0.sk
  have h4 := h0.1.frozen 9
  have hlt : decide ((tx : Int) + 1 < ((g.wr.getD it 0 : Nat) : Int)) = Gt.late g (tx, it, 1) := by unfold Gt.late; rw [Bool.eq_iff_iff]; simp; omega
  generalize Gt.late g (tx, it, 1) = lb at *
  have hea : decide ((tx : Int) + 1 < ((g.rd.getD it 0 : Nat) : Int)) = true := by
    unfold Gt.early at hearly
    simp at hearly ⊢
    omega
  clear hearly
  generalize hdd : g.dead = dd at *
  generalize hxx : g.wr.getD it 0 = x at *
  generalize g.rd.getD it 0 = rv at *
  have hhas := Lib.hid fun n w5 => hasq dd tx n w5 hd32 (by omega)
  have hor := bits_or_shl dd tx (by omega) (by omega)
  rw [hd] at hhas
  generalize hnn : g.acts.length = n at *
  clear hd h hg hdd h0 hl hnn hxx
  go_enter Tryd.func17, Tryd.ntmps17
  go_wp2_with (go_at_call 57; refine (within_yes _ _ _ _ (by omega) (by omega)).mono ?_; rintro e w' ⟨rfl, rfl⟩)
  go_quiet ((go_at_call 58; exact hhas.out _ _))
  go_wp2_with fail
  go_quiet (fail)
  go_wp2_with fail
  go_quiet (fail)
  go_wp2_with fail
  go_region
  all_goals
    go_wp2_with fail
    go_ret2
    exact ⟨rfl, _, ((H.out.alloc _).drewN _).stop _, (((Only.refl _ _).alloc _).drewN _).setCell (.inl (.inl rfl)) _, fun _ hk => .inl hk⟩

set_option maxRecDepth 20000 in
set_option maxHeartbeats 2000000 in
theorem gdo_clash2 (skips : Bool) (g : Gt.G) (tx it : Nat) (b : Nat) (v : Value) (w : World) (h : GateAt w b skips g v) (hg : Gt.Inv g) (a1 : tx < 5) (a2 : it < 4) (hd : g.dead.testBit tx = false) (hl : g.acts.length ≠ 24) (hearly : Gt.early g (tx, it, 1) = false) (hlate : Gt.late g (tx, it, 1) = true) (hsk : skips = false) :
    Calls Tryd.prog 17 #[.pointer (some ⟨b, 0, none⟩), .agg #[nv tx, nv it, .int .i64 1]] w fun e w' => e = .returned (.tuple #[.bool false, .iface 93 (.int .i64 6)]) ∧ GateTo w b skips v { g with dead := g.dead ||| 2 ^ tx } w' := by
  have hd32 : g.dead < 4096 := by have := hg.2.2.2.2.1; omega
  have hw5 : g.wr.getD it 0 ≤ 5 := hg.2.2.2.2.2.2.2.2.1 it a2
  have hr5 : g.rd.getD it 0 ≤ 5 := hg.2.2.2.2.2.2.2.1 it a2
  have hl24 : g.acts.length < 24 := by have := hg.2.2.2.2.2.1; omega
  obtain ⟨A, cap, rfl⟩ := Rd.val h.2.acts
  rw [Sch.length_zacts] at h ⊢
  have H := Lib.hid h
  have HB := h.1.lt
  have h0 := h.alloc (.cells #[nv tx, nv it, .int .i64 1] 28)
  have h1 := h0.dead
  have h2 := h0.acts
  have h3 := h0.wr a2
  have h5 := h0.rd a2
  have h6 := h0.sk
  have h4 := h0.1.frozen 9
  have hlt : decide ((tx : Int) + 1 < ((g.wr.getD it 0 : Nat) : Int)) = true := by
    unfold Gt.late at hlate
    simp at hlate ⊢
    omega
  clear hlate
  have hea : decide ((tx : Int) + 1 < ((g.rd.getD it 0 : Nat) : Int)) = false := by
    unfold Gt.early at hearly
    simp at hearly ⊢
    omega
  clear hearly
  subst hsk
  generalize hdd : g.dead = dd at *
  generalize hxx : g.wr.getD it 0 = x at *
  generalize g.rd.getD it 0 = rv at *
  have hhas := Lib.hid fun n w5 => hasq dd tx n w5 hd32 (by omega)
  have hor := bits_or_shl dd tx (by omega) (by omega)
  rw [hd] at hhas
  generalize hnn : g.acts.length = n at *
  clear hd h hg hdd h0 hl hnn hxx
  go_enter Tryd.func17, Tryd.ntmps17
  go_wp2_with (go_at_call 57; refine (within_yes _ _ _ _ (by omega) (by omega)).mono ?_; rintro e w' ⟨rfl, rfl⟩)
  go_quiet ((go_at_call 58; exact hhas.out _ _))
  go_wp2_with fail
  go_quiet (fail)
  go_wp2_with fail
  go_quiet (fail)
  go_wp2_with fail
  go_region
  all_goals
    go_wp2_with fail
    go_ret2
    exact ⟨rfl, _, ((H.out.alloc _).drewN _).stop _, (((Only.refl _ _).alloc _).drewN _).setCell (.inl (.inl rfl)) _, fun _ hk => .inl hk⟩

set_option maxRecDepth 20000 in
set_option maxHeartbeats 2000000 in
theorem gdo_skip (skips : Bool) (g : Gt.G) (tx it : Nat) (b : Nat) (v : Value) (w : World) (h : GateAt w b skips g v) (hg : Gt.Inv g) (a1 : tx < 5) (a2 : it < 4) (hd : g.dead.testBit tx = false) (hl : g.acts.length ≠ 24) (hearly : Gt.early g (tx, it, 1) = false) (hlate : Gt.late g (tx, it, 1) = true) (hsk : skips = true) :
    Calls Tryd.prog 17 #[.pointer (some ⟨b, 0, none⟩), .agg #[nv tx, nv it, .int .i64 1]] w fun e w' => e = .returned (.tuple #[.bool false, .nilIface]) ∧ GateTo w b skips v g w' := by
  have hd32 : g.dead < 4096 := by have := hg.2.2.2.2.1; omega
  have hw5 : g.wr.getD it 0 ≤ 5 := hg.2.2.2.2.2.2.2.2.1 it a2
  have hr5 : g.rd.getD it 0 ≤ 5 := hg.2.2.2.2.2.2.2.1 it a2
  have hl24 : g.acts.length < 24 := by have := hg.2.2.2.2.2.1; omega
  obtain ⟨A, cap, rfl⟩ := Rd.val h.2.acts
  rw [Sch.length_zacts] at h ⊢
  have H := Lib.hid h
  have HB := h.1.lt
  have h0 := h.alloc (.cells #[nv tx, nv it, .int .i64 1] 28)
  have h1 := h0.dead
  have h2 := h0.acts
  have h3 := h0.wr a2
  have h5 := h0.rd a2
  have h6 := h0.sk
  have h4 := h0.1.frozen 9
  have hlt : decide ((tx : Int) + 1 < ((g.wr.getD it 0 : Nat) : Int)) = true := by
    unfold Gt.late at hlate
    simp at hlate ⊢
    omega
  clear hlate
  have hea : decide ((tx : Int) + 1 < ((g.rd.getD it 0 : Nat) : Int)) = false := by
    unfold Gt.early at hearly
    simp at hearly ⊢
    omega
  clear hearly
  subst hsk
  generalize hdd : g.dead = dd at *
  generalize hxx : g.wr.getD it 0 = x at *
  generalize g.rd.getD it 0 = rv at *
  have hhas := Lib.hid fun n w5 => hasq dd tx n w5 hd32 (by omega)
  have hor := bits_or_shl dd tx (by omega) (by omega)
  rw [hd] at hhas
  generalize hnn : g.acts.length = n at *
  clear hd h hg hdd h0 hl hnn hxx
  go_enter Tryd.func17, Tryd.ntmps17
  go_wp2_with (go_at_call 57; refine (within_yes _ _ _ _ (by omega) (by omega)).mono ?_; rintro e w' ⟨rfl, rfl⟩)
  go_quiet ((go_at_call 58; exact hhas.out _ _))
  go_wp2_with fail
  go_quiet (fail)
  go_wp2_with fail
  go_quiet (fail)
  go_wp2_with fail
  go_ret2
  exact ⟨rfl, GateTo.same H.out _ _⟩

end Go.Proofs.YtkindaadadggoaaDoor
