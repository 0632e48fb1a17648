/- The cover of chain.Rows in memory: its box, the rows, and what is told. Conditions: each law's own premises. -/
import Derived.Test.YtpicjikjinkkpaaDoorRowsM
import Derived.Test.YtpicjikjinkkpaaDoorObj
import Derived.Test.YtpicjikjinkkpaaDoorMem
import Derived.Maps.AppendAt
namespace Go.Proofs.YtpicjikjinkkpaaDoor
open Go.RowKit

theorem wrap_shl (j : Nat) (hj : j < 62) : wrap64 (2 ^ j) = ((2 ^ j : Nat) : Int) := by
  rw [wrap_two_pow j hj, Int.natCast_pow]; rfl
theorem bits_andNot_shl (x j : Nat) (hx : x < 2 ^ 63) (hj : j < 62) : bits .andNot .i64 (x : Int) (wrap64 (2 ^ j)) = ((Odr.diff x (2 ^ j) : Nat) : Int) := by
  have h1 : 2 ^ j < 2 ^ 62 := Nat.pow_lt_pow_right (by omega) hj
  rw [wrap_shl j hj]
  exact bits_andNot _ _ hx (by omega)
theorem Own.cut {w : World} {B : Nat} {A : Option Addr} {m cap : Nat} {l : List Int} (h : Own w B (.slice A m cap) l) (k : Nat) (hk : k ≤ l.length) (hl : 0 < l.length) : Own w B (.slice A k cap) (l.take k) := by
  obtain ⟨h1, h2⟩ := h
  rcases h2 with ⟨_, h2⟩ | ⟨g, cap', cur, he, hb, hg, hn, hc, hs, ht⟩
  · omega
  · cases he
    have hlen : (l.take k).length = k := by rw [List.length_take]; omega
    unfold Own
    rw [hlen]
    refine ⟨by rw [List.length_map, hlen]; omega, .inr ⟨g, cap, cur, rfl, hb, hg, by omega, hc, hs, ?_⟩⟩
    rw [List.map_take, ← ht, List.take_take]
    congr 1; omega
def ccell (nv' rv ov : Value) (most : Nat) (j : Nat) : Value := if j = 0 then nv' else if j = 1 then rv else if j = 2 then ov else nv most
abbrev sl0 (g n : Nat) : Value := .slice (some ⟨g, 0, none⟩) n n
structure CovAt (w : World) (B gn go T n : Nat) (near : List Nat) (rv : Value) (most : Nat) (rows out : List Nat) : Prop where
  row : w.rowIs B 59 4 (ccell (sl0 gn n) rv (sl0 go n) most)
  near : Own w gn (sl0 gn n) (zs near)
  out : Own w go (sl0 go n) (zs out)
  rws : Own w T rv (zs rows)
  ne : gn ≠ go
  nn : gn ≠ B
  no : go ≠ B
  ltB : B < T
  ltn : gn < T
  lto : go < T
  lw : T ≤ w.heap.size
/-- the blocks that fill turns -/
def FC (B go : Nat) (rv : Value) (k : Nat) : Prop := k = B ∨ k = go ∨ rv.ownBlock = some k
section
variable {w w' : World} {B gn go T n : Nat} {near : List Nat} {rv : Value} {most : Nat} {rows out : List Nat}
theorem CovAt.foot (h : CovAt w B gn go T n near rv most rows out) : ∀ k, FC B go rv k → k ≠ gn ∧ k < w.heap.size ∧ (k = go ∨ k = B ∨ T ≤ k) := by
  have h1 := h.ltn
  have h2 := h.lto
  have h3 := h.ne
  have h4 := h.row.lt
  have h5 := h.nn
  rintro k (rfl | rfl | hk)
  · exact ⟨fun e => h5 e.symm, h4, .inr (.inl rfl)⟩
  · exact ⟨fun e => h3 e.symm, (row_lt h.out k rfl).2, .inl rfl⟩
  · have := row_lt h.rws k hk
    exact ⟨by omega, this.2, .inr (.inr this.1)⟩
theorem CovAt.only {S : Nat → Prop} (h : CovAt w B gn go T n near rv most rows out) (ho : Only S w w') (hS : ∀ k, FC B go rv k → ¬ S k) (hn : ¬ S gn) : CovAt w' B gn go T n near rv most rows out :=
  ⟨row_only' h.row ho (hS B (.inl rfl)), h.near.only ho (fun k hk => by cases hk; exact hn), h.out.only ho (fun k hk => by cases hk; exact hS go (.inr (.inl rfl))), h.rws.only ho (fun k hk => hS k (.inr (.inr hk))), h.ne, h.nn, h.no, h.ltB, h.ltn, h.lto, Nat.le_trans h.lw ho.size⟩
theorem CovAt.alloc (h : CovAt w B gn go T n near rv most rows out) (o : Obj) : CovAt (w.alloc o) B gn go T n near rv most rows out :=
  h.only ((Only.refl (fun _ => False) w).alloc o) (fun _ _ h => h) (fun h => h)
theorem CovAt.drewN (h : CovAt w B gn go T n near rv most rows out) (m : Nat) : CovAt (w.drewN m) B gn go T n near rv most rows out :=
  h.only ((Only.refl (fun _ => False) w).drewN m) (fun _ _ h => h) (fun h => h)
theorem CovAt.c0 (h : CovAt w B gn go T n near rv most rows out) : w.cell? ⟨B, 0, none⟩ = some (sl0 gn n) := h.row.cell (i := 0) (by decide)
theorem CovAt.c1 (h : CovAt w B gn go T n near rv most rows out) : w.cell? ⟨B, 1, none⟩ = some rv := h.row.cell (i := 1) (by decide)
theorem CovAt.c2 (h : CovAt w B gn go T n near rv most rows out) : w.cell? ⟨B, 2, none⟩ = some (sl0 go n) := h.row.cell (i := 2) (by decide)
theorem CovAt.c3 (h : CovAt w B gn go T n near rv most rows out) : w.cell? ⟨B, 3, none⟩ = some (nv most) := h.row.cell (i := 3) (by decide)
theorem CovAt.f1 (h : CovAt w B gn go T n near rv most rows out) : w.frozen? ⟨B, 1, none⟩ = false := h.row.frozen 1
theorem CovAt.nearAt (h : CovAt w B gn go T n near rv most rows out) {k : Nat} (hk : k < near.length) : w.cell? ⟨gn, k, none⟩ = some (nv (near.getD k 0)) := by
  have := h.near.lit.2.2.1 k (by rw [length_zs]; exact hk)
  rw [zs_getElem] at this
  exact this
theorem CovAt.outAt (h : CovAt w B gn go T n near rv most rows out) {k : Nat} (hk : k < out.length) : w.cell? ⟨go, k, none⟩ = some (nv (out.getD k 0)) ∧ w.frozen? ⟨go, k, none⟩ = false := by
  have := h.out.lit.2.2.1 k (by rw [length_zs]; exact hk)
  rw [zs_getElem] at this
  exact ⟨this, h.out.lit.2.2.2.1 k⟩
theorem CovAt.val (h : CovAt w B gn go T n near rv most rows out) : ∃ A cap, rv = .slice A rows.length cap ∧ rows.length ≤ cap := by
  obtain ⟨_, A, cap, e, h1, _⟩ := h.rws.ints
  rw [length_zs] at e h1
  exact ⟨A, cap, e, h1⟩
/-- the rows where there are some -/
theorem CovAt.lit (h : CovAt w B gn go T n near rv most rows out) (hr : 0 < rows.length) : ∃ g cap, rv = .slice (some ⟨g, 0, none⟩) rows.length cap ∧ (T ≤ g ∧ g ≠ B) ∧ rows.length ≤ cap ∧ ∀ k, k < rows.length → w.cell? ⟨g, k, none⟩ = some (nv (rows.getD k 0)) ∧ w.frozen? ⟨g, k, none⟩ = false := by
  rcases h.rws.2 with ⟨hv, h0⟩ | ⟨g, cap, cur, hv, hb, -⟩
  · rw [length_zs] at h0; omega
  · rw [length_zs] at hv
    have ho := h.rws
    rw [hv] at ho
    have hl := Own.lit ho
    have hB := h.ltB
    refine ⟨g, cap, hv, ⟨hb, by omega⟩, ?_, fun k hk => ?_⟩
    · obtain ⟨_, A, cap', e, h1, _⟩ := ho.ints
      rw [length_zs] at e h1
      cases e
      exact h1
    · have := hl.2.2.1 k (by rw [length_zs]; exact hk)
      rw [zs_getElem] at this
      exact ⟨this, hl.2.2.2.1 k⟩
/-- a row is turned -/
theorem CovAt.setRow {g cap : Nat} (h : CovAt w B gn go T n near (.slice (some ⟨g, 0, none⟩) rows.length cap) most rows out) (k x : Nat) : CovAt (w.setCell ⟨g, k, none⟩ (.int .i64 (x : Int))) B gn go T n near (.slice (some ⟨g, 0, none⟩) rows.length cap) most (rows.set k x) out := by
  have hb := (row_lt h.rws g rfl).1
  have h1 := h.ltn
  have h2 := h.lto
  have h4 := h.ltB
  have ho : Only (fun j => j = g) w (w.setCell ⟨g, k, none⟩ (.int .i64 (x : Int))) := (Only.refl (fun j => j = g) w).setCell (p := ⟨g, k, none⟩) (.inl rfl) _
  refine ⟨row_only' h.row ho (by show ¬ B = g; omega), h.near.only ho (fun j hj (e : j = g) => by have q : gn = j := Option.some.inj hj; omega), h.out.only ho (fun j hj (e : j = g) => by have q : go = j := Option.some.inj hj; omega), ?_, h.ne, h.nn, h.no, h.ltB, h.ltn, h.lto, Nat.le_trans h.lw ho.size⟩
  rw [← zs_set]
  exact h.rws.lit.2.2.2.2 k x
/-- what is told is turned -/
theorem CovAt.setOut (h : CovAt w B gn go T n near rv most rows out) (k x : Nat) : CovAt (w.setCell ⟨go, k, none⟩ (.int .i64 (x : Int))) B gn go T n near rv most rows (out.set k x) := by
  have h1 := h.ltn
  have h2 := h.lto
  have h3 := h.ne
  have h5 := h.no
  have ho : Only (fun j => j = go) w (w.setCell ⟨go, k, none⟩ (.int .i64 (x : Int))) := (Only.refl (fun j => j = go) w).setCell (p := ⟨go, k, none⟩) (.inl rfl) _
  refine ⟨row_only' h.row ho (fun e => h5 e.symm), h.near.only ho (fun j hj (e : j = go) => by have q : gn = j := Option.some.inj hj; omega), ?_, h.rws.only ho (fun j hj (e : j = go) => by have := (row_lt h.rws j hj).1; omega), h.ne, h.nn, h.no, h.ltB, h.ltn, h.lto, Nat.le_trans h.lw ho.size⟩
  rw [← zs_set]
  exact h.out.lit.2.2.2.2 k x
/-- the rows' slice is put into its cell -/
theorem CovAt.setRv {w1 : World} {rv' : Value} {rows' : List Nat} (h : CovAt w B gn go T n near rv most rows out) (hg : w.grownBy w1 rv.ownBlock) (ho : Own w1 T rv' (zs rows')) : CovAt (w1.setCell ⟨B, 1, none⟩ rv') B gn go T n near rv' most rows' out := by
  have hTB := h.ltB
  have hB : some B ≠ rv.ownBlock := fun e => by have := row_lt h.rws B e.symm; omega
  have hl := h.lto
  have hnn := h.nn
  have hno := h.no
  have hn := h.ltn
  have hr : w1.rowIs B 59 4 (ccell (sl0 gn n) rv (sl0 go n) most) := h.row.of_block (hg.block B h.row.lt hB)
  have ho1 : Only (fun k => rv.ownBlock = some k) w w1 := (Only.refl _ w).grown hg (fun k hk => .inl hk)
  have ho2 : Only (fun k => k = B) w1 (w1.setCell ⟨B, 1, none⟩ rv') := (Only.refl (fun k => k = B) w1).setCell (p := ⟨B, 1, none⟩) (.inl rfl) _
  refine ⟨(hr.set 1 rv').congr fun j _ => ?_, (h.near.only ho1 (fun k hk e => ?_)).only ho2 (fun k hk (e : k = B) => ?_), (h.out.only ho1 (fun k hk e => ?_)).only ho2 (fun k hk (e : k = B) => ?_), ho.only ho2 (fun k hk (e : k = B) => by have := (row_lt ho k hk).1; omega), h.ne, h.nn, h.no, h.ltB, h.ltn, h.lto, Nat.le_trans h.lw (Nat.le_trans ho1.size ho2.size)⟩
  · unfold ccell
    by_cases e : j = 1
    · subst e; rfl
    · rw [if_neg e]
      repeat' split
      all_goals first | rfl | omega
  · have q : gn = k := Option.some.inj hk
    have := (row_lt h.rws k e).1; omega
  · have q : gn = k := Option.some.inj hk
    omega
  · have q : go = k := Option.some.inj hk
    have := (row_lt h.rws k e).1; omega
  · have q : go = k := Option.some.inj hk
    omega
theorem FC.next {rv' : Value} {k : Nat} (hat : rv'.ownBlock = rv.ownBlock ∨ rv'.ownBlock = none ∨ ∃ j, rv'.ownBlock = some j ∧ w.heap.size ≤ j) (hk : FC B go rv' k) : FC B go rv k ∨ w.heap.size ≤ k := by
  rcases hk with q | q | q
  · exact .inl (.inl q)
  · exact .inl (.inr (.inl q))
  · rcases hat with h | h | ⟨j, h, h'⟩
    · exact .inl (.inr (.inr (h.symm.trans q)))
    · rw [h] at q; cases q
    · rw [h] at q; cases q; exact .inr h'
end
end Go.Proofs.YtpicjikjinkkpaaDoor
