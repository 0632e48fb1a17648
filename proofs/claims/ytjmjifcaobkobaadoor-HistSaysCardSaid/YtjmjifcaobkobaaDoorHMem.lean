/- The search of package hist in memory: the map of what is dead, the search's own blocks, what a store and an append do to them. Conditions: each rule's own premises. -/
import Derived.Test.YtjmjifcaobkobaaDoorHCheck
import Derived.Test.YtjmjifcaobkobaaDoorObj
import Derived.Maps.OwnSet
import Derived.DeepKeys4
namespace Go.Proofs.YtjmjifcaobkobaaDoor
open Go.RowKit Go.Maps

abbrev DU := DataW Unit
theorem intLaw : Keyed Tryd.prog 3 := int_keyed Tryd.underlying3
theorem laidAll : laidOutB Tryd.prog = true := by kernel_rfl
theorem stLaw : Keyed Tryd.prog 59 := Keyed.of_law (deep_law_laid laidAll (m := 3) (by decide) (of_decide_eq_true (by kernel_rfl)) (by kernel_rfl) (by kernel_rfl))
theorem zeroIn (w : World) : (zeroValue 75).run Tryd.prog w = .ok (.map none) w := by kernel_rfl
theorem zeroB (w : World) : (zeroValue 4).run Tryd.prog w = .ok (.bool false) w := by kernel_rfl

/-- what a state is as a key -/
theorem st_key (a b c : Nat) (ha : a ≤ 1000000) (hb : b ≤ 1000000) (hc : c ≤ 1000000) : ∃ kl, keyOf Tryd.prog 59 (.agg #[nv a, nv b, nv c]) = some kl := by
  have hw : ∀ x : Nat, x ≤ 1000000 → (Lit.int .i64 (x : Int)).wf = true := fun x hx => WalkArith.wf_i64 (by omega)
  have hk : Tryd.prog.keyType 59 = true := by kernel_rfl
  have hcell : Tryd.prog.cellsOf 59 = 3 := by kernel_rfl
  have hcell1 : Tryd.prog.cellsOf 3 = 1 := by kernel_rfl
  obtain ⟨d, hd⟩ : ∃ d, Tryd.prog.types.size = d + 1 := ⟨Tryd.prog.types.size - 1, by
    have : 0 < Tryd.prog.types.size := of_decide_eq_true (by kernel_rfl)
    omega⟩
  refine ⟨.string (keyBytes [.int .i64 a, .int .i64 b, .int .i64 c]), ?_⟩
  simp [keyOf, Tryd.underlying59, hk, Value.formed, hcell, hd, Program.keyLits, Value.cells, hcell1, Tryd.underlying3, List.range_succ, hw a ha, hw b hb, hw c hc]

/-- how the dead map's elements are told: a map's block, or none -/
def outR : Value → Option (DU × List MemPlace)
  | .map none => some (.lit .nil, [])
  | .map (some b) => some (.lit (.int .i64 b), [])
  | _ => none
def encI : Option Nat → DU
  | none => .lit .nil
  | some b => .lit (.int .i64 b)
theorem outR_inv {v : Value} {o : Option Nat} {ps : List MemPlace} (h : outR v = some (encI o, ps)) : v = .map o := by
  unfold outR at h
  split at h
  · cases o with
    | none => rfl
    | some b => simp [encI] at h
  · cases o with
    | none => simp [encI] at h
    | some b =>
      simp [encI] at h
      obtain rfl : _ = b := Int.ofNat_inj.1 h.1
      rfl
  · cases h

/-- block bd is the outer map: it tells of each set its own map's block -/
def SM (w : World) (bd n : Nat) (I : Nat → Option Nat) : Prop :=
  ∃ D : DU, w.ownsMap Tryd.prog 3 outR bd n D ∧ IsMap D ∧ ∀ d : Nat, D.atKey (.int .i64 (d : Int)) (.lit .nil) = encI (I d)
/-- block b is an inner map: of what it calls dead G holds -/
def IM (w : World) (b n : Nat) (G : List Nat → Prop) : Prop :=
  ∃ D : DU, w.ownsMap Tryd.prog 59 (plainElem Tryd.prog 4) b n D ∧ IsMap D ∧
    ∀ (a b c : Nat) (kl : Lit), keyOf Tryd.prog 59 (.agg #[nv a, nv b, nv c]) = some kl → D.atKey kl (.lit (.bool false)) = .lit (.bool true) → G [a, b, c]

section
variable {w w' : World} {bd n b : Nat} {I : Nat → Option Nat} {G : List Nat → Prop}
theorem SM.lt (h : SM w bd n I) : bd < w.heap.size := by obtain ⟨D, h1, _⟩ := h; exact h1.lt
theorem IM.lt (h : IM w b n G) : b < w.heap.size := by obtain ⟨D, h1, _⟩ := h; exact h1.lt
theorem SM.kept {row : Option Nat} (h : SM w bd n I) (hg : w.grownBy w' row) (hne : some bd ≠ row) : SM w' bd n I := by
  obtain ⟨D, h1, h2, h3⟩ := h; exact ⟨D, h1.kept hg hne, h2, h3⟩
theorem IM.kept {row : Option Nat} (h : IM w b n G) (hg : w.grownBy w' row) (hne : some b ≠ row) : IM w' b n G := by
  obtain ⟨D, h1, h2, h3⟩ := h; exact ⟨D, h1.kept hg hne, h2, h3⟩
theorem SM.mono {n' : Nat} (h : SM w bd n I) (hn : n ≤ n') : SM w bd n' I := by obtain ⟨D, h1, h2, h3⟩ := h; exact ⟨D, h1.mono hn, h2, h3⟩
theorem IM.mono {n' : Nat} (h : IM w b n G) (hn : n ≤ n') : IM w b n' G := by obtain ⟨D, h1, h2, h3⟩ := h; exact ⟨D, h1.mono hn, h2, h3⟩
theorem ownsMap_block {P : Program} {k : TypeId} {R : Value → Option (DU × List MemPlace)} {D : DU} (h : w.ownsMap P k R b n D) (hb : w'.heap[b]? = w.heap[b]?) : w'.ownsMap P k R b n D := by
  obtain ⟨es, clock, h1, h2, h3, h4⟩ := h
  exact ⟨es, clock, hb.trans h1, h2, h3, h4⟩
theorem SM.of_block (h : SM w bd n I) (hb : w'.heap[bd]? = w.heap[bd]?) : SM w' bd n I := by obtain ⟨D, h1, h2, h3⟩ := h; exact ⟨D, ownsMap_block h1 hb, h2, h3⟩
theorem IM.of_block (h : IM w b n G) (hb : w'.heap[b]? = w.heap[b]?) : IM w' b n G := by obtain ⟨D, h1, h2, h3⟩ := h; exact ⟨D, ownsMap_block h1 hb, h2, h3⟩
theorem SM.made (w : World) : SM (w.alloc (.map #[] 0)) w.heap.size 0 (fun _ => none) := ⟨.map [], World.ownsMap_made _ _ _ _, isMap_empty, fun _ => rfl⟩
theorem IM.made (w : World) (G : List Nat → Prop) : IM (w.alloc (.map #[] 0)) w.heap.size 0 G := ⟨.map [], World.ownsMap_made _ _ _ _, isMap_empty, fun a b c kl _ h => by cases h⟩

theorem wf_nat {d : Nat} (hd : d < 4096) : (Lit.int .i64 (d : Int)).wf = true := WalkArith.wf_i64 (by omega)
theorem SM.look (h : SM w bd n I) {d : Nat} (hd : d < 4096) : (Instr.lookup 55 (.map (some bd)) (nv d) false).run Tryd.prog w = .ok (.map (I d)) w := by
  obtain ⟨D, h1, h2, h3⟩ := h
  obtain ⟨v, ps, hrun, hv⟩ := h1.lookup intLaw Tryd.underlying55 (zeroIn w) (zd := .lit .nil) (zp := []) rfl (keyOf_int_mk Tryd.underlying3 (wf_nat hd))
  rw [h3] at hv
  rw [hrun, outR_inv hv]
set_option maxRecDepth 20000 in
theorem plainBool_inv {v : Value} {z : DU × List MemPlace} (h : plainElem Tryd.prog 4 v = some z) : ∃ x, v = .bool x ∧ z = (.lit (.bool x), []) := by
  unfold plainElem at h
  rw [Tryd.underlying4] at h
  cases v <;> simp at h
  exact ⟨_, rfl, h.symm⟩
theorem IM.look (h : IM w b n G) {x y z : Nat} (hx : x ≤ 1000000) (hy : y ≤ 1000000) (hz : z ≤ 1000000) :
    ∃ r, (Instr.lookup 75 (.map (some b)) (.agg #[nv x, nv y, nv z]) false).run Tryd.prog w = .ok (.bool r) w ∧ (r = true → G [x, y, z]) := by
  obtain ⟨D, h1, h2, h3⟩ := h
  obtain ⟨kl, hk⟩ := st_key x y z hx hy hz
  obtain ⟨v, ps, hrun, hv⟩ := h1.lookup stLaw Tryd.underlying75 (zeroB w) (zd := .lit (.bool false)) (zp := []) (plainElem_bool Tryd.underlying4 false) hk
  obtain ⟨r, rfl, hr⟩ := plainBool_inv hv
  refine ⟨r, hrun, fun e => h3 x y z kl hk ?_⟩
  subst e
  exact (Prod.mk.inj hr).1
set_option maxRecDepth 20000 in
/-- the same at every world in which the block stands -/
theorem IM.lookAll (h : IM w b n G) {x y z : Nat} (hx : x ≤ 1000000) (hy : y ≤ 1000000) (hz : z ≤ 1000000) :
    ∃ r, (∀ w' : World, w'.heap[b]? = w.heap[b]? → (Instr.lookup 75 (.map (some b)) (.agg #[nv x, nv y, nv z]) false).run Tryd.prog w' = .ok (.bool r) w') ∧ (r = true → G [x, y, z]) := by
  obtain ⟨D, h1, h2, h3⟩ := h
  obtain ⟨kl, hk⟩ := st_key x y z hx hy hz
  obtain ⟨v, ps, hrun, hv⟩ := h1.lookup stLaw Tryd.underlying75 (zeroB w) (zd := .lit (.bool false)) (zp := []) (plainElem_bool Tryd.underlying4 false) hk
  obtain ⟨r, rfl, hr⟩ := plainBool_inv hv
  refine ⟨r, fun w' hw => ?_, fun e => h3 x y z kl hk ?_⟩
  · obtain ⟨v', ps', hrun', hv'⟩ := (ownsMap_block h1 hw).lookup stLaw Tryd.underlying75 (zeroB w') (zd := .lit (.bool false)) (zp := []) (plainElem_bool Tryd.underlying4 false) hk
    obtain ⟨r', rfl, hr'⟩ := plainBool_inv hv'
    have e1 := (Prod.mk.inj hr).1
    have e2 := (Prod.mk.inj hr').1
    rw [e1] at e2
    injection e2 with e2
    injection e2 with e2
    rw [hrun', e2]
  · subst e
    exact (Prod.mk.inj hr).1
theorem look_nilMap (w : World) {x y z : Nat} (hx : x ≤ 1000000) (hy : y ≤ 1000000) (hz : z ≤ 1000000) : (Instr.lookup 75 (.map none) (.agg #[nv x, nv y, nv z]) false).run Tryd.prog w = .ok (.bool false) w := by
  obtain ⟨kl, hk⟩ := st_key x y z hx hy hz
  simpa using Maps.look_nil (w := w) false stLaw Tryd.underlying75 (zeroB w) hk
theorem IM.store (h : IM w b n G) (hn : n < maxLen) {x y z : Nat} (hx : x ≤ 1000000) (hy : y ≤ 1000000) (hz : z ≤ 1000000) (hG : G [x, y, z]) :
    ∃ w', (Instr.mapUpdate 75 (.map (some b)) (.agg #[nv x, nv y, nv z]) (.bool true)).run Tryd.prog w = .ok () w' ∧ IM w' b (n + 1) G ∧ w.grownBy w' (some b) := by
  obtain ⟨D, h1, h2, h3⟩ := h
  obtain ⟨kl, hk⟩ := st_key x y z hx hy hz
  obtain ⟨w', hrun, h4, h5⟩ := h1.update stLaw Tryd.underlying75 hn hk (plainElem_bool Tryd.underlying4 true)
  refine ⟨w', hrun, ⟨_, h4, h2.put _ _, fun a b c kl' hk' hat => ?_⟩, h5⟩
  by_cases e : kl' = kl
  · subst e
    have := stLaw.inj hk' hk
    injection this with this
    injection this with this
    injection this with h6 h7
    injection h6 with _ h6
    injection h7 with h7 h8
    injection h7 with _ h7
    injection h8 with h8 _
    injection h8 with _ h8
    rw [show a = x by omega, show b = y by omega, show c = z by omega]
    exact hG
  · rw [atKey_put_other e] at hat
    exact h3 a b c kl' hk' hat
def upd (I : Nat → Option Nat) (d b : Nat) : Nat → Option Nat := fun k => if k = d then some b else I k
set_option maxRecDepth 20000 in
theorem SM.store (h : SM w bd n I) (hn : n < maxLen) {d : Nat} (hd : d < 4096) (b : Nat) :
    ∃ w', (Instr.mapUpdate 55 (.map (some bd)) (nv d) (.map (some b))).run Tryd.prog w = .ok () w' ∧ SM w' bd (n + 1) (upd I d b) ∧ w.grownBy w' (some bd) := by
  obtain ⟨D, h1, h2, h3⟩ := h
  have hk := keyOf_int_mk Tryd.underlying3 (wf_nat hd)
  obtain ⟨w', hrun, h4, h5⟩ := h1.update intLaw Tryd.underlying55 hn hk (val := .map (some b)) (d := .lit (.int .i64 b)) (ps := []) rfl
  refine ⟨w', hrun, ⟨_, h4, h2.put _ _, fun k => ?_⟩, h5⟩
  unfold upd
  by_cases e : k = d
  · subst e
    rw [if_pos rfl, atKey_put_same h2 (intLaw.key hk)]; rfl
  · rw [if_neg e, atKey_put_other (fun h => e (by injection h with _ h; omega)), h3]
end

/-- the cells of a search -/
def scell (hv pv : Value) (bd : Nat) (ov : Value) (j : Nat) : Value := if j = 0 then hv else if j = 1 then pv else if j = 2 then .map (some bd) else ov
/-- a search in memory: its block B, the dead map's block bd, what it told so far in ov -/
structure SrchAt (w : World) (bd B n : Nat) (G : Nat → List Nat → Prop) (hv pv ov : Value) (I : Nat → Option Nat) (l : List Nat) : Prop where
  row : w.rowIs B 57 4 (scell hv pv bd ov)
  out : Own w (B + 1) ov (zs l)
  map : SM w bd n I
  inn : ∀ d b, I d = some b → B < b ∧ IM w b n (G d) ∧ ov.ownBlock ≠ some b
  inj : ∀ d d' b, I d = some b → I d' = some b → d = d'
  lt : bd < B
/-- its blocks -/
def F (bd B : Nat) (ov : Value) (I : Nat → Option Nat) (k : Nat) : Prop := k = B ∨ k = bd ∨ ov.ownBlock = some k ∨ ∃ d, I d = some k

section
variable {w w' : World} {bd B n : Nat} {G : Nat → List Nat → Prop} {hv pv ov : Value} {I : Nat → Option Nat} {l : List Nat}
theorem SrchAt.foot (h : SrchAt w bd B n G hv pv ov I l) : ∀ k, F bd B ov I k → bd ≤ k ∧ k < w.heap.size := by
  rintro k (rfl | rfl | hk | ⟨d, hk⟩)
  · exact ⟨Nat.le_of_lt h.lt, h.row.lt⟩
  · exact ⟨Nat.le_refl _, h.map.lt⟩
  · have := row_lt h.out k hk; have := h.lt; omega
  · have := h.inn d k hk
    exact ⟨by have := h.lt; omega, this.2.1.lt⟩
theorem SrchAt.only {S : Nat → Prop} (h : SrchAt w bd B n G hv pv ov I l) (ho : Only S w w') (hS : ∀ k, F bd B ov I k → ¬ S k) : SrchAt w' bd B n G hv pv ov I l :=
  ⟨row_only' h.row ho (hS B (.inl rfl)), row_only h.out ho (fun k hk => hS k (.inr (.inr (.inl hk)))), h.map.of_block (ho.block bd h.map.lt (hS bd (.inr (.inl rfl)))),
    fun d b hd => ⟨(h.inn d b hd).1, (h.inn d b hd).2.1.of_block (ho.block b (h.inn d b hd).2.1.lt (hS b (.inr (.inr (.inr ⟨d, hd⟩))))), (h.inn d b hd).2.2⟩, h.inj, h.lt⟩
theorem SrchAt.alloc (h : SrchAt w bd B n G hv pv ov I l) (o : Obj) : SrchAt (w.alloc o) bd B n G hv pv ov I l :=
  h.only ((Only.refl (fun _ => False) w).alloc o) (fun _ _ h => h)
theorem SrchAt.drewN (h : SrchAt w bd B n G hv pv ov I l) (m : Nat) : SrchAt (w.drewN m) bd B n G hv pv ov I l :=
  h.only ((Only.refl (fun _ => False) w).drewN m) (fun _ _ h => h)
theorem SrchAt.mono (h : SrchAt w bd B n G hv pv ov I l) {n' : Nat} (hn : n ≤ n') : SrchAt w bd B n' G hv pv ov I l :=
  ⟨h.row, h.out, h.map.mono hn, fun d b hd => ⟨(h.inn d b hd).1, (h.inn d b hd).2.1.mono hn, (h.inn d b hd).2.2⟩, h.inj, h.lt⟩
/-- a store into a block beside it -/
theorem SrchAt.setCell (h : SrchAt w bd B n G hv pv ov I l) (p : Addr) (u : Value) (hp : ¬ F bd B ov I p.block) : SrchAt (w.setCell p u) bd B n G hv pv ov I l :=
  h.only ((Only.refl (fun k => k = p.block) w).setCell (.inl rfl) u) (fun _ hk e => hp (e ▸ hk))
theorem SrchAt.c0 (h : SrchAt w bd B n G hv pv ov I l) : w.cell? ⟨B, 0, none⟩ = some hv := h.row.cell (i := 0) (by decide)
theorem SrchAt.c1 (h : SrchAt w bd B n G hv pv ov I l) : w.cell? ⟨B, 1, none⟩ = some pv := h.row.cell (i := 1) (by decide)
theorem SrchAt.c2 (h : SrchAt w bd B n G hv pv ov I l) : w.cell? ⟨B, 2, none⟩ = some (.map (some bd)) := h.row.cell (i := 2) (by decide)
theorem SrchAt.c3 (h : SrchAt w bd B n G hv pv ov I l) : w.cell? ⟨B, 3, none⟩ = some ov := h.row.cell (i := 3) (by decide)
theorem SrchAt.f3 (h : SrchAt w bd B n G hv pv ov I l) : w.frozen? ⟨B, 3, none⟩ = false := h.row.frozen 3
/-- what is told is put into its cell -/
theorem SrchAt.setOut {w1 : World} {ov' : Value} {l' : List Nat} (h : SrchAt w bd B n G hv pv ov I l) (hg : w.grownBy w1 ov.ownBlock) (ho : Own w1 (B + 1) ov' (zs l')) (hat : ov'.ownBlock = ov.ownBlock ∨ ov'.ownBlock = none ∨ ∃ k, ov'.ownBlock = some k ∧ w.heap.size ≤ k) :
    SrchAt (w1.setCell ⟨B, 3, none⟩ ov') bd B n G hv pv ov' I l' := by
  have hB : some B ≠ ov.ownBlock := fun e => by have := row_lt h.out B e.symm; omega
  have hbd : some bd ≠ ov.ownBlock := fun e => by have := row_lt h.out bd e.symm; have := h.lt; omega
  have hr : w1.rowIs B 57 4 (scell hv pv bd ov) := h.row.of_block (hg.block B h.row.lt hB)
  have hset : ∀ j, j ≠ B → (w1.setCell ⟨B, 3, none⟩ ov').heap[j]? = w1.heap[j]? := Below.heap_setCell w1 ⟨B, 3, none⟩ ov'
  refine ⟨(hr.set 3 ov').congr fun j _ => ?_, ownsRow_setCell_below ho (Nat.lt_succ_self B) ov', (h.map.kept hg hbd).of_block (hset bd (by have := h.lt; omega)), fun d b hd => ?_, h.inj, h.lt⟩
  · unfold scell
    by_cases e : j = 3
    · subst e; rfl
    · rw [if_neg e]
      repeat' split
      all_goals first | rfl | omega
  · obtain ⟨h1, h2, h3⟩ := h.inn d b hd
    refine ⟨h1, (h2.kept hg (fun e => h3 e.symm)).of_block (hset b (by omega)), fun e => ?_⟩
    rcases hat with h4 | h4 | ⟨k, h4, h5⟩
    · rw [h4] at e; exact h3 e
    · rw [h4] at e; cases e
    · rw [h4] at e
      cases e
      have := h2.lt; omega
theorem Own.cut {A : Option Addr} {m cap : Nat} {l : List Int} (h : Own w B (.slice A m cap) l) (k : Nat) (hk : k ≤ l.length) (hl : 0 < l.length) : Own w B (.slice A k cap) (l.take k) := by
  obtain ⟨h1, h2⟩ := h
  rcases h2 with ⟨_, h2⟩ | ⟨g, cap', cur, he, hb, hg, hn, hc, hs, ht⟩
  · omega
  · cases he
    have hlen : (l.take k).length = k := by rw [List.length_take]; omega
    unfold Own
    rw [hlen]
    refine ⟨by rw [List.length_map, hlen]; omega, .inr ⟨g, cap, cur, rfl, hb, hg, by omega, hc, hs, ?_⟩⟩
    rw [List.map_take, ← ht, List.take_take]
    congr 1; omega
end
end Go.Proofs.YtjmjifcaobkobaaDoor
