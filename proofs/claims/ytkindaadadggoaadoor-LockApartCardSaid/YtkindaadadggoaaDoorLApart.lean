/- The walk of the statement LockApart: at every input it returns true. Conditions: none beyond the handle's. (Printed by wip/gen/lapart.py.) -/
import Derived.Test.YtkindaadadggoaaDoorLFact
import Derived.Test.YtkindaadadggoaaDoorDeeds
import Derived.Test.YtkindaadadggoaaDoorApartM
import Derived.Test.YtkindaadadggoaaDoorActEq
import Derived.Test.YtkindaadadggoaaDoorAppAt
namespace Go.Proofs.YtkindaadadggoaaDoor
open Go.RowKit

/-- the table, the times of freeing, what was done and when, each in blocks of its own -/
structure Mem4 (w : World) (b : Nat) (l : Lk.L) (v : Value) (g c B2 : Nat) (free : List Int) (vd va : Value) (at_ : List Nat) : Prop where
  tab : TabAt w b l v
  fre : Own w g (.slice (some ⟨g, 0, none⟩) 20 c) free
  did : OwnA w B2 vd (Sch.zacts l.acts)
  ats : Own w B2 va (zs at_)
  low : g < B2
  size : B2 ≤ w.heap.size
  a1 : ∀ k, Foot b v k → k ≠ g ∧ vd.ownBlock ≠ some k ∧ va.ownBlock ≠ some k
  a2 : ∀ k, vd.ownBlock = some k → va.ownBlock ≠ some k
section
variable {w w' : World} {b : Nat} {l l' : Lk.L} {v v' : Value} {g c B2 : Nat} {free free' : List Int} {vd va vd' va' : Value} {at_ at' : List Nat}
theorem Mem4.only {S : Nat → Prop} (h : Mem4 w b l v g c B2 free vd va at_) (ho : Only S w w') (hS : ∀ k, S k → ¬ Foot b v k ∧ k ≠ g ∧ vd.ownBlock ≠ some k ∧ va.ownBlock ≠ some k) : Mem4 w' b l v g c B2 free vd va at_ :=
  ⟨h.tab.only ho (fun k hk hs => (hS k hs).1 hk), h.fre.only ho (fun k hk hs => (hS k hs).2.1 (by cases hk; rfl)), h.did.only ho (fun k hk hs => (hS k hs).2.2.1 hk), h.ats.only ho (fun k hk hs => (hS k hs).2.2.2 hk), h.low, Nat.le_trans h.size ho.size, h.a1, h.a2⟩
theorem Mem4.below (h : Mem4 w b l v g c B2 free vd va at_) (ho : Below w.heap.size w w') : Mem4 w' b l v g c B2 free vd va at_ :=
  h.only (Only.of_below ho (Nat.le_refl _) (fun _ => False)) (fun _ h => h.elim)
theorem Mem4.alloc (h : Mem4 w b l v g c B2 free vd va at_) (o : Obj) : Mem4 (w.alloc o) b l v g c B2 free vd va at_ := h.below ((Below.refl _ _).alloc (Nat.le_refl _) o)
theorem Mem4.drewN (h : Mem4 w b l v g c B2 free vd va at_) (n : Nat) : Mem4 (w.drewN n) b l v g c B2 free vd va at_ := h.below (drn (Below.refl _ _) n)
/-- behind a deed that does nothing -/
theorem Mem4.deed (h : Mem4 w b l v g c B2 free vd va at_) (ht : TabTo w b v l' w') (ha : l'.acts = l.acts) : ∃ v', Mem4 w' b l' v' g c B2 free vd va at_ := by
  obtain ⟨v', q1, q2, q3⟩ := ht
  refine ⟨v', q1, h.fre.only q2 (fun k hk hs => (h.a1 k hs).1 (by cases hk; rfl)), ?_, h.ats.only q2 (fun k hk hs => (h.a1 k hs).2.2 hk), h.low, Nat.le_trans h.size q2.size, fun k hk => ?_, h.a2⟩
  · rw [ha]; exact h.did.only q2 (fun k hk hs => (h.a1 k hs).2.1 hk)
  · rcases q3 k hk with g1 | g1
    · exact h.a1 k g1
    · refine ⟨fun e => ?_, fun e => ?_, fun e => ?_⟩
      · have := h.low; have := h.size; omega
      · have := (row_lt h.did k e).2; omega
      · have := (row_lt h.ats k e).2; omega
/-- what a table tells behind an act, the list of what was done not yet -/
structure Mem5 (w : World) (b : Nat) (l : Lk.L) (v : Value) (g c B2 : Nat) (free : List Int) (vd va : Value) (t : List Sch.N3) (at_ : List Nat) : Prop where
  tab : TabAt w b l v
  fre : Own w g (.slice (some ⟨g, 0, none⟩) 20 c) free
  did : OwnA w B2 vd (Sch.zacts t)
  ats : Own w B2 va (zs at_)
  low : g < B2
  size : B2 ≤ w.heap.size
  a1 : ∀ k, Foot b v k → k ≠ g ∧ vd.ownBlock ≠ some k ∧ va.ownBlock ≠ some k
  a2 : ∀ k, vd.ownBlock = some k → va.ownBlock ≠ some k
theorem Mem4.act (h : Mem4 w b l v g c B2 free vd va at_) (ht : TabTo w b v l' w') : ∃ v', Mem5 w' b l' v' g c B2 free vd va l.acts at_ := by
  obtain ⟨v', q1, q2, q3⟩ := ht
  refine ⟨v', q1, h.fre.only q2 (fun k hk hs => (h.a1 k hs).1 (by cases hk; rfl)), h.did.only q2 (fun k hk hs => (h.a1 k hs).2.1 hk), h.ats.only q2 (fun k hk hs => (h.a1 k hs).2.2 hk), h.low, Nat.le_trans h.size q2.size, fun k hk => ?_, h.a2⟩
  rcases q3 k hk with g1 | g1
  · exact h.a1 k g1
  · refine ⟨fun e => ?_, fun e => ?_, fun e => ?_⟩
    · have := h.low; have := h.size; omega
    · have := (row_lt h.did k e).2; omega
    · have := (row_lt h.ats k e).2; omega
theorem Mem5.below {t : List Sch.N3} (h : Mem5 w b l v g c B2 free vd va t at_) (ho : Below w.heap.size w w') : Mem5 w' b l v g c B2 free vd va t at_ := by
  have ho' := Only.of_below ho (Nat.le_refl _) (fun _ => False)
  exact ⟨h.tab.only ho' (fun _ _ h => h), h.fre.only ho' (fun _ _ h => h), h.did.only ho' (fun _ _ h => h), h.ats.only ho' (fun _ _ h => h), h.low, Nat.le_trans h.size ho.size, h.a1, h.a2⟩
theorem Mem5.alloc {t : List Sch.N3} (h : Mem5 w b l v g c B2 free vd va t at_) (o : Obj) : Mem5 (w.alloc o) b l v g c B2 free vd va t at_ := h.below ((Below.refl _ _).alloc (Nat.le_refl _) o)
theorem Mem5.drewN {t : List Sch.N3} (h : Mem5 w b l v g c B2 free vd va t at_) (n : Nat) : Mem5 (w.drewN n) b l v g c B2 free vd va t at_ := h.below (drn (Below.refl _ _) n)
theorem Mem5.addAct {t t' : List Sch.N3} (h : Mem5 w b l v g c B2 free vd va t at_) (hown : OwnA w' B2 vd' (Sch.zacts t')) (hg : w.grownBy w' vd.ownBlock) (hat : vd'.ownBlock = vd.ownBlock ∨ vd'.ownBlock = some w.heap.size) : Mem5 w' b l v g c B2 free vd' va t' at_ := by
  have ho : Only (fun k => vd.ownBlock = some k) w w' := (Only.refl _ _).grown hg (fun k hk => .inl hk)
  refine ⟨h.tab.only ho (fun k hk hs => (h.a1 k hk).2.1 hs), h.fre.only ho (fun k hk hs => ?_), hown, h.ats.only ho (fun k hk hs => h.a2 k hs hk), h.low, Nat.le_trans h.size ho.size, fun k hk => ⟨(h.a1 k hk).1, fun e => ?_, (h.a1 k hk).2.2⟩, fun k hk e => ?_⟩
  · cases hk
    have := (row_lt h.did g hs).1; have := h.low; omega
  · rcases hat with q | q
    · rw [q] at e; exact (h.a1 k hk).2.1 e
    · rw [q] at e
      injection e with e
      have := (h.tab.foot k hk).2; omega
  · rcases hat with q | q
    · rw [q] at hk; exact h.a2 k hk e
    · rw [q] at hk
      injection hk with hk
      have := (row_lt h.ats k e).2; omega
theorem Mem5.addAt (h : Mem5 w b l v g c B2 free vd va l.acts at_) (hown : Own w' B2 va' (zs at')) (hg : w.grownBy w' va.ownBlock) (hat : va'.ownBlock = va.ownBlock ∨ va'.ownBlock = some w.heap.size) : Mem4 w' b l v g c B2 free vd va' at' := by
  have ho : Only (fun k => va.ownBlock = some k) w w' := (Only.refl _ _).grown hg (fun k hk => .inl hk)
  refine ⟨h.tab.only ho (fun k hk hs => (h.a1 k hk).2.2 hs), h.fre.only ho (fun k hk hs => ?_), h.did.only ho (fun k hk hs => h.a2 k hk hs), hown, h.low, Nat.le_trans h.size ho.size, fun k hk => ⟨(h.a1 k hk).1, (h.a1 k hk).2.1, fun e => ?_⟩, fun k hk e => ?_⟩
  · cases hk
    have := (row_lt h.ats g hs).1; have := h.low; omega
  · rcases hat with q | q
    · rw [q] at e; exact (h.a1 k hk).2.2 e
    · rw [q] at e
      injection e with e
      have := (h.tab.foot k hk).2; omega
  · rcases hat with q | q
    · rw [q] at e; exact h.a2 k hk e
    · rw [q] at e
      injection e with e
      have := (row_lt h.did k hk).2; omega
theorem Mem4.freed (h : Mem4 w b l v g c B2 free vd va at_) (i : Nat) (x : Int) : Mem4 (w.setCell ⟨g, i, none⟩ (.int .i64 x)) b l v g c B2 (free.set i x) vd va at_ := by
  obtain ⟨_, _, _, _, q5⟩ := h.fre.lit
  have ho : Only (fun k => k = g) w (w.setCell ⟨g, i, none⟩ (.int .i64 x)) := (Only.refl (fun k => k = g) w).setCell (p := ⟨g, i, none⟩) (.inl rfl) _
  refine ⟨h.tab.only ho (fun k hk hs => (h.a1 k hk).1 hs), q5 i x, h.did.only ho (fun k hk hs => ?_), h.ats.only ho (fun k hk hs => ?_), h.low, by simpa using h.size, h.a1, h.a2⟩
  · subst hs; have := (row_lt h.did k hk).1; have := h.low; omega
  · subst hs; have := (row_lt h.ats k hk).1; have := h.low; omega
end

theorem Own.rebase {w : World} {base g n c : Nat} {l : List Int} (h : Own w base (.slice (some ⟨g, 0, none⟩) n c) l) : Own w g (.slice (some ⟨g, 0, none⟩) n c) l := by
  obtain ⟨q1, q2⟩ := h
  refine ⟨q1, ?_⟩
  rcases q2 with ⟨e, _⟩ | ⟨g', cap, cur, he, _, r⟩
  · cases e
  · cases he
    exact .inr ⟨g, _, cur, rfl, Nat.le_refl _, r⟩
/-- the box of the deed -/
structure Bx (w : World) (q : Nat) (x y z u : Int) : Prop where
  lt : q < w.heap.size
  c0 : w.cell? ⟨q, 0, none⟩ = some (.int .i64 x)
  c1 : w.cell? ⟨q, 1, none⟩ = some (.int .i64 y)
  c2 : w.cell? ⟨q, 2, none⟩ = some (.int .i64 z)
  c3 : w.cell? ⟨q, 3, none⟩ = some (.int .i64 u)
theorem Bx.new (w : World) (x y z u : Int) (t : TypeId) : Bx (w.alloc (.cells #[.int .i64 x, .int .i64 y, .int .i64 z, .int .i64 u] t)) w.heap.size x y z u :=
  ⟨by simp, by rw [World.cell?_alloc_new]; rfl, by rw [World.cell?_alloc_new]; rfl, by rw [World.cell?_alloc_new]; rfl, by rw [World.cell?_alloc_new]; rfl⟩
theorem Bx.only {S : Nat → Prop} {w w' : World} {q : Nat} {x y z u : Int} (h : Bx w q x y z u) (ho : Only S w w') (hq : ¬ S q) : Bx w' q x y z u :=
  ⟨Nat.lt_of_lt_of_le h.lt ho.size, (ho.cell h.lt hq).trans h.c0, (ho.cell h.lt hq).trans h.c1, (ho.cell h.lt hq).trans h.c2, (ho.cell h.lt hq).trans h.c3⟩
theorem Bx.drewN {w : World} {q : Nat} {x y z u : Int} (h : Bx w q x y z u) (n : Nat) : Bx (w.drewN n) q x y z u := h.only ((Only.refl (fun _ => False) w).drewN n) id
theorem acts_done {l : Lk.L} {a : Deed4} {tx it wt : Nat} (hs : lstepI l a = Lk.lstep l (3, tx, it, wt)) (hd : Lk.Ok4 (3, tx, it, wt)) (h0 : (Lk.lstep l (3, tx, it, wt)).2 = 0) : (lstepI l a).1.acts = l.acts ++ [(tx, it, wt)] := by
  rw [hs, (Lk.suff_done hd rfl h0).2]
theorem zacts_snoc (t : List Sch.N3) (a : Sch.N3) : Sch.zacts (t ++ [a]) = Sch.zacts t ++ [((a.1 : Int), (a.2.1 : Int), (a.2.2 : Int))] := by
  simp [Sch.zacts, Sch.z3]
theorem zs_snoc (t : List Nat) (a : Nat) : zs (t ++ [a]) = zs t ++ [(a : Int)] := by simp [zs]
/-- a deed that went well, as numbers -/
theorem went_well {l : Lk.L} {a : Deed4} (h : (lstepI l a).2 = 0) : ∃ k tx it : Nat, a.1 = k ∧ a.2.1 = tx ∧ a.2.2.1 = it ∧ k < 4 ∧ tx < 5 ∧ it < 4 ∧ ∃ wt : Nat, (k = 3 → a.2.2.2 = wt ∧ wt < 2) ∧ lstepI l a = Lk.lstep l (k, tx, it, wt) ∧ Lk.Ok4 (k, tx, it, wt) := by
  unfold lstepI at h
  split at h
  · rename_i hok
    have h4 := lstepI_ok hok
    obtain ⟨⟨h1, h2⟩, ⟨h3, h4'⟩, ⟨h5, h6⟩, h7⟩ := hok
    refine ⟨a.1.toNat, a.2.1.toNat, a.2.2.1.toNat, by omega, by omega, by omega, by omega, by omega, by omega, if a.1 = 3 then a.2.2.2.toNat else 0, fun e => ?_, ?_, h4⟩
    · have e3 : a.1 = 3 := by omega
      have := h7 e3
      rw [if_pos e3]
      omega
    · unfold lstepI
      rw [if_pos ⟨⟨h1, h2⟩, ⟨h3, h4'⟩, ⟨h5, h6⟩, h7⟩]
  · cases h
theorem went_ill {l : Lk.L} {a : Deed4} {free : List Int} {at_ : List Nat} {i : Nat} (h : (lstepI l a).2 ≠ 0) (hA : Lk.Ap l free at_ i) : Lk.Ap (lstepI l a).1 free at_ (i + 1) ∧ (lstepI l a).1.acts = l.acts := by
  unfold lstepI at h ⊢
  split
  · rename_i hok
    rw [if_pos hok] at h
    exact ⟨hA.stay (lstepI_ok hok) (fun g => h g.2) (fun g => h g.2), Lk.acts_step (fun g => h g.2) (lstepI_ok hok)⟩
  · exact ⟨hA.later, rfl⟩

set_option maxRecDepth 20000 in
set_option maxHeartbeats 16000000 in
theorem lapart_ok (s : List Deed4) (v : Value) (w : World) (hr : Deeds w w.heap.size v s) (hE : ErrTy w) :
    Calls Tryd.prog 8 #[v] w fun e w' => e = .returned (.bool true) ∧ Below w.heap.size w w' := by
  have hf := Lib.hid (lockFact_calls w hE)
  have HR := Lib.hid hr
  obtain ⟨A, cap, rfl⟩ := Rd.val hr
  clear hr hE
  go_enter Tryd.func8, Tryd.ntmps8
  go_wp2_with fail
  (with_reducible refine hf.out.mono ?_)
  rintro e w1 ⟨rfl, hb1⟩
  have hn := Lib.hid (lnew_calls w1)
  clear hf
  go_wp2_with fail
  (with_reducible refine hn.out.mono ?_)
  rintro e w2 ⟨rfl, hg2, hb2⟩
  have hbb := hb1.trans (hb2.mono hb1.size)
  generalize hbq : w1.heap.size = b at *
  have HBQ := Lib.hid (show w.heap.size ≤ b by rw [← hbq]; exact hb1.size)
  have hga0 := Lib.hid hg2
  have hbs := hg2.1.lt
  clear hn hb1 hb2 hbq hg2
  go_wp2_with fail
  go_loopw [5, 6] (fun fv i wr => ∃ (k : Nat) (vf : Value), k ≤ 20 ∧ i = nv k ∧ fv = vf ∧ Hid (Own wr w2.heap.size vf (List.replicate k (-1))) ∧ Hid (Below w2.heap.size w2 wr)) (fun _ i _ => 20 - (intOf i).toNat)
  case atStart => exact ⟨0, _, Nat.zero_le _, rfl, rfl, Lib.hid (Own.nil _ _), Lib.hid (Below.refl _ _)⟩
  case round =>
    obtain ⟨k, vf, hk, rfl, hvf, hown, hb⟩ := hrel
    replace hvf := hvf.symm
    subst hvf
    have hsz := hb.out.size
    by_cases hk20 : k < 20
    · have t1 : decide ((k : Int) < 20) = true := by simp; omega
      go_wp2_with (at_builtin; refine append_int rfl _ _ rfl w2.heap.size _ (List.replicate k (-1)) rfl (Own.alloc hown.out _) wr.heap.size rfl (-1) (by simp) (by rw [List.length_replicate]; omega) (by simp; omega) ?_; intro v' w6 hown6 hb6 _)
      have hown7 := Lib.hid (show Own w6 w2.heap.size v' (List.replicate (k + 1) (-1)) by rw [List.replicate_succ']; exact hown6)
      have hb7 := Lib.hid ((hb.out.alloc (o := .cells #[.int .i64 (-1)] 3) hsz).trans hb6)
      clear hown6 hb6
      go_wp2_with fail
      go_roundw
      case rel => exact ⟨k + 1, _, by omega, by go_num, rfl, hown7, hb7⟩
      case measure => simp [intOf]; omega
    · obtain rfl : k = 20 := by omega
      obtain ⟨g, c, rfl, hg1, hg2, -⟩ := Own.shape hown.out (by simp)
      rw [List.length_replicate] at *
      have HM0 := Lib.hid (show Mem4 wr b Lk.l0 (.slice none 0 0) g c wr.heap.size (List.replicate 20 (-1)) (.slice none 0 0) (.slice none 0 0) [] from
        ⟨hga0.out.only (Only.of_below hb.out (Nat.le_refl _) (fun _ => False)) (fun _ _ h => h), hown.out.rebase, OwnA.nil _ _, Own.nil _ _, hg2, Nat.le_refl _, fun k hk => ⟨fun e => by
          have := (hga0.out.foot k hk).2; omega, by simp [Value.ownBlock], by simp [Value.ownBlock]⟩, fun k hk => by cases hk⟩)
      have hbw := hbb.trans (hb.out.mono hbb.size)
      have HG := Lib.hid (show w.heap.size ≤ g by have := hbb.size; omega)
      have HBB := Lib.hid (show w.heap.size ≤ wr.heap.size from hbw.size)
      clear hown hb hga0 hbb hk20 hg1 hg2
      generalize wr.heap.size = B2 at *
      go_wp2_with fail
      go_loopw [7, 8, 9] (fun dv av i wr => ∃ (k : Nat) (l : Lk.L) (v vd va : Value) (free : List Int) (at_ : List Nat), k ≤ s.length ∧ i = nv k ∧ dv = vd ∧ av = va ∧ k ≤ 80 ∧ Hid (Lk.Inv l) ∧ Hid (Lk.Ap l free at_ k) ∧ Hid (Mem4 wr b l v g c B2 free vd va at_) ∧ Hid (Below w.heap.size w wr)) (fun _ _ i _ => s.length - (intOf i).toNat)
      case atStart => exact ⟨0, Lk.l0, _, _, _, _, [], Nat.zero_le _, rfl, rfl, rfl, by omega, Lib.hid Lk.inv0, Lib.hid Lk.ap0, HM0, Lib.hid hbw⟩
      case round =>
        clear HM0 hbw
        obtain ⟨k, l, v, vd, va, free, at_, hk, rfl, hvd, hva, hk80, hinv, hap, hm, hb⟩ := hrel
        replace hvd := hvd.symm
        replace hva := hva.symm
        subst hvd
        subst hva
        have hsz := hb.out.size
        by_cases hkl : k < s.length ∧ k < 80
        · obtain ⟨hk1, hk2⟩ := hkl
          obtain ⟨b1, off, cap', he, hbb, d0, d1, d2, d3⟩ := Deeds.at_ (Rd.below HR.out hb.out) hk1
          cases he
          generalize hsk : s[k] = a at *
          clear hsk
          have hI := Lib.hid (Lk.Inv.stepI hinv.out a)
          have HILL := Lib.hid fun (h : (lstepI l a).2 ≠ 0) => went_ill h hap.out
          have HWELL := Lib.hid fun (h : (lstepI l a).2 = 0) => went_well h
          have HINV := Lib.hid hinv.out
          have HAP := Lib.hid hap.out
          obtain ⟨x, y, z, u⟩ := a
          simp only at d0 d1 d2 d3
          go_wp2_with fail
          have HM5 := Lib.hid (hm.out.alloc (.cells #[.int .i64 x, .int .i64 y, .int .i64 z, .int .i64 u] 49))
          have HX5 := Lib.hid (Bx.new wr x y z u 49)
          have hb5 := Lib.hid (hb.out.alloc (o := .cells #[.int .i64 x, .int .i64 y, .int .i64 z, .int .i64 u] 49) hsz)
          have HF := Lib.hid (⟨fun h => Nat.lt_irrefl _ (hm.out.tab.foot wr.heap.size h).2, fun h => by have := hm.out.low; have := hm.out.size; omega⟩ : ¬ Foot b v wr.heap.size ∧ wr.heap.size ≠ g)
          have hcall := Lib.hid (ldo_calls l (x, y, z, u) b v _ HM5.out.tab HINV.out)
          simp only at hcall
          clear hm hb hinv d0 d1 d2 d3 hap
          generalize wr.alloc _ = w5 at *
          generalize wr.heap.size = q at *
          (with_reducible refine hcall.out.mono ?_)
          rintro e w6 ⟨rfl, ht⟩
          have hb6 := Lib.hid (ht.below hb5.out HM5.out.tab HBQ.out)
          have HX6 := Lib.hid (HX5.out.only ht.onlyF HF.out.1)
          clear hcall HX5 hb5
          by_cases hc : (lstepI l (x, y, z, u)).2 = 0
          · obtain ⟨k3, tx, it, e1, e2, e3, hk4, htx, hit, wt, h3, hst, hok⟩ := HWELL.out hc
            replace e1 : x = (k3 : Int) := e1
            replace e2 : y = (tx : Int) := e2
            replace e3 : z = (it : Int) := e3
            replace h3 : k3 = 3 → u = (wt : Int) ∧ wt < 2 := h3
            subst e1
            subst e2
            subst e3
            have HST := Lib.hid hst
            have HOK := Lib.hid hok
            have HC := Lib.hid (show (Lk.lstep l (k3, tx, it, wt)).2 = 0 by rw [← hst]; exact hc)
            have HT := Lib.hid ht
            rw [hc]
            simp only [errv, if_pos]
            clear HWELL HILL hst hok hc ht
            have t1 : decide ((tx : Int) < 0) = false := by simp
            have t2 : decide ((4 : Int) < (tx : Int)) = false := by simp; omega
            have t3 : decide ((it : Int) < 0) = false := by simp
            have t4 : decide ((3 : Int) < (it : Int)) = false := by simp; omega
            by_cases h2 : k3 = 2
            · subst h2
              obtain ⟨v', hm6⟩ := HM5.out.deed HT.out (by rw [HST.out]; exact Lk.acts_step (fun g => by omega) HOK.out)
              have hm6 := Lib.hid hm6
              have hap6 := Lib.hid (HAP.out.free HINV.out HOK.out rfl)
              rw [← HST.out] at hap6
              obtain ⟨_, c0, c1, c2, _⟩ := HX6.out
              obtain ⟨_, _, gc, gf, _⟩ := hm6.out.fre.lit
              have cI := gc (tx * 4 + it) (by rw [HAP.out.len]; omega)
              have fI := gf (tx * 4 + it)
              have hm7 := Lib.hid (hm6.out.freed (tx * 4 + it) (k : Int))
              have hb7 := Lib.hid (hb6.out.setCell (p := ⟨g, tx * 4 + it, none⟩) HG.out (.int .i64 (k : Int)))
              have c7 : (w6.setCell ⟨g, tx * 4 + it, none⟩ (.int .i64 (k : Int))).cell? ⟨q, 0, none⟩ = some (nv 2) := by
                have hne : (⟨g, tx * 4 + it, none⟩ : Addr) ≠ ⟨q, 0, none⟩ := fun e => HF.out.2 (congrArg Addr.block e).symm
                rw [World.cell?_setCell_other (h := hne)]
                exact c0
              clear HT HST HM5 gc gf hm6
              generalize free[tx * 4 + it]'(by rw [HAP.out.len]; omega) = fv at *
              go_wp2_with fail
              go_roundw
              case rel => exact ⟨k + 1, _, v', vd, va, _, at_, by omega, by go_num, rfl, rfl, by omega, hI, hap6, hm7, hb7⟩
              case measure => simp [intOf]; omega
            · by_cases h3' : k3 = 3
              · subst h3'
                obtain ⟨hu, hwt⟩ := h3 rfl
                subst hu
                have HAL := Lib.hid fun (j : Nat) (hj : j < l.acts.length) => HAP.out.alone HINV.out HOK.out rfl HC.out (k := j) hj
                have hap6 := Lib.hid (HAP.out.act HOK.out rfl HC.out)
                rw [← HST.out] at hap6
                have HA7 := Lib.hid (acts_done HST.out HOK.out HC.out)
                obtain ⟨v', hm6⟩ := HM5.out.act HT.out
                have hm6 := Lib.hid hm6
                obtain ⟨Ad, cd, hed⟩ := Rd.val hm6.out.did.acts
                obtain ⟨Aa, ca, hea⟩ := Rd.val hm6.out.ats.ints
                rw [Sch.length_zacts] at hed
                rw [length_zs] at hea
                have HLAT := HAP.out.lat
                have HLF := Lib.hid HAP.out.len
                have HL24 : l.acts.length ≤ 24 := HINV.out.2.2.2.2.2.2.1
                have HOKS := Lib.hid HINV.out.2.2.2.2.2.2.2.1
                have HPAST := Lib.hid HAP.out.past
                rw [HLAT] at hea
                subst hed
                subst hea
                obtain ⟨_, c0, c1, c2, _⟩ := HX6.out
                clear HT HST HM5 HC HOK HAP h2 h3
                generalize (lstepI l _).1 = l' at *
                go_wp2_with fail
                clear c0 c1 c2
                go_loopw [11] (fun i wr => ∃ j : Nat, j ≤ l.acts.length ∧ i = nv j ∧ Hid (Mem5 wr b l' v' g c B2 free (.slice Ad l.acts.length cd) (.slice Aa l.acts.length ca) l.acts at_) ∧ Hid (Bx wr q 3 tx it wt) ∧ Hid (Below w.heap.size w wr)) (fun i _ => l.acts.length - (intOf i).toNat)
                case atStart => exact ⟨0, Nat.zero_le _, rfl, hm6, HX6, hb6⟩
                case round =>
                  clear hm6 HX6 hb6
                  obtain ⟨j, hj, rfl, hm, hx, hb⟩ := hrel
                  have hsz := hb.out.size
                  obtain ⟨_, c0, c1, c2, c3⟩ := hx.out
                  by_cases hjl : j < l.acts.length
                  · obtain ⟨bd, od, cd', he, _, _, _, d0, d1, d2⟩ := Acts.atN hm.out.did.acts hjl
                    cases he
                    obtain ⟨ba, oa, ca', he, _, e0⟩ := Ints.atN hm.out.ats.ints (k := j) (by rw [HLAT]; exact hjl)
                    rw [HLAT] at he
                    cases he
                    obtain ⟨_, _, gc, _, _⟩ := hm.out.fre.lit
                    obtain ⟨o1, o2, o3⟩ := Sch.getD_ok HOKS.out j
                    have hal := HAL.out j hjl
                    have hp := HPAST.out j
                    generalize l.acts.getD j Sch.d3 = xx at *
                    obtain ⟨x0, x1, x2⟩ := xx
                    replace o1 : x0 < 5 := o1
                    replace o2 : x1 < 4 := o2
                    replace o3 : x2 < 2 := o3
                    replace hal : x0 ≠ tx → x1 = it → 0 < x2 + wt → (at_.getD j 0 : Int) ≤ free.getD (x0 * 4 + x1) (-1) := hal
                    generalize at_.getD j 0 = p at *
                    have hw : x0 = tx ∨ (x0 ≠ tx ∧ x1 ≠ it) ∨ (x0 ≠ tx ∧ x1 = it ∧ x2 + wt = 0) ∨ (x0 ≠ tx ∧ x1 = it ∧ 0 < x2 + wt) := by omega
                    rcases hw with rfl | ⟨g1, g2⟩ | ⟨g1, rfl, g3⟩ | ⟨g1, rfl, g3⟩
                    · have t5 : ((x0 : Int) != (x0 : Int)) = false := by simp
                      clear hal gc hp
                      go_wp2_with fail
                      go_quiet (fail)
                      go_wp2_with fail
                      go_roundw
                      case rel => exact ⟨j + 1, by omega, by go_num, Lib.hid (hm.out.drewN _), Lib.hid (hx.out.drewN _), Lib.hid (drn hb.out _)⟩
                      case measure => simp [intOf]; omega
                    · have t5 : ((x0 : Int) != (tx : Int)) = true := by simp; omega
                      have t6 : ((x1 : Int) == (it : Int)) = false := by simp; omega
                      clear hal gc hp
                      go_wp2_with fail
                      go_quiet (fail)
                      go_wp2_with fail
                      go_roundw
                      case rel => exact ⟨j + 1, by omega, by go_num, Lib.hid (hm.out.drewN _), Lib.hid (hx.out.drewN _), Lib.hid (drn hb.out _)⟩
                      case measure => simp [intOf]; omega
                    · have t5 : ((x0 : Int) != (tx : Int)) = true := by simp; omega
                      have t6 : ((x1 : Int) == (x1 : Int)) = true := by simp
                      have t7 : decide ((0 : Int) < (x2 : Int) + (wt : Int)) = false := by simp; omega
                      clear hal gc hp
                      go_wp2_with fail
                      go_quiet (fail)
                      go_wp2_with fail
                      go_roundw
                      case rel => exact ⟨j + 1, by omega, by go_num, Lib.hid (hm.out.drewN _), Lib.hid (hx.out.drewN _), Lib.hid (drn hb.out _)⟩
                      case measure => simp [intOf]; omega
                    · have t5 : ((x0 : Int) != (tx : Int)) = true := by simp; omega
                      have t6 : ((x1 : Int) == (x1 : Int)) = true := by simp
                      have t7 : decide ((0 : Int) < (x2 : Int) + (wt : Int)) = true := by simp; omega
                      have cI := gc (x0 * 4 + x1) (by rw [HLF.out]; omega)
                      have hal := hal g1 rfl g3
                      have hfv : free[x0 * 4 + x1]'(by rw [HLF.out]; omega) = free.getD (x0 * 4 + x1) (-1) := by
                        rw [List.getD_eq_getElem?_getD, List.getElem?_eq_getElem (by rw [HLF.out]; omega)]; rfl
                      rw [hfv] at cI
                      clear hfv gc hp
                      generalize free.getD (x0 * 4 + x1) (-1) = fv at *
                      have t8 : decide (fv < (p : Int)) = false := by simp; omega
                      go_wp2_with fail
                      go_quiet (fail)
                      go_wp2_with fail
                      go_roundw
                      case rel => exact ⟨j + 1, by omega, by go_num, Lib.hid (hm.out.drewN _), Lib.hid (hx.out.drewN _), Lib.hid (drn hb.out _)⟩
                      case measure => simp [intOf]; omega
                  · obtain rfl : j = l.acts.length := by omega
                    clear hj hjl
                    have hb8 := hb.out
                    go_wp2_with (at_builtin; (first | (refine append_act_at rfl _ _ rfl B2 _ (Sch.zacts l.acts) rfl (hm.out.alloc _).did wr.heap.size rfl ((tx : Int), (it : Int), (wt : Int)) (new_act _ _ _) (by rw [Sch.length_zacts]; omega) (hm.out.alloc _).size ?_; intro v3 w3 hown3 hg3 hat3; have hm7 := Lib.hid ((hm.out.alloc (.cells #[.int .i64 tx, .int .i64 it, .int .i64 wt] 28)).addAct (t' := l'.acts) (by rw [HA7.out, zacts_snoc]; exact hown3) hg3 hat3)) | (refine append_int_at rfl _ _ rfl B2 _ (zs at_) rfl (hm7.out.alloc _).ats w3.heap.size rfl (k : Int) (by simp) (by rw [length_zs]; omega) (hm7.out.alloc _).size ?_; intro v4 w4 hown4 hg4 hat4; have hm8 := Lib.hid ((hm7.out.alloc (.cells #[.int .i64 (k : Int)] 3)).addAt (at' := at_ ++ [k]) (by rw [zs_snoc]; exact hown4) hg4 hat4))))
                    go_roundw
                    case rel => exact ⟨k + 1, l', v', v3, v4, free, at_ ++ [k], by omega, by go_num, rfl, rfl, by omega, hI, hap6, hm8, Lib.hid ((((hb.out.alloc hsz _).grown hg3 (by simp; omega) (fun k hk => Nat.le_trans HBB.out (OwnA.blockLe hm.out.did k hk))).alloc (by have := hg3.size; simp at this; omega) _).grown hg4 (by have := hg3.size; simp at this ⊢; omega) (fun k hk => Nat.le_trans HBB.out (Own.blockLe hm7.out.ats k hk)))⟩
                    case measure => simp [intOf]; omega
              · have t5 : ((k3 : Int) == 2) = false := by simp; omega
                have t6 : ((k3 : Int) != 3) = true := by simp; omega
                obtain ⟨v', hm6⟩ := HM5.out.deed HT.out (by rw [HST.out]; exact Lk.acts_step (fun g => h3' g.1) HOK.out)
                have hm6 := Lib.hid hm6
                have hap6 := Lib.hid (HAP.out.stay HOK.out (fun g => h2 g.1) (fun g => h3' g.1))
                rw [← HST.out] at hap6
                obtain ⟨_, c0, c1, c2, _⟩ := HX6.out
                clear HT HST HM5
                go_wp2_with fail
                go_roundw
                case rel => exact ⟨k + 1, _, v', vd, va, free, at_, by omega, by go_num, rfl, rfl, by omega, hI, hap6, hm6, hb6⟩
                case measure => simp [intOf]; omega
          · obtain ⟨h1, h2⟩ := HILL.out hc
            obtain ⟨v', hm6⟩ := HM5.out.deed ht h2
            have hm6 := Lib.hid hm6
            have hap6 := Lib.hid h1
            have he : errv (lstepI l (x, y, z, u)).2 = .iface 93 (nv (lstepI l (x, y, z, u)).2) := by unfold errv; rw [if_neg hc]
            rw [he]
            clear HWELL HILL hc ht h1 h2 he HM5
            go_wp2_with fail
            go_roundw
            case rel => exact ⟨k + 1, _, v', vd, va, free, at_, by omega, by go_num, rfl, rfl, by omega, hI, hap6, hm6, hb6⟩
            case measure => simp [intOf]; omega
        · have hend : (((k : Int) < (s.length : Int)) ∧ decide ((k : Int) < 80) = false) ∨ ¬ k < s.length := by
            by_cases h : k < s.length
            · exact .inl ⟨by omega, by simp; omega⟩
            · exact .inr h
          clear hkl
          have hA := Lib.hid (lacts_calls l b v wr hm.out.tab hinv.out.2.2.2.2.2.2.1)
          have hX := Lib.hid fun (w5 : World) (v' : Value) (hb5 : Below wr.heap.size wr w5) (ho : OwnA w5 wr.heap.size v' (Sch.zacts l.acts)) => acts_eq_calls v' vd l.acts l.acts w5.heap.size w5 (Nat.le_refl _) ho.acts (hm.out.below hb5).did.acts
          rcases hend with ⟨t1, t2⟩ | hkk
          · have t1' : k < s.length := by omega
            go_wp2_with fail
            (with_reducible refine hA.out.mono ?_)
            rintro e w5 ⟨v5, rfl, hown, hb5⟩
            have hx := Lib.hid (hX.out w5 v5 hb5 hown)
            have hb6 := Lib.hid (hb.out.trans (hb5.mono hsz))
            clear hA hX hown hb5
            go_wp2_with fail
            (with_reducible refine hx.out.mono ?_)
            rintro e w6 ⟨rfl, hb7⟩
            clear hx
            go_wp2_with fail
            go_ret
            exact ⟨by simp, hb6.out.trans (hb7.mono hb6.out.size)⟩
          · go_wp2_with fail
            (with_reducible refine hA.out.mono ?_)
            rintro e w5 ⟨v5, rfl, hown, hb5⟩
            have hx := Lib.hid (hX.out w5 v5 hb5 hown)
            have hb6 := Lib.hid (hb.out.trans (hb5.mono hsz))
            clear hA hX hown hb5
            go_wp2_with fail
            (with_reducible refine hx.out.mono ?_)
            rintro e w6 ⟨rfl, hb7⟩
            clear hx
            go_wp2_with fail
            go_ret
            exact ⟨by simp, hb6.out.trans (hb7.mono hb6.out.size)⟩
/-- the law at every input -/
theorem lapart_calls (v : Value) (recs : List (List Int)) (w : World) (hr : Rd w w.heap.size 4 v recs.length (recs.flatMap fun r => r.map iv)) (hl : ∀ r ∈ recs, r.length = 4) (hE : ErrTy w) :
    Calls Tryd.prog 8 #[v] w fun e w' => e = .returned (.bool true) ∧ Below w.heap.size w w' := by
  obtain ⟨s, hs⟩ := deeds_of_recs hr hl
  exact lapart_ok s v w hs hE
end Go.Proofs.YtkindaadadggoaaDoor
