/- Contract of view.Danger. Conditions: the contract's own premises. (Printed by wip/gen/vcommit.py.) -/
import Derived.Test.YtkindaadadggoaaDoorVEdges
namespace Go.Proofs.YtkindaadadggoaaDoor
open Go.RowKit Go.Shelf
attribute [local go_sem] Oper.semAt_some

/-- is somebody's reading written over by one whose own is, of a row of sets -/
def dang (O : List Nat) : Bool := (List.range 5).any fun i => (List.range 5).any fun j => Odr.rel O i j && decide (O.getD j 0 ≠ 0) && decide (i ≠ j)
theorem dang_iff (O : List Nat) : dang O = true ↔ ∃ i j, i < 5 ∧ j < 5 ∧ Odr.rel O i j = true ∧ O.getD j 0 ≠ 0 ∧ i ≠ j := by
  unfold dang
  simp only [List.any_eq_true, List.mem_range, Bool.and_eq_true, decide_eq_true_eq]
  constructor
  · rintro ⟨i, hi, j, hj, ⟨h1, h2⟩, h3⟩
    exact ⟨i, j, hi, hj, h1, h2, h3⟩
  · rintro ⟨i, j, hi, hj, h1, h2, h3⟩
    exact ⟨i, hi, j, hj, ⟨h1, h2⟩, h3⟩
/-- of those that were seen nobody's own is written over but the reader's -/
def Dok (O : List Nat) (k : Nat) {s : Nat} (pre : List (El s)) : Prop := ∀ y ∈ pre.map (·.1), O.getD y 0 ≠ 0 → k = y
theorem Dok.snoc {O : List Nat} {k s : Nat} {pre : List (El s)} (h : Dok O k pre) (y : El s) (hy : O.getD y.1 0 ≠ 0 → k = y.1) : Dok O k (pre ++ [y]) := by
  intro z hz
  rw [List.map_append, List.mem_append] at hz
  rcases hz with hz | hz
  · exact h z hz
  · simp only [List.map_cons, List.map_nil, List.mem_singleton] at hz
    rw [hz]; exact hy
set_option maxRecDepth 20000 in
set_option maxHeartbeats 4000000 in
theorem vdanger_calls (v : Vw.V) (b : Nat) (vs : Nat → Value) (w : World) (h : StAt w b v vs) (hI : Vw.Inv v) (hT : Tab w) :
    Calls Tryd.prog 27 #[.pointer (some ⟨b, 0, none⟩)] w fun e w' => e = .returned (.bool (Vw.danger v)) ∧ Below w.heap.size w w' := by
  have H5 := Lib.hid (Vw.five_ed hI)
  have HE := Lib.hid fun (w5 : World) (hb : Below w.heap.size w w5) => vedges_calls v b vs w5 (h.below hb) hI (hT.below hb)
  have HT := Lib.hid hT
  rw [show Vw.danger v = dang (Vw.ed v).2 from rfl]
  clear h hI hT
  generalize Vw.ed v = E at *
  obtain ⟨E1, O⟩ := E
  dsimp only at *
  refine (callsIn_wide (n := 9)).1 ?_
  refine callsIn_of_wp_marks Tryd.func27 rfl trivial ?_ rfl
  simp only [Tryd.ntmps27, List.size_toArray, List.length_cons, List.length_nil, Nat.reduceAdd, Nat.reduceSub, Array.replicate_succ, Array.replicate_zero, List.push_toArray, List.append_toArray, List.nil_append, List.cons_append]
  gi_wp2_with fail
  obtain ⟨w1, hw1, z1, b1, k1, f1⟩ := boxedV w (.bool false) 4
  rw [hw1]
  obtain ⟨B, hB⟩ : ∃ B, B = w.heap.size := ⟨_, rfl⟩
  rw [← hB] at k1 f1 z1 b1 ⊢
  have HBw := Lib.hid hB
  refine ⟨trivial, ?_⟩
  refine (callsIn_wide.2 (HE.out w1 (by rw [← hB]; exact b1))).mono ?_
  rintro e W2 ⟨v1, v2, rfl, -, o2, hb2⟩
  have k2 := (hb2.cell (p := ⟨B, 0, none⟩) (by simp; omega)).trans k1
  have f2 := (hb2.frozen (p := ⟨B, 0, none⟩) (by simp; omega)).trans f1
  have hbB := b1.trans (hb2.mono (by omega))
  have hs2 : B + 1 ≤ W2.heap.size := by have := hb2.size; omega
  have HO5 := Lib.hid (show Vw.Five O from H5.out.2)
  have hr := o2.ints
  obtain ⟨A, cap, rfl⟩ := Rd.val hr
  rw [length_zs, HO5.out.1] at hr o2 ⊢
  clear hw1 z1 b1 k1 f1 hb2 HE H5 o2 hB
  gi_wp2_with fail
  obtain ⟨W3, hw3, z3, b3, k3, -⟩ := boxedV W2 (.slice A 5 cap) 26
  rw [hw3]
  obtain ⟨G, hG⟩ : ∃ G, G = W2.heap.size := ⟨_, rfl⟩
  rw [← hG] at z3 k3 hs2 ⊢
  have k4 := (b3.cell (p := ⟨B, 0, none⟩) (by simp; omega)).trans k2
  have f4 := (b3.frozen (p := ⟨B, 0, none⟩) (by simp; omega)).trans f2
  have hb4 := hbB.trans (b3.mono (by omega))
  have hr4 := Rd.below hr b3
  rw [← hG] at hr4
  clear hG
  clear hw3 b3 k2 f2 hbB hr
  have HTW := Lib.hid (show Tab W3 from HT.out.below (by have := hb4; rwa [HBw.out] at this))
  have hg0 : 2 < B := by rw [HBw.out]; exact HT.out.lt
  have HB4 := Lib.hid hb4
  have HG3 := Lib.hid (show W3.heap.size = G + 1 from z3)
  have hgB : B + 1 ≤ G := hs2
  clear hb4 z3
  refine wpIn_loop (fun a W => ∃ (k : Nat) (rs : List Nat) (y5 y6 y16 y17 y18 y19 y20 y21 y33 : Value), a = { tmps := #[.pointer (some ⟨b, 0, none⟩), undef, .pointer (some ⟨B, 0, none⟩), v1, .pointer (some ⟨G, 0, none⟩), y5, y6, undef, .tuple #[v1, .slice A 5 cap], .pointer (some ⟨b, 0, none⟩), .tuple #[v1, .slice A 5 cap], v1, .slice A 5 cap, .slice A 5 cap, nv 5, nv k, y16, y17, y18, y19, y20, y21, undef, undef, undef, undef, undef, undef, undef, undef, undef, undef, undef, y33], defers := marks rs } ∧ k ≤ 5 ∧ MarksOk B rs W ∧
    Hid (∀ i, i < k → ∀ j, j < 5 → Odr.rel O i j = true → O.getD j 0 ≠ 0 → i = j) ∧ Below W3.heap.size W3 W) (fun a _ => 5 - (intOf (a.tmps.getD 15 undef)).toNat) ⟨0, [], _, _, _, _, _, _, _, _, _, rfl, Nat.zero_le _, MarksOk.nil _ _, Lib.hid (fun i hi => absurd hi (by omega)), Below.refl _ _⟩ ?_
  rintro a W ⟨k, rs, y5, y6, y16, y17, y18, y19, y20, y21, y33, rfl, hk, hmk, hall, hb⟩
  have hbs := hb.size
  have k3' := (hb.cell (p := ⟨G, 0, none⟩) (by have := HG3.out; simp; omega)).trans k3
  have k4' := (hb.cell (p := ⟨B, 0, none⟩) (by have := HG3.out; simp; omega)).trans k4
  have f4' := (hb.frozen (p := ⟨B, 0, none⟩) (by have := HG3.out; simp; omega)).trans f4
  by_cases hk5 : k < 5
  · obtain ⟨b0, off, cap', he, gb, gk⟩ := Ints.atN (Rd.below hr4 (hb.mono (by have := HG3.out; omega))) (k := k) (by rw [HO5.out.1]; exact hk5)
    rw [HO5.out.1] at he
    injection he with he1 _ he3
    subst he1 he3
    have hrow : O.getD k 0 < 32 := HO5.out.lt k
    obtain ⟨s, hs⟩ : ∃ s, s = O.getD k 0 := ⟨_, rfl⟩
    rw [← hs] at gk hrow
    have HS := Lib.hid hs
    clear hs
    have i1 : (k : Int) < 5 := by omega
    gi_wp2_with fail
    refine ⟨trivial, ?_⟩
    refine (callsIn_wide.2 (bits_make s _)).mono ?_
    rintro e wb ⟨rfl, hwb⟩
    obtain ⟨B6, hB6⟩ : ∃ B6, B6 = W.heap.size := ⟨_, rfl⟩
    have hsb : wb.heap.size = B6 + 1 + 1 := by rw [← hwb, hB6]; simp
    have hbb : Below W.heap.size W wb := by rw [← hwb]; exact ((Below.refl _ W).alloc (Nat.le_refl _) _).alloc (by simp) _
    have hc6 : wb.cell? ⟨B6, 0, none⟩ = some (nv k) := by rw [← hwb, hB6]; simp
    have hcb : wb.cell? ⟨B6 + 1, 0, none⟩ = some (nv s) := by rw [← hwb, hB6]; simp
    have hsz6 : (W.alloc (Obj.cells #[Value.int IntKind.i64 ↑k] 3)).heap.size = B6 + 1 := by rw [hB6]; simp
    rw [hsz6, ← hB6]
    have hmkb := hmk.calls hbb
    have hBb : Below W3.heap.size W3 wb := hb.trans (hbb.mono hb.size)
    have htabb := HTW.out.below hBb
    have k3b := (hbb.cell (p := ⟨G, 0, none⟩) (by have := HG3.out; simp; omega)).trans k3'
    have k4b := (hbb.cell (p := ⟨B, 0, none⟩) (by have := HG3.out; simp; omega)).trans k4'
    have f4b := (hbb.frozen (p := ⟨B, 0, none⟩) (by have := HG3.out; simp; omega)).trans f4'
    have HSB := Lib.hid hsb
    have HBS := Lib.hid (show G + 1 ≤ B6 by have := HG3.out; rw [hB6]; omega)
    have HHB := Lib.hid hBb
    clear hwb hsz6 hmk hb hsb k3' k4' f4' hbs hB6 hbb hBb
    gi_wp2_with fail
    refine wpIn_rangeFunc_ownF rfl (by omega) (gf := 81) (lb := #[.pointer (some ⟨B6 + 1, 0, none⟩)]) rfl trivial (enters_of Tryd.func81 (by kernel_rfl) rfl)
      (bits_stops 8 (by omega) (B6 + 1) B s (by omega) wb htabb hg0 hcb) belowK_t (belowK_b (by have := HSB.out; have := HBS.out; omega)) (Below.refl _ _) (fun _ => rfl)
      (fun pre W => Dok O k pre ∧ Below wb.heap.size wb W)
      (fun d pre W => (d = .ret ∧ dang O = true) ∧ W.cell? ⟨B, 0, none⟩ = some (.bool true) ∧ (MarksOk B rs W ∧ wb.heap.size ≤ W.heap.size) ∧ Below B w W)
      (OwnFrom.and (ownFrom_pure _) (ownFrom_below (Nat.le_refl _) (Nat.le_refl _)))
      (fun _ => OwnFrom.and (ownFrom_pure _) (OwnFrom.and (ownFrom_cell1 _ _) (OwnFrom.and (ownFrom_marks hmkb.lt) (ownFrom_below (by rw [HBw.out]; exact Nat.le_refl _) (by have := HSB.out; have := HBS.out; omega))))) ⟨fun _ h => (by cases h), Below.refl _ _⟩
      (fun x => { tmps := #[.pointer (some ⟨b, 0, none⟩), undef, .pointer (some ⟨B, 0, none⟩), v1, .pointer (some ⟨G, 0, none⟩), .pointer (some ⟨B6, 0, none⟩), nv s, nv x.1, .tuple #[v1, .slice (some ⟨b0, off, none⟩) 5 cap], .pointer (some ⟨b, 0, none⟩), .tuple #[v1, .slice (some ⟨b0, off, none⟩) 5 cap], v1, .slice (some ⟨b0, off, none⟩) 5 cap, .slice (some ⟨b0, off, none⟩) 5 cap, nv 5, nv k, .bool true, nv k, .pointer (some ⟨b0, off + k, none⟩), nv s, nv s, .func (.func 81) #[] #[.pointer (some ⟨B6 + 1, 0, none⟩)], nv x.1, undef, undef, undef, undef, undef, undef, undef, undef, undef, undef, y33], defers := [] }) ?assign ?body ?done ?stop
    case assign =>
      intro l x W K hK
      gi_wp2
      exact hK
    case body =>
      rintro l pre ⟨x, hx⟩ W ⟨j1, j2⟩ _
      have hkx : Odr.rel O k x = true := by unfold Odr.rel; rw [← HS.out]; exact hx
      have hx5 : x < 5 := by
        have := Odr.rel_lt_right HO5.out.2 hkx
        rw [HO5.out.1] at this
        exact this
      have hWB := HHB.out.trans (j2.mono (by have := HHB.out.size; omega))
      obtain ⟨g, o, c2, he, gl, gx⟩ := Ints.atN (Rd.below hr4 (hWB.mono (by have := HG3.out; omega))) (k := x) (by rw [HO5.out.1]; exact hx5)
      rw [HO5.out.1] at he
      injection he with he1 he2 he3
      injection he1 with he1
      injection he1 with he1 he4
      subst he1 he3 he4
      clear he2
      obtain ⟨z, hz⟩ : ∃ z, z = O.getD x 0 := ⟨_, rfl⟩
      rw [← hz] at gx
      have a3 := (j2.cell (p := ⟨G, 0, none⟩) (by have := HSB.out; have := HBS.out; simp; omega)).trans k3b
      have a4 := (j2.cell (p := ⟨B, 0, none⟩) (by have := HSB.out; have := HBS.out; simp; omega)).trans k4b
      have a5 := (j2.frozen (p := ⟨B, 0, none⟩) (by have := HSB.out; have := HBS.out; simp; omega)).trans f4b
      have a6 := (j2.cell (p := ⟨B6, 0, none⟩) (by have := HSB.out; simp; omega)).trans hc6
      have FM := Lib.hid (hmkb.below j2 hmkb.lt)
      have FS := Lib.hid j2.size
      have FB := Lib.hid (HB4.out.trans (hWB.mono (by have := HG3.out; omega)))
      have J1 := Lib.hid j1
      have J2 := Lib.hid j2
      have i2 : (x : Int) < 5 := by omega
      clear hWB
      by_cases hz0 : z = 0
      · have HX := Lib.hid (J1.out.snoc ⟨x, hx⟩ (fun hn => absurd (hz.symm.trans hz0) hn))
        subst hz0
        clear j1 j2 hz
        gi_wp2_with fail
        exact ⟨KeepsOthers.refl W, Below.refl B W, HX.out, J2.out⟩
      · have t1 : ((z : Int) != 0) = true := by simp; omega
        by_cases hkx' : k = x
        · have HX := Lib.hid (J1.out.snoc ⟨x, hx⟩ (fun _ => hkx'))
          have t2 : ((k : Int) != (x : Int)) = false := by simp; omega
          have HKX := Lib.hid hkx'
          clear j1 j2 hz hkx'
          gi_wp2_with fail
          exact ⟨KeepsOthers.refl W, Below.refl B W, by first | exact HX.out | exact HKX.out ▸ HX.out, J2.out⟩
        · have HX := Lib.hid (show dang O = true from (dang_iff O).2 ⟨k, x, hk5, hx5, hkx, by rw [← hz]; exact hz0, hkx'⟩)
          have t2 : ((k : Int) != (x : Int)) = true := by simp; omega
          have HFIN := Lib.hid (show KeepsOthers W (W.setCell ⟨B, 0, none⟩ (.bool true)) ∧ (W.setCell ⟨B, 0, none⟩ (.bool true)).cell? ⟨B, 0, none⟩ = some (.bool true) ∧ (MarksOk B rs (W.setCell ⟨B, 0, none⟩ (.bool true)) ∧ wb.heap.size ≤ (W.setCell ⟨B, 0, none⟩ (.bool true)).heap.size) ∧ Below B w (W.setCell ⟨B, 0, none⟩ (.bool true)) from
            ⟨KeepsOthers.setCell _ _ _, World.cell?_setCell_same _ _ _ a4, ⟨FM.out.others (KeepsOthers.setCell _ _ _), by have := FS.out; simpa using this⟩, FB.out.setCell (p := ⟨B, 0, none⟩) (Nat.le_refl _) _⟩)
          clear j1 j2 hz
          gi_wp2_with fail
          exact ⟨HFIN.out.1, ⟨rfl, HX.out⟩, HFIN.out.2⟩
    case done =>
      rintro D xs W hD hxs ⟨j1, j2⟩ hK
      have hDn : D ∉ rs := fun h => by have := hmkb.lt D h; omega
      have HM := Lib.hid (show MarksOk B (D :: rs) W from (hmkb.below j2 hmkb.lt).cons hK (by have := HSB.out; have := HBS.out; omega) hDn)
      have hmarks : marks (D :: rs) = { target := .collected D, args := #[] } :: marks rs := rfl
      rw [← hmarks]
      have HALL := Lib.hid (show ∀ i, i < k + 1 → ∀ j, j < 5 → Odr.rel O i j = true → O.getD j 0 ≠ 0 → i = j from fun i hi j hj h1 h2 => by
        by_cases e : i < k
        · exact hall.out i e j hj h1 h2
        · obtain rfl : i = k := by omega
          refine j1 j ?_ h2
          rw [hxs, mem_bitsOf (by omega), HS.out]
          exact h1)
      have HWB := Lib.hid (HHB.out.trans (j2.mono (by have := HHB.out.size; omega)))
      clear j1 j2 hK hmarks hDn hxs
      gi_wp2_with fail
      refine ⟨⟨k + 1, D :: rs, _, _, _, _, _, _, _, _, _, by go_num, by omega, HM.out, HALL, HWB.out⟩, ?_⟩
      simp [intOf]; omega
    case stop =>
      rintro D d pre W hD _ ⟨⟨rfl, hdg⟩, j1, ⟨j2, j3⟩, j4⟩ hK
      have hDn : D ∉ rs := fun h => by have := hmkb.lt D h; omega
      have HM := Lib.hid (show MarksOk B (D :: rs) W from j2.cons hK (by have := HSB.out; have := HBS.out; omega) hDn)
      have hmarks : marks (D :: rs) = { target := .collected D, args := #[] } :: marks rs := rfl
      rw [← hmarks]
      have HX := Lib.hid hdg
      have HC := Lib.hid j1
      have HBB := Lib.hid j4
      clear j1 j2 j4 hK hmarks hdg
      gi_wp2_with fail
      refine leaves_marks _ _ HM.out fun w' hsh => ?_
      have hc := hsh.cellV HC.out
      refine ⟨.bool true, by simp [results, Tryd.results27, go_sem, hc], by rw [HX.out], ?_⟩
      rw [← HBw.out]
      exact Shut.below HBB.out hsh
  · obtain rfl : k = 5 := by omega
    have hf : dang O = false := by
      cases hh : dang O
      · rfl
      · exfalso
        obtain ⟨i, j, hi, hj, h1, h2, h3⟩ := (dang_iff O).1 hh
        exact h3 (hall.out i hi j hj h1 h2)
    have HF := Lib.hid hf
    have HM := Lib.hid (hmk.others (KeepsOthers.setCell W ⟨B, 0, none⟩ (.bool false)))
    have HX := Lib.hid (World.cell?_setCell_same W ⟨B, 0, none⟩ (.bool false) k4')
    have HBB := Lib.hid (((HB4.out.trans (hb.mono (by have := HG3.out; omega))).setCell (p := ⟨B, 0, none⟩) (Nat.le_refl _) (.bool false)))
    clear hmk hall hb hf k3' hbs
    gi_wp2_with fail
    refine leaves_marks _ _ HM.out fun w' hsh => ?_
    have hc := hsh.cellV HX.out
    refine ⟨.bool false, by simp [results, Tryd.results27, go_sem, hc], by rw [HF.out], ?_⟩
    rw [← HBw.out]
    exact Shut.below HBB.out hsh
end Go.Proofs.YtkindaadadggoaaDoor
