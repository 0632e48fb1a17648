/- Contracts of package fold: Check. Conditions: each contract's own premises. -/
import Derived.Test.YtoedgncbgkdmoaaDoorFoldL
import Derived.Test.YtoedgncbgkdmoaaDoorOrder
import Derived.Test.YtoedgncbgkdmoaaDoorMarks
import Derived.Test.YtoedgncbgkdmoaaDoorRound
namespace Go.Proofs.YtoedgncbgkdmoaaDoor
open Go.RowKit Go.Shelf
attribute [local go_sem] Oper.semAt_some

def Fld.goodB (m : List Nat) : Bool := (List.range m.length).all fun i => !Odr.rel m i i && (List.range m.length).all fun j => !Odr.rel m i j || Odr.rel m j i
theorem Fld.goodB_iff {m : List Nat} (hl : m.length ≤ 6) (hf : Odr.Fits m) : Fld.goodB m = true ↔ Fld.Good m := by
  unfold Fld.goodB
  rw [List.all_eq_true]
  constructor
  · intro h
    refine ⟨hl, hf, fun i => ?_, fun i j hij => ?_⟩
    · by_cases hi : i < m.length
      · have := h i (List.mem_range.2 hi)
        simp only [Bool.and_eq_true] at this
        simpa using this.1
      · exact Fld.rel_out (by omega)
    · have hi := Odr.rel_lt_left hij
      have hj := Odr.rel_lt_right hf hij
      have := h i (List.mem_range.2 hi)
      simp only [Bool.and_eq_true, List.all_eq_true] at this
      have := this.2 j (List.mem_range.2 hj)
      rw [hij] at this
      simpa using this
  · rintro ⟨_, _, h1, h2⟩ i _
    rw [h1]
    simp only [Bool.not_false, Bool.true_and, List.all_eq_true]
    intro j _
    cases hij : Odr.rel m i j
    · rfl
    · rw [h2 _ _ hij]; rfl
/-- what is wrong with which letters may change places -/
def freeCode (l : List Int) : Nat := if 6 < l.length then 4 else if masksOk l then (if Fld.goodB (l.map Int.toNat) = true then 0 else 6) else 1
theorem freeCode_zero {l : List Int} (h : freeCode l = 0) : ∃ m, l = zs m ∧ Fld.Good m := by
  unfold freeCode at h
  by_cases h1 : 6 < l.length
  · rw [if_pos h1] at h; cases h
  · rw [if_neg h1] at h
    by_cases h2 : masksOk l
    · rw [if_pos h2] at h
      by_cases h3 : Fld.goodB (l.map Int.toNat) = true
      · exact ⟨_, (masks_nat h2).1, (Fld.goodB_iff (by simpa using h1) (masks_nat h2).2).1 h3⟩
      · rw [if_neg h3] at h; cases h
    · rw [if_neg h2] at h; cases h
theorem freeCode_good {m : List Nat} (h : Fld.Good m) : freeCode (zs m) = 0 := by
  unfold freeCode
  rw [if_neg (by rw [length_zs]; have := h.1; omega), if_pos (masksOk_zs h.2.1), zs_toNat, if_pos ((Fld.goodB_iff h.1 h.2.1).2 h)]

/-- a variable that is laid down in a block of its own -/
theorem boxed (w : World) (v : Value) (e : TypeId) : ∃ w1, w.alloc (.cells #[v] e) = w1 ∧ w1.heap.size = w.heap.size + 1 ∧ Below w.heap.size w w1 ∧ w1.cell? ⟨w.heap.size, 0, none⟩ = some v ∧ w1.frozen? ⟨w.heap.size, 0, none⟩ = false :=
  ⟨_, rfl, by simp, (Below.refl _ _).alloc (Nat.le_refl _) _, by simp, by simp⟩
theorem Shut.cell {B : Nat} {w w' : World} (g : Shut B w w') {p : Addr} {v : Value} (h : w.cell? p = some v) : w'.cell? p = some v := by
  obtain ⟨o, ho, hc⟩ := cells_of_cell h
  exact (World.cell?_of_block ((g.cells _ _ ho hc).trans ho.symm)).trans h

theorem fcheck_full (l : List Int) (v : Value) (w : World) (hr : Ints w w.heap.size v l) (hlen : 6 < l.length) :
    Calls Tryd.prog 17 #[v] w fun e w' => e = .returned (.iface 43 (.int .i64 4)) ∧ Below w.heap.size w w' := by
  obtain ⟨A, cap, rfl⟩ := Rd.val hr
  refine (callsIn_wide (n := 9)).1 ?_
  refine callsIn_of_wp_marks Tryd.func17 rfl trivial ?_ rfl
  simp only [Tryd.ntmps17, List.size_toArray, List.length_cons, List.length_nil, Nat.reduceAdd, Nat.reduceSub, Array.replicate_succ, Array.replicate_zero, List.push_toArray, List.append_toArray, List.nil_append, List.cons_append]
  gi_wp2_with fail
  exact ⟨_, by simp [results, Tryd.results17, go_sem], rfl, ((Below.refl _ w).alloc (Nat.le_refl _) _).alloc (by simp) _⟩

set_option maxRecDepth 20000 in
set_option maxHeartbeats 400000 in
theorem fcheck_mask (l : List Int) (v : Value) (w : World) (hr : Ints w w.heap.size v l) (hlen : l.length ≤ 6) (hbad : ¬ masksOk l) :
    Calls Tryd.prog 17 #[v] w fun e w' => e = .returned (.iface 43 (.int .i64 1)) ∧ Below w.heap.size w w' := by
  obtain ⟨A, cap, rfl⟩ := Rd.val hr
  have HB := Lib.hid hbad
  clear hbad
  refine (callsIn_wide (n := 9)).1 ?_
  refine callsIn_of_wp_marks Tryd.func17 rfl trivial ?_ rfl
  simp only [Tryd.ntmps17, List.size_toArray, List.length_cons, List.length_nil, Nat.reduceAdd, Nat.reduceSub, Array.replicate_succ, Array.replicate_zero, List.push_toArray, List.append_toArray, List.nil_append, List.cons_append]
  gi_wp2_with fail
  obtain ⟨w1, hw1, s1, b1, k1, -⟩ := boxed w (.slice A l.length cap) 22
  obtain ⟨w2, hw2, s2, b2, k2, f2⟩ := boxed w1 .nilIface 25
  rw [hw1, hw2]
  have hb2 : Below w.heap.size w w2 := b1.trans (b2.mono (by omega))
  have hc1 : w2.cell? ⟨w.heap.size, 0, none⟩ = some (.slice A l.length cap) := (b2.cell (p := ⟨w.heap.size, 0, none⟩) (by simp; omega)).trans k1
  have hr2 := Rd.below hr hb2
  rw [s1] at k2 f2
  have S2 := Lib.hid s2
  clear hw1 hw2 s1 s2 b1 b2 k1 hr
  gi_loop [14] (fun i => ∃ k : Nat, k ≤ l.length ∧ i = nv k ∧ Hid (∀ j (hj : j < l.length), j < k → 0 ≤ l[j] ∧ l[j] < 2 ^ l.length)) (fun i => l.length - (intOf i).toNat)
  case atStart => exact ⟨0, Nat.zero_le _, rfl, Lib.hid (fun j _ hj => absurd hj (by omega))⟩
  case round =>
    obtain ⟨k, hk, rfl, hall⟩ := hrel
    by_cases hkl : k < l.length
    · obtain ⟨b0, off, cap', he, _, hc⟩ := Ints.at_ hr2 hkl
      cases he
      obtain ⟨x, hx0⟩ : ∃ x, x = l[k] := ⟨_, rfl⟩
      rw [← hx0] at hc
      have HX0 := Lib.hid hx0
      clear hx0
      by_cases hx : 0 ≤ x ∧ x < 2 ^ l.length
      · have HX := Lib.hid hx
        have hm := Lib.hid (fun w => mask_calls x l.length w (by omega))
        rw [show decide (0 ≤ x ∧ x < 2 ^ l.length) = true from by simp [hx]] at hm
        clear hx
        gi_wp2_with fail
        refine ⟨trivial, ?_⟩
        refine (callsIn_wide.2 (hm.out _)).mono ?_
        rintro e w' ⟨rfl, rfl⟩
        gi_wp2_with fail
        go_round
        case rel => exact ⟨k + 1, by omega, by go_num, Lib.hid (fun j hj h => by
          by_cases hjk : j < k
          · exact hall.out j hj hjk
          · obtain rfl : j = k := by omega
            rw [← HX0.out]; exact HX.out)⟩
        case measure => simp [intOf]; omega
      · have hm := Lib.hid (fun w => mask_calls x l.length w (by omega))
        rw [show decide (0 ≤ x ∧ x < 2 ^ l.length) = false from by simpa using hx] at hm
        clear hx hall
        gi_wp2_with fail
        refine ⟨trivial, ?_⟩
        refine (callsIn_wide.2 (hm.out _)).mono ?_
        rintro e w' ⟨rfl, rfl⟩
        gi_wp2_with fail
        exact ⟨_, by simp [results, Tryd.results17, go_sem, World.cell?_setCell_same _ _ _ k2], rfl, hb2.setCell (by simp) _⟩
    · exact absurd (fun x hx => by
        obtain ⟨j, hj, rfl⟩ := List.mem_iff_getElem.1 hx
        exact hall.out j hj (by omega)) HB.out

set_option maxRecDepth 20000 in
set_option maxHeartbeats 2000000 in
theorem fcheck_fits (m : List Nat) (v : Value) (w : World) (hr : Ints w w.heap.size v (zs m)) (hlen : m.length ≤ 6) (hf : Odr.Fits m) (hT : Tab w) :
    Calls Tryd.prog 17 #[v] w fun e w' => (Fld.goodB m = true → e = .returned .nilIface) ∧ (Fld.goodB m = false → e = .returned (.iface 43 (.int .i64 6))) ∧ Below w.heap.size w w' := by
  have hmk := Lib.hid (masksOk_zs hf)
  have HF := Lib.hid hf
  obtain ⟨A, cap, rfl⟩ := Rd.val hr
  have hlz : (zs m).length = m.length := by simp
  rw [hlz] at hr ⊢
  clear hf
  refine (callsIn_wide (n := 9)).1 ?_
  refine callsIn_of_wp_marks Tryd.func17 rfl trivial ?_ rfl
  simp only [Tryd.ntmps17, List.size_toArray, List.length_cons, List.length_nil, Nat.reduceAdd, Nat.reduceSub, Array.replicate_succ, Array.replicate_zero, List.push_toArray, List.append_toArray, List.nil_append, List.cons_append]
  gi_wp2_with fail
  obtain ⟨w1, hw1, s1, b1, k1, -⟩ := boxed w (.slice A m.length cap) 22
  obtain ⟨w2, hw2, s2, b2, k2, f2⟩ := boxed w1 .nilIface 25
  rw [hw1, hw2]
  have hb2 : Below w.heap.size w w2 := b1.trans (b2.mono (by omega))
  have hc1 : w2.cell? ⟨w.heap.size, 0, none⟩ = some (.slice A m.length cap) := (b2.cell (p := ⟨w.heap.size, 0, none⟩) (by simp; omega)).trans k1
  have hr2 := Rd.below hr hb2
  have hT2 := hT.below hb2
  have hg0 := hT.lt
  rw [s1] at k2 f2
  obtain ⟨B, hB⟩ : ∃ B, B = w.heap.size := ⟨_, rfl⟩
  rw [← hB] at k2 f2 hc1 hr2 ⊢
  have S2 := Lib.hid (show w2.heap.size = B + 1 + 1 by omega)
  have HBw := Lib.hid hB
  clear hw1 hw2 s1 s2 b1 b2 k1 hr hT hB
  gi_loop [14] (fun i => ∃ k : Nat, k ≤ m.length ∧ i = nv k) (fun i => m.length - (intOf i).toNat)
  case atStart => exact ⟨0, Nat.zero_le _, rfl⟩
  case round =>
    obtain ⟨k, hk, rfl⟩ := hrel
    by_cases hkl : k < m.length
    · obtain ⟨b0, off, cap', he, _, hc⟩ := Ints.at_ hr2 (k := k) (by simpa using hkl)
      rw [length_zs] at he
      cases he
      have hxm := List.getElem_mem (l := zs m) (n := k) (by simpa using hkl)
      generalize (zs m)[k]'(by simpa using hkl) = x at *
      have hx := hmk.out x hxm
      rw [length_zs] at hx
      clear hxm
      have hm := Lib.hid (fun w => mask_calls x m.length w (by omega))
      rw [show decide (0 ≤ x ∧ x < 2 ^ m.length) = true from by simp [hx]] at hm
      clear hx
      gi_wp2_with fail
      refine ⟨trivial, ?_⟩
      refine (callsIn_wide.2 (hm.out _)).mono ?_
      rintro e w' ⟨rfl, rfl⟩
      gi_wp2_with fail
      go_round
      case rel => exact ⟨k + 1, by omega, by go_num⟩
      case measure => simp [intOf]; omega
    · obtain rfl : k = m.length := by omega
      clear hkl hmk
      have hgd := Lib.hid (show Fld.goodB m = true ↔ ∀ i, i < m.length → Odr.rel m i i = false ∧ ∀ j, Odr.rel m i j = true → Odr.rel m j i = true by
        rw [Fld.goodB_iff hlen HF.out]
        constructor
        · exact fun h i _ => ⟨h.2.2.1 i, fun j hj => h.2.2.2 i j hj⟩
        · exact fun h => ⟨hlen, HF.out, fun i => by
            by_cases hi : i < m.length
            · exact (h i hi).1
            · exact Fld.rel_out (by omega), fun i j hij => (h i (Odr.rel_lt_left hij)).2 j hij⟩)
      have hdec : decide ((6 : Int) < (m.length : Int)) = false := by simp; omega
      gi_wp2_with fail
      refine wpIn_loop (fun a wr => ∃ (k : Nat) (rs : List Nat) (y5 y6 y28 y29 y30 y31 y32 y33 y48 : Value), a = { tmps := #[.slice A m.length cap, .pointer (some ⟨B, 0, none⟩), .pointer (some ⟨B + 1, 0, none⟩), undef, u4, y5, y6, undef, .slice A m.length cap, nv m.length, .bool false, undef, .slice A m.length cap, nv m.length, nv m.length, .bool false, u16, u17, u18, u19, u20, u21, u22, u23, u24, .slice A m.length cap, nv m.length, nv k, y28, y29, y30, y31, y32, y33, undef, undef, undef, undef, undef, undef, undef, undef, undef, undef, undef, undef, undef, undef, y48], defers := marks rs } ∧ k ≤ m.length ∧ MarksOk w2.heap.size rs wr ∧
        Hid (∀ i, i < k → Odr.rel m i i = false ∧ ∀ j, Odr.rel m i j = true → Odr.rel m j i = true) ∧ Below w2.heap.size w2 wr) (fun a _ => m.length - (intOf (a.tmps.getD 27 undef)).toNat) ⟨0, [], _, _, _, _, _, _, _, _, _, by first | rfl | (rw [hdec]; rfl), Nat.zero_le _, MarksOk.nil _ _, Lib.hid (fun i hi => absurd hi (by omega)), Below.refl _ _⟩ ?_
      rintro a wr ⟨k, rs, y5, y6, y28, y29, y30, y31, y32, y33, y48, rfl, hk, hmk, hall, hb⟩
      have hbs := hb.size
      have hc1' := (hb.cell (p := ⟨B, 0, none⟩) (by have := S2.out; simp; omega)).trans hc1
      have k2' := (hb.cell (p := ⟨B + 1, 0, none⟩) (by have := S2.out; simp; omega)).trans k2
      have f2' := (hb.frozen (p := ⟨B + 1, 0, none⟩) (by have := S2.out; simp; omega)).trans f2
      by_cases hkm : k < m.length
      · obtain ⟨b0, off, cap', he, gb, gk⟩ := Ints.atN (Rd.below hr2 (hb.mono (by have := S2.out; have := HBw.out; omega))) hkm
        cases he
        have hrow : m.getD k 0 < 4096 := fits12 (l := m) (by omega) (HF.out.getD k)
        obtain ⟨s, hs⟩ : ∃ s, s = m.getD k 0 := ⟨_, rfl⟩
        rw [← hs] at gk hrow
        have HS := Lib.hid hs
        clear hs
        gi_wp2_with fail
        refine ⟨trivial, ?_⟩
        refine (callsIn_wide.2 (bits_make s _)).mono ?_
        rintro e wb ⟨rfl, hwb⟩
        obtain ⟨B6, hB6⟩ : ∃ B6, B6 = wr.heap.size := ⟨_, rfl⟩
        have hsb : wb.heap.size = B6 + 1 + 1 := by rw [← hwb, hB6]; simp
        have hbb : Below wr.heap.size wr wb := by rw [← hwb]; exact ((Below.refl _ wr).alloc (Nat.le_refl _) _).alloc (by simp) _
        have hc6 : wb.cell? ⟨B6, 0, none⟩ = some (nv k) := by rw [← hwb, hB6]; simp
        have hcb : wb.cell? ⟨B6 + 1, 0, none⟩ = some (nv s) := by rw [← hwb, hB6]; simp
        have hsz6 : (wr.alloc (Obj.cells #[Value.int IntKind.i64 ↑k] 3)).heap.size = B6 + 1 := by rw [hB6]; simp
        rw [hsz6, ← hB6]
        have hmkb := hmk.calls hbb
        have hBb : Below w2.heap.size w2 wb := hb.trans (hbb.mono hb.size)
        have htabb := hT2.below hBb
        have hc1b := (hbb.cell (p := ⟨B, 0, none⟩) (by have := S2.out; simp; omega)).trans hc1'
        have k2b := (hbb.cell (p := ⟨B + 1, 0, none⟩) (by have := S2.out; simp; omega)).trans k2'
        have f2b := (hbb.frozen (p := ⟨B + 1, 0, none⟩) (by have := S2.out; simp; omega)).trans f2'
        have HSB := Lib.hid hsb
        have HBS := Lib.hid (show w2.heap.size ≤ B6 by rw [hB6]; exact hbs)
        have hb0w : b0 < wb.heap.size := by have := S2.out; have := HBS.out; omega
        clear hwb hsz6 hmk hb hsb hc1' k2' f2' hbs hB6 hbb
        gi_wp2_with fail
        refine wpIn_rangeFunc_ownF rfl (by omega) (gf := 47) (lb := #[.pointer (some ⟨B6 + 1, 0, none⟩)]) rfl trivial (enters_of Tryd.func47 (by kernel_rfl) rfl)
          (bits_stops 8 (by omega) (B6 + 1) w.heap.size s hrow wb htabb hg0 hcb) belowK_t (belowK_b (by have := HSB.out; have := HBS.out; have := S2.out; have := HBw.out; omega)) (Below.refl _ _) (fun _ => rfl)
          (fun pre W => (∀ x ∈ pre.map (·.1), x ≠ k ∧ Odr.rel m x k = true) ∧ Below wb.heap.size wb W)
          (fun d pre W => (d = .ret ∧ ∃ x, Odr.rel m k x = true ∧ (x = k ∨ Odr.rel m x k = false)) ∧ W.cell? ⟨B + 1, 0, none⟩ = some (.iface 43 (.int .i64 6)) ∧ (MarksOk w2.heap.size rs W ∧ wb.heap.size ≤ W.heap.size) ∧ Below w.heap.size w W)
          (OwnFrom.and (ownFrom_pure _) (ownFrom_below (Nat.le_refl _) (Nat.le_refl _)))
          (fun _ => OwnFrom.and (ownFrom_pure _) (OwnFrom.and (ownFrom_cell1 _ _) (OwnFrom.and (ownFrom_marks hmkb.lt) (ownFrom_below (Nat.le_refl _) (by have := HSB.out; have := HBS.out; have := S2.out; have := HBw.out; omega))))) ⟨by simp, Below.refl _ _⟩
          (fun x => { tmps := #[.slice (some ⟨b0, off, none⟩) m.length cap, .pointer (some ⟨B, 0, none⟩), .pointer (some ⟨B + 1, 0, none⟩), undef, u4, .pointer (some ⟨B6, 0, none⟩), nv s, nv x.1, .slice (some ⟨b0, off, none⟩) m.length cap, nv m.length, .bool false, undef, .slice (some ⟨b0, off, none⟩) m.length cap, nv m.length, nv m.length, .bool false, u16, u17, u18, u19, u20, u21, u22, u23, u24, .slice (some ⟨b0, off, none⟩) m.length cap, nv m.length, nv k, .bool true, nv k, .pointer (some ⟨b0, off + k, none⟩), nv s, nv s, .func (.func 47) #[] #[.pointer (some ⟨B6 + 1, 0, none⟩)], nv x.1, undef, undef, undef, undef, undef, undef, undef, undef, undef, undef, undef, undef, undef, y48], defers := [] }) ?assign ?body ?done ?stop
        case assign =>
          intro l x W K hK
          gi_wp2
          exact hK
        case body =>
          rintro l pre ⟨x, hx⟩ W ⟨i1, i2⟩ _
          have hkx : Odr.rel m k x = true := by unfold Odr.rel; rw [← HS.out]; exact hx
          have hxm : x < m.length := Odr.rel_lt_right HF.out hkx
          obtain ⟨g, o, c2, he, gl, gx⟩ := Ints.atN (Rd.below hr2 ((hBb.trans (i2.mono (by have := HSB.out; have := HBS.out; omega))).mono (by have := S2.out; have := HBw.out; omega))) hxm
          injection he with he1 he2 he3
          injection he1 with he1
          injection he1 with he1 he4
          subst he1 he3 he4
          clear he2
          have hz2 : m.getD x 0 < 4096 := fits12 (l := m) (by omega) (HF.out.getD x)
          have hrxk : Odr.rel m x k = (m.getD x 0).testBit k := rfl
          obtain ⟨z, hz⟩ : ∃ z, z = m.getD x 0 := ⟨_, rfl⟩
          rw [← hz] at gx hz2 hrxk
          have hc1W := (i2.cell (p := ⟨B, 0, none⟩) (by have := HSB.out; have := HBS.out; have := S2.out; simp; omega)).trans hc1b
          have k2W := (i2.cell (p := ⟨B + 1, 0, none⟩) (by have := HSB.out; have := HBS.out; have := S2.out; simp; omega)).trans k2b
          have f2W := (i2.frozen (p := ⟨B + 1, 0, none⟩) (by have := HSB.out; have := HBS.out; have := S2.out; simp; omega)).trans f2b
          have hc6W := (i2.cell (p := ⟨B6, 0, none⟩) (by have := HSB.out; simp; omega)).trans hc6
          have f1 : KeepsOthers W W.drew := KeepsOthers.drew W
          have f2 : Below w.heap.size W W.drew := (Below.refl w.heap.size W).drew
          have f3 : Below wb.heap.size wb W.drew := i2.drew
          have FB := Lib.hid ((hb2.trans ((hBb.trans (i2.mono (by have := HSB.out; have := HBS.out; omega))).mono hb2.size)))
          have FM := Lib.hid (hmkb.below i2 hmkb.lt)
          have FS := Lib.hid i2.size
          by_cases hbad : x = k ∨ Odr.rel m x k = false
          · have FX := Lib.hid (⟨x, hkx, hbad⟩ : ∃ x, Odr.rel m k x = true ∧ (x = k ∨ Odr.rel m x k = false))
            have FIN := Lib.hid (show KeepsOthers W (W.setCell ⟨B + 1, 0, none⟩ (.iface 43 (.int .i64 6))).drew ∧ (W.setCell ⟨B + 1, 0, none⟩ (.iface 43 (.int .i64 6))).drew.cell? ⟨B + 1, 0, none⟩ = some (.iface 43 (.int .i64 6)) ∧
                (MarksOk w2.heap.size rs (W.setCell ⟨B + 1, 0, none⟩ (.iface 43 (.int .i64 6))).drew ∧ wb.heap.size ≤ (W.setCell ⟨B + 1, 0, none⟩ (.iface 43 (.int .i64 6))).drew.heap.size) ∧ Below w.heap.size w (W.setCell ⟨B + 1, 0, none⟩ (.iface 43 (.int .i64 6))).drew from
              ⟨(KeepsOthers.setCell _ _ _).trans (KeepsOthers.drew _), World.cell?_setCell_same _ _ _ k2W, ⟨FM.out.others ((KeepsOthers.setCell _ _ _).trans (KeepsOthers.drew _)), by have := FS.out; simpa using this⟩, (FB.out.setCell (p := ⟨B + 1, 0, none⟩) (by have := HBw.out; simp; omega) _).drew⟩)
            by_cases hxk : x = k
            · have hke : ((k : Int) == (x : Int)) = true := by simp; omega
              clear i1 i2 f1 f2 f3 hz hxk hbad hrxk
              gi_wp2_with fail
              refine region_tail_round (k := 11) (by kernel_rfl) (by kernel_rfl) (by kernel_rfl) ?_
              simp only [List.take_succ_cons, List.take_zero, List.drop_succ_cons, List.drop_zero]
              repeat (first | still_step)
              refine wpStill_nil ?_
              go_wp2
              dsimp only [NormalOnly]
              gi_wp2_with fail
              exact ⟨FIN.out.1, ⟨rfl, FX.out⟩, FIN.out.2⟩
            · have hzb : z.testBit k = false := by
                rcases hbad with h | h
                · exact absurd h hxk
                · rw [← hrxk]; exact h
              have hke : ((k : Int) == (x : Int)) = false := by simp; omega
              have hP := Lib.hid fun w5 => (has12 z k w5 hz2 (by omega)).mono (R' := fun e w' => e = .returned (.bool false) ∧ w' = w5) fun _ _ ⟨a, b⟩ => ⟨by rw [a, hzb], b.symm⟩
              clear i1 i2 f1 f2 f3 hz hxk hbad hrxk hzb
              gi_wp2_with fail
              refine region_tail_round (k := 11) (by kernel_rfl) (by kernel_rfl) (by kernel_rfl) ?_
              simp only [List.take_succ_cons, List.take_zero, List.drop_succ_cons, List.drop_zero]
              repeat (first | still_step | still_call (hP.out _))
              refine wpStill_nil ?_
              go_wp2
              dsimp only [NormalOnly]
              gi_wp2_with fail
              exact ⟨FIN.out.1, ⟨rfl, FX.out⟩, FIN.out.2⟩
          · have hxk : x ≠ k := fun h => hbad (.inl h)
            have hzb : z.testBit k = true := by
              cases h : z.testBit k
              · exact absurd (.inr (by rw [hrxk]; exact h)) hbad
              · rfl
            have hke : ((k : Int) == (x : Int)) = false := by simp; omega
            have hP := Lib.hid fun w5 => (has12 z k w5 hz2 (by omega)).mono (R' := fun e w' => e = .returned (.bool true) ∧ w' = w5) fun _ _ ⟨a, b⟩ => ⟨by rw [a, hzb], b.symm⟩
            have F := Lib.hid (And.intro f1 (And.intro f2 (And.intro (show ∀ y ∈ (pre ++ [(⟨x, hx⟩ : El s)]).map (·.1), y ≠ k ∧ Odr.rel m y k = true by
              intro y hy
              rw [List.map_append, List.mem_append] at hy
              rcases hy with h | h
              · exact i1 y h
              · simp only [List.map_cons, List.map_nil, List.mem_singleton] at h
                subst h
                exact ⟨hxk, by rw [hrxk]; exact hzb⟩) f3)))
            clear i1 i2 f1 f2 f3 hz hxk hbad hrxk hzb
            gi_wp2_with fail
            refine region_tail_round (k := 11) (by kernel_rfl) (by kernel_rfl) (by kernel_rfl) ?_
            simp only [List.take_succ_cons, List.take_zero, List.drop_succ_cons, List.drop_zero]
            repeat (first | still_step | still_call (hP.out _))
            refine wpStill_nil ?_
            go_wp2
            dsimp only [NormalOnly]
            gi_wp2_with fail
            exact F.out
        case done =>
          rintro D xs W hD hxs ⟨i1, i2⟩ hK
          rw [hxs] at i1
          have hDn : D ∉ rs := fun h => by have := hmkb.lt D h; omega
          have i6' : MarksOk w2.heap.size (D :: rs) W := (hmkb.below i2 hmkb.lt).cons hK (by have := HSB.out; have := HBS.out; omega) hDn
          have hmarks : marks (D :: rs) = { target := .collected D, args := #[] } :: marks rs := rfl
          rw [← hmarks]
          have HM := Lib.hid i6'
          have II := Lib.hid (hBb.trans (i2.mono hBb.size))
          have HA := Lib.hid (show ∀ i, i < k + 1 → Odr.rel m i i = false ∧ ∀ j, Odr.rel m i j = true → Odr.rel m j i = true by
            intro i hi
            by_cases hik : i < k
            · exact hall.out i hik
            · obtain rfl : i = k := by omega
              have hmem : ∀ j, Odr.rel m i j = true → j ∈ bitsOf s := fun j hj => (mem_bitsOf hrow).2 (by unfold Odr.rel at hj; rw [← HS.out] at hj; exact hj)
              refine ⟨?_, fun j hj => (i1 j (hmem j hj)).2⟩
              cases h : Odr.rel m i i
              · rfl
              · exact absurd rfl (i1 i (hmem i h)).1)
          clear i1 i2 i6' hK hmarks hDn hxs
          gi_wp2_with fail
          refine ⟨⟨k + 1, D :: rs, _, _, _, _, _, _, _, _, _, by go_num, by omega, HM.out, HA, II.out⟩, ?_⟩
          simp [intOf]; omega
        case stop =>
          rintro D d pre W hD _ ⟨⟨rfl, x, hx1, hx2⟩, i3, ⟨i4, i5⟩, i2⟩ hK
          have hDn : D ∉ rs := fun h => by have := hmkb.lt D h; omega
          have i6' : MarksOk w.heap.size (D :: rs) W := by
            have h := i4.cons hK (by have := HSB.out; have := HBS.out; omega) hDn
            exact ⟨h.1, fun r hr' => ⟨Nat.le_trans hb2.size (h.2 r hr').1, (h.2 r hr').2⟩⟩
          have hmarks : marks (D :: rs) = { target := .collected D, args := #[] } :: marks rs := rfl
          rw [← hmarks]
          have HM := Lib.hid i6'
          have I5 := Lib.hid i2
          have HR := Lib.hid (show Fld.goodB m = false from by
            cases h : Fld.goodB m with
            | false => rfl
            | true =>
              obtain ⟨g1, g2⟩ := hgd.out.1 h k hkm
              rcases hx2 with rfl | hx2
              · rw [g1] at hx1; cases hx1
              · rw [g2 x hx1] at hx2; cases hx2)
          clear i6' i2 hK hx1 hx2 i4 hmarks hDn
          gi_wp2_with fail
          refine leaves_marks _ _ HM.out fun w' hs => ?_
          have hcw := hs.cell i3
          refine ⟨.iface 43 (.int .i64 6), by simp [results, Tryd.results17, go_sem, hcw], fun h => ?_, fun _ => rfl, hs.below I5.out⟩
          rw [HR.out] at h; cases h
      · obtain rfl : k = m.length := by omega
        clear hkm
        have HR := Lib.hid (hgd.out.2 hall.out)
        have hmk' : MarksOk w.heap.size rs (wr.setCell ⟨B + 1, 0, none⟩ .nilIface) := by
          have h := hmk.others (KeepsOthers.setCell wr ⟨B + 1, 0, none⟩ .nilIface)
          exact ⟨h.1, fun r hr' => ⟨Nat.le_trans hb2.size (h.2 r hr').1, (h.2 r hr').2⟩⟩
        have HM := Lib.hid hmk'
        have I6 := Lib.hid ((hb2.trans (hb.mono hb2.size)).setCell (p := ⟨B + 1, 0, none⟩) (by have := HBw.out; simp; omega) .nilIface)
        have hres := Lib.hid (World.cell?_setCell_same wr ⟨B + 1, 0, none⟩ .nilIface k2')
        clear hmk hmk' hb
        gi_wp2_with fail
        refine leaves_marks _ _ HM.out fun w' hs => ?_
        have hcw := hs.cell hres.out
        refine ⟨.nilIface, by simp [results, Tryd.results17, go_sem, hcw], fun _ => rfl, fun h => ?_, hs.below I6.out⟩
        rw [HR.out] at h; cases h

theorem fcheck_good (m : List Nat) (v : Value) (w : World) (hr : Ints w w.heap.size v (zs m)) (hv : Fld.Good m) (hT : Tab w) :
    Calls Tryd.prog 17 #[v] w fun e w' => e = .returned .nilIface ∧ Below w.heap.size w w' :=
  (fcheck_fits m v w hr hv.1 hv.2.1 hT).mono fun _ _ ⟨h1, _, h3⟩ => ⟨h1 ((Fld.goodB_iff hv.1 hv.2.1).2 hv), h3⟩
theorem fcheck_err (l : List Int) (v : Value) (w : World) (hr : Ints w w.heap.size v l) (hne : freeCode l ≠ 0) (hT : Tab w) :
    Calls Tryd.prog 17 #[v] w fun e w' => e = .returned (.iface 43 (nv (freeCode l))) ∧ Below w.heap.size w w' := by
  unfold freeCode at hne ⊢
  by_cases h1 : 6 < l.length
  · rw [if_pos h1]; exact fcheck_full l v w hr h1
  · rw [if_neg h1] at hne ⊢
    by_cases h2 : masksOk l
    · rw [if_pos h2] at hne ⊢
      obtain ⟨e, hf⟩ := masks_nat h2
      by_cases h3 : Fld.goodB (l.map Int.toNat) = true
      · rw [if_pos h3] at hne; exact absurd rfl hne
      · rw [if_neg h3]
        rw [e] at hr
        refine (fcheck_fits _ v w hr (by simpa using h1) hf hT).mono fun _ _ ⟨_, g, hb⟩ => ⟨?_, hb⟩
        exact g (by simpa using h3)
    · rw [if_neg h2]; exact fcheck_mask l v w hr (by omega) h2
end Go.Proofs.YtoedgncbgkdmoaaDoor
