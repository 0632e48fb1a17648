/- Contracts of package chain: side, Widest. Conditions: each contract's own premises. -/
import Derived.Test.YtpicjikjinkkpaaDoorMany
import Derived.Test.YtpicjikjinkkpaaDoorTurned
import Derived.Test.YtpicjikjinkkpaaDoorRound
namespace Go.Proofs.YtpicjikjinkkpaaDoor
open Go.RowKit Go.Shelf
attribute [local go_sem] Oper.semAt_some

/-- a variable that is laid down in a block of its own -/
theorem boxed (w : World) (v : Value) (e : TypeId) : ∃ w1, w.alloc (.cells #[v] e) = w1 ∧ w1.heap.size = w.heap.size + 1 ∧ Below w.heap.size w w1 ∧ w1.cell? ⟨w.heap.size, 0, none⟩ = some v ∧ w1.frozen? ⟨w.heap.size, 0, none⟩ = false :=
  ⟨_, rfl, by simp, (Below.refl _ _).alloc (Nat.le_refl _) _, by simp, by simp⟩
theorem Shut.cell {B : Nat} {w w' : World} (g : Shut B w w') {p : Addr} {v : Value} (h : w.cell? p = some v) : w'.cell? p = some v := by
  obtain ⟨o, ho, hc⟩ := cells_of_cell h
  exact (World.cell?_of_block ((g.cells _ _ ho hc).trans ho.symm)).trans h
/-- all things of a set side by side -/
def Odr.sideB (c : List Nat) (s : Nat) : Bool := (bitsOf s).all fun x => decide (c.getD x 0 &&& s = 0)

set_option maxRecDepth 20000 in
set_option maxHeartbeats 2000000 in
theorem side_calls (c : List Nat) (v : Value) (s : Nat) (w : World) (hr : Ints w w.heap.size v (zs c)) (hc : c.length ≤ 12) (hf : Odr.Fits c) (hs : s < 2 ^ c.length) (hT : Tab w) :
    Calls Tryd.prog 67 #[v, nv s] w fun e w' => e = .returned (.bool (Odr.sideB c s)) ∧ Below w.heap.size w w' := by
  have hs12 : s < 4096 := Nat.lt_of_lt_of_le hs (show 2 ^ c.length ≤ 2 ^ 12 from Nat.pow_le_pow_right (by omega) hc)
  have hg0 := hT.lt
  have HS := Lib.hid hs
  obtain ⟨A, cap, rfl⟩ := Rd.val hr
  have hlz : (zs c).length = c.length := by simp
  rw [hlz] at hr ⊢
  clear hs
  refine (callsIn_wide (n := 9)).1 ?_
  refine callsIn_of_wp_marks Tryd.func67 rfl trivial ?_ rfl
  simp only [Tryd.ntmps67, List.size_toArray, List.length_cons, List.length_nil, Nat.reduceAdd, Nat.reduceSub, Array.replicate_succ, Array.replicate_zero, List.push_toArray, List.append_toArray, List.nil_append, List.cons_append]
  gi_wp2_with fail
  refine ⟨trivial, ?_⟩
  refine (callsIn_wide.2 (bits_make s _)).mono ?_
  rintro e wb ⟨rfl, hwb⟩
  obtain ⟨w1, hw1, s1, b1, k1, -⟩ := boxed w (.slice A c.length cap) 22
  obtain ⟨w2, hw2, s2, b2, k2, -⟩ := boxed w1 (nv s) 3
  obtain ⟨w3, hw3, s3, b3, k3, f3⟩ := boxed w2 (.bool false) 4
  obtain ⟨w4, hw4, s4, b4, k4, -⟩ := boxed w3 (nv s) 3
  rw [hw1, hw2, hw3]
  rw [hw1, hw2, hw3, hw4] at hwb
  subst hwb
  obtain ⟨B, hB⟩ : ∃ B, B = w.heap.size := ⟨_, rfl⟩
  rw [← hB] at s1 k1 ⊢
  rw [s1] at s2 k2
  rw [s2] at s3 k3 f3
  rw [s3] at s4 k4 ⊢
  have hb24 := (b2.trans (b3.mono (by omega))).trans (b4.mono (by omega))
  have hbb : Below w.heap.size w w4 := b1.trans (hb24.mono (by omega))
  have hc2 : w4.cell? ⟨B, 0, none⟩ = some (.slice A c.length cap) := (hb24.cell (p := ⟨B, 0, none⟩) (by simp; omega)).trans k1
  have hc3 : w4.cell? ⟨B + 1, 0, none⟩ = some (nv s) := ((b3.trans (b4.mono (by omega))).cell (p := ⟨B + 1, 0, none⟩) (by simp; omega)).trans k2
  have hc4 : w4.cell? ⟨B + 1 + 1, 0, none⟩ = some (.bool false) := (b4.cell (p := ⟨B + 1 + 1, 0, none⟩) (by simp; omega)).trans k3
  have hf4 : w4.frozen? ⟨B + 1 + 1, 0, none⟩ = false := (b4.frozen (p := ⟨B + 1 + 1, 0, none⟩) (by simp; omega)).trans f3
  have htab := hT.below hbb
  have hrb := Rd.below hr hbb
  have HB := Lib.hid hB
  have HSB := Lib.hid s4
  clear b1 b2 b3 b4 k1 k2 k3 f3 s1 s2 s3 hw1 hw2 hw3 hw4 hr hT hB s4
  gi_wp2_with fail
  refine wpIn_rangeFunc_ownF rfl (by omega) (gf := 75) (lb := #[.pointer (some ⟨B + 1 + 1 + 1, 0, none⟩)]) rfl trivial (enters_of Tryd.func75 (by kernel_rfl) rfl)
    (bits_stops 8 (by omega) (B + 1 + 1 + 1) w.heap.size s hs12 w4 htab hg0 k4) belowK_t (belowK_b (by have := HSB.out; have := HB.out; omega)) (Below.refl _ _) (fun _ => rfl)
    (fun pre W => (∀ x ∈ pre.map (·.1), c.getD x 0 &&& s = 0) ∧ Below w4.heap.size w4 W)
    (fun d pre W => (d = .ret ∧ ∃ x, x ∈ bitsOf s ∧ c.getD x 0 &&& s ≠ 0) ∧ W.cell? ⟨B + 1 + 1, 0, none⟩ = some (.bool false) ∧ Below w.heap.size w W)
    (OwnFrom.and (ownFrom_pure _) (ownFrom_below (Nat.le_refl _) (Nat.le_refl _)))
    (fun _ => OwnFrom.and (ownFrom_pure _) (OwnFrom.and (ownFrom_cell1 _ _) (ownFrom_below (Nat.le_refl _) (by have := HSB.out; have := HB.out; omega)))) ⟨by simp, Below.refl _ _⟩
    (fun x => { tmps := #[.slice A c.length cap, nv s, .pointer (some ⟨B, 0, none⟩), .pointer (some ⟨B + 1, 0, none⟩), .pointer (some ⟨B + 1 + 1, 0, none⟩), nv x.1, nv s, .func (.func 75) #[] #[.pointer (some ⟨B + 1 + 1 + 1, 0, none⟩)], nv x.1, undef, undef, undef, undef, undef, undef, undef], defers := [] }) ?assign ?body ?done ?stop
  case assign =>
    intro l x W K hK
    gi_wp2
    exact hK
  case body =>
    rintro l pre ⟨x, hx⟩ W ⟨i1, i2⟩ _
    have hxm : x < c.length := by
      by_cases h : x < c.length
      · exact h
      · rw [Odr.testBit_lt (n := c.length) HS.out (by omega)] at hx; cases hx
    obtain ⟨g, o, c2, he, gl, gx⟩ := Ints.atN (Rd.below hrb (i2.mono (by have := HSB.out; have := HB.out; omega))) hxm
    injection he with he1 he2 he3
    subst he1 he3
    clear he2
    have hz2 : c.getD x 0 < 4096 := fits12 hc (hf.getD x)
    have hc2W := (i2.cell (p := ⟨B, 0, none⟩) (by have := HSB.out; simp; omega)).trans hc2
    have hc3W := (i2.cell (p := ⟨B + 1, 0, none⟩) (by have := HSB.out; simp; omega)).trans hc3
    have hc4W := (i2.cell (p := ⟨B + 1 + 1, 0, none⟩) (by have := HSB.out; simp; omega)).trans hc4
    have hf4W := (i2.frozen (p := ⟨B + 1 + 1, 0, none⟩) (by have := HSB.out; simp; omega)).trans hf4
    obtain ⟨y, hy⟩ : ∃ y, y = c.getD x 0 := ⟨_, rfl⟩
    rw [← hy] at gx hz2
    have hdf := bits_and y s (by omega) (by omega)
    have f1 : KeepsOthers W W.drew := KeepsOthers.drew W
    have f2 : Below w.heap.size W W.drew := (Below.refl w.heap.size W).drew
    have f3 : Below w4.heap.size w4 W.drew := i2.drew
    have hxk : x ∈ bitsOf s := (mem_bitsOf (by omega)).2 hx
    by_cases hz : y &&& s = 0
    · have F := Lib.hid (And.intro f1 (And.intro f2 (And.intro (show ∀ z ∈ (pre ++ [(⟨x, hx⟩ : El s)]).map (·.1), c.getD z 0 &&& s = 0 by
        intro z hz'
        rw [List.map_append, List.mem_append] at hz'
        rcases hz' with h | h
        · exact i1 z h
        · simp only [List.map_cons, List.map_nil, List.mem_singleton] at h
          subst h
          rw [← hy]; exact hz) f3)))
      have hb0 : (bits .and .i64 (y : Int) (s : Int) != 0) = false := by rw [hdf, hz]; simp
      clear i1 i2 f1 f2 f3 hdf hy hz hxk
      gi_wp2_with fail
      gi_region
      all_goals gi_wp2_with fail
      all_goals exact F.out
    · have hb0 : (bits .and .i64 (y : Int) (s : Int) != 0) = true := by rw [hdf]; simp; omega
      have FX := Lib.hid (⟨x, hxk, by rw [← hy]; exact hz⟩ : ∃ x, x ∈ bitsOf s ∧ c.getD x 0 &&& s ≠ 0)
      have FB := Lib.hid (hbb.trans (i2.mono (by have := HSB.out; have := HB.out; omega)))
      clear i1 i2 f1 f2 f3 hdf hy hz hxk
      gi_wp2_with fail
      gi_region
      all_goals gi_wp2_with fail
      all_goals exact ⟨(KeepsOthers.setCell _ _ _).trans (KeepsOthers.drew _), ⟨rfl, FX.out⟩, World.cell?_setCell_same _ _ _ hc4W, (FB.out.setCell (p := ⟨B + 1 + 1, 0, none⟩) (by have := HB.out; simp; omega) _).drew⟩
  case done =>
    rintro D xs W hD hxs ⟨i1, i2⟩ hK
    rw [hxs] at i1
    have hm : MarksOk w.heap.size [D] W := (MarksOk.nil _ _).cons hK (by have := HSB.out; have := HB.out; omega) (by simp)
    have HM := Lib.hid hm
    have hc4W := (i2.cell (p := ⟨B + 1 + 1, 0, none⟩) (by have := HSB.out; simp; omega)).trans hc4
    have hf4W := (i2.frozen (p := ⟨B + 1 + 1, 0, none⟩) (by have := HSB.out; simp; omega)).trans hf4
    have I5 := Lib.hid (hbb.trans (i2.mono (by have := HSB.out; have := HB.out; omega)))
    have HR := Lib.hid (show Odr.sideB c s = true from List.all_eq_true.2 fun x hx => decide_eq_true (i1 x hx))
    have HM2 := Lib.hid (hm.others (KeepsOthers.setCell W ⟨B + 1 + 1, 0, none⟩ (.bool true)))
    have I6 := Lib.hid (I5.out.setCell (p := ⟨B + 1 + 1, 0, none⟩) (by have := HB.out; simp; omega) (.bool true))
    clear hm i1 i2 hK hxs HM
    gi_wp2_with fail
    have hres := World.cell?_setCell_same W ⟨B + 1 + 1, 0, none⟩ (.bool true) hc4W
    refine leaves_marks [D] _ HM2.out fun w' hs => ?_
    have hcw := hs.cell hres
    refine ⟨.bool true, by simp [results, Tryd.results67, go_sem, hcw], by rw [HR.out], hs.below I6.out⟩
  case stop =>
    rintro D d pre W hD _ ⟨⟨rfl, x, hx1, hx2⟩, i3, i2⟩ hK
    have hm : MarksOk w.heap.size [D] W := (MarksOk.nil _ _).cons hK (by have := HSB.out; have := HB.out; omega) (by simp)
    have HM := Lib.hid hm
    have HR := Lib.hid (show Odr.sideB c s = false from by
      cases h : Odr.sideB c s with
      | false => rfl
      | true => exact absurd (of_decide_eq_true (List.all_eq_true.1 h x hx1)) hx2)
    have I5 := Lib.hid i2
    clear hm i2 hK hx1 hx2
    gi_wp2_with fail
    refine leaves_marks [D] _ HM.out fun w' hs => ?_
    have hcw := hs.cell i3
    refine ⟨.bool false, by simp [results, Tryd.results67, go_sem, hcw], by rw [HR.out], hs.below I5.out⟩
end Go.Proofs.YtpicjikjinkkpaaDoor
