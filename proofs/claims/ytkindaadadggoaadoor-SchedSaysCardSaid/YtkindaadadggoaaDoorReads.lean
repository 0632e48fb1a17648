/- Contracts of slices.Repeat at []int (minus one, four times) and of sched.Reads. Conditions: each contract's own premises. -/
import Derived.Test.YtkindaadadggoaaDoorActMem
import Derived.Test.YtkindaadadggoaaDoorSameM
import Derived.Test.YtkindaadadggoaaDoorObj
import Derived.Test.YtkindaadadggoaaDoorRow12
import Derived.Laws.CopyOwn
import Derived.Deep.RegionLaw
namespace Go.Proofs.YtkindaadadggoaaDoor
open Go.RowKit

set_option maxRecDepth 20000 in
set_option maxHeartbeats 2000000 in
theorem mul_one_four (w : World) : Calls Tryd.prog 84 #[.int .u64 1, .int .u64 4] w fun e w' => e = .returned (.tuple #[.int .u64 0, .int .u64 4]) ∧ w = w' := by
  go_enter Tryd.func84, Tryd.ntmps84
  go_wp2
  go_ret2
  exact ⟨rfl, rfl⟩

theorem infoInt1 : (Tryd.prog.info? 3).map (·.size) = some 1 := by kernel_rfl
/-- so many minus ones, and then nothing, in a block of four -/
def mrow (w : World) (g n : Nat) : Prop := w.heap[g]? = some (.cells (List.replicate n (iv (-1)) ++ List.replicate (4 - n) (iv 0)).toArray 3 (0, 0))
theorem mrow_cell {w : World} {g n : Nat} (h : mrow w g n) {j : Nat} (hj : j < n) : w.cell? ⟨g, j, none⟩ = some (iv (-1)) := by
  unfold mrow at h
  simp [World.cell?, h, List.getElem?_append, hj]
theorem mrow_own {w : World} {base g : Nat} (h : Own w base (.slice (some ⟨g, 0, none⟩) 4 4) [0, 0, 0, 0]) : mrow w g 0 := by
  rcases h.2 with ⟨h2, _⟩ | ⟨g', cap, cur, he, _, hg, _, _, hs, ht⟩
  · cases h2
  · cases he
    have hl : cur.toList.length = 4 := by simpa using hs
    have e : cur.toList = [iv 0, iv 0, iv 0, iv 0] := (List.take_of_length_le (by rw [hl]; decide)).symm.trans ht
    have e2 : cur = [iv 0, iv 0, iv 0, iv 0].toArray := by rw [← e]
    rw [e2] at hg
    exact hg
theorem src_one {w : World} {b : Nat} (h : w.cell? ⟨b, 0, none⟩ = some (iv (-1))) : ∀ (j : Nat) (v : Value), [iv (-1)][j]? = some v → w.cell? ((⟨b, 0, none⟩ : Addr).add j) = some v := by
  intro j v hj
  match j, hj with
  | 0, hj => simp at hj; subst hj; exact h
theorem src_row {w : World} {g n : Nat} (h : mrow w g n) : ∀ (j : Nat) (v : Value), (List.replicate n (iv (-1)))[j]? = some v → w.cell? ((⟨g, 0, none⟩ : Addr).add j) = some v := by
  intro j v hj
  have hj' : j < n := by have := (List.getElem?_eq_some_iff.1 hj).1; simpa using this
  rw [List.getElem?_replicate, if_pos hj'] at hj
  injection hj with hj
  subst hj
  rw [Go.WideShapes.add_plain, Nat.zero_add]
  exact mrow_cell h hj'
theorem own_mrow {w : World} {base g : Nat} (h : mrow w g 4) (hb : base ≤ g) : Own w base (.slice (some ⟨g, 0, none⟩) 4 4) [-1, -1, -1, -1] :=
  ⟨rfl, .inr ⟨g, 4, _, rfl, hb, h, by decide, by decide, rfl, rfl⟩⟩

/-- a copy of what is there behind it -/
theorem copy_run {w w0 : World} {g n m : Nat} {B : Nat} (h : mrow w g n) (hnm : (n = 1 ∧ m = 1) ∨ (n = 2 ∧ m = 2)) (hb : Below B w0 w) (hB : B ≤ g) :
    ∃ w', (Builtin.copy_ #[26, 26] 3 #[.slice (some ⟨g, n, none⟩) (4 - n) (4 - n), .slice (some ⟨g, 0, none⟩) m 4]).run Tryd.prog w = .ok (.int .i64 (m : Int)) w' ∧ mrow w' g (n + m) ∧ Below B w0 w' := by
  have hrun := run_copy_row (P := Tryd.prog) w 26 26 3 3 g n (4 - n) (4 - n) ⟨g, 0, none⟩ m 4 _ 3 (List.replicate m (iv (-1))) Tryd.underlying26 infoInt1 h (by rw [List.length_replicate]; rcases hnm with ⟨rfl, rfl⟩ | ⟨rfl, rfl⟩ <;> rfl) (fun j v hj => src_row h j v (by
    have hj' : j < m := by have := (List.getElem?_eq_some_iff.1 hj).1; simpa using this
    rw [List.getElem?_replicate, if_pos hj'] at hj
    rw [List.getElem?_replicate, if_pos (by omega)]
    exact hj)) (by simp; omega) (fun v hv => by rw [(List.mem_replicate.1 hv).2]; rfl)
  rw [List.length_replicate] at hrun
  refine ⟨_, hrun, ?_, below_setRow hb hB _⟩
  have := setRow_heap w g _ (((List.replicate n (iv (-1)) ++ List.replicate (4 - n) (iv 0)).toArray.toList.take n ++ List.replicate m (iv (-1)) ++ (List.replicate n (iv (-1)) ++ List.replicate (4 - n) (iv 0)).toArray.toList.drop (n + m))).toArray 3 _ h
  unfold mrow
  rw [this]
  rcases hnm with ⟨rfl, rfl⟩ | ⟨rfl, rfl⟩ <;> rfl

set_option maxRecDepth 20000 in
set_option maxHeartbeats 2000000 in
theorem repeat_calls (b : Nat) (w : World) (hc : w.cell? ⟨b, 0, none⟩ = some (.int .i64 (-1))) :
    Calls Tryd.prog 75 #[.slice (some ⟨b, 0, none⟩) 1 1, .int .i64 4] w fun e w' => ∃ v', e = .returned v' ∧ Own w' w.heap.size v' [-1, -1, -1, -1] ∧ Below w.heap.size w w' := by
  have hbl := World.block_lt_of_cell? w _ hc
  go_enter Tryd.func75, Tryd.ntmps75
  go_wp2_with (first | (go_at_call 84; refine (mul_one_four _).mono ?_; rintro e w' ⟨rfl, rfl⟩) | (at_make; refine make_ints rfl _ _ rfl w.heap.size 4 rfl rfl (by omega) (Nat.le_refl _) ?_; intro w2 hown2 hb2; have hm2 := Lib.hid (mrow_own hown2); have hc2 := Lib.hid (src_one ((hb2.cell (p := ⟨b, 0, none⟩) hbl).trans hc))) | (refine wpList_copy_splice rfl _ _ 26 26 rfl 3 Tryd.underlying26 infoInt1 (some ⟨w.heap.size, 0, none⟩) (some ⟨b, 0, none⟩) 4 4 1 1 rfl rfl w.heap.size 0 _ 3 hm2.out [iv (-1)] rfl (fun _ => ⟨rfl, _, rfl, hc2.out⟩) (by decide) (by decide) w.heap.size w hb2 (Nat.le_refl _) ?_; intro w3 hm3 hb3))
  clear hb2 hm2 hc2 hown2
  have hm3 := Lib.hid (show mrow w3 w.heap.size 1 from hm3.out)
  go_wp2_with fail
  go_loopw [8] (fun i wr => ∃ n : Nat, (n = 1 ∨ n = 2 ∨ n = 4) ∧ i = nv n ∧ Hid (mrow wr w.heap.size n) ∧ Below w.heap.size w wr) (fun i _ => 4 - (intOf i).toNat)
  case atStart => exact ⟨1, .inl rfl, rfl, hm3, hb3⟩
  case round =>
    clear hm3 hb3
    obtain ⟨n, hn, rfl, hm, hb⟩ := hrel
    rcases hn with rfl | rfl | rfl
    · obtain ⟨w4, hrun, hm4, hb4⟩ := copy_run (n := 1) (m := 1) (w := wr.drew) hm.out (by omega) hb.drew (Nat.le_refl _)
      have hm4 := Lib.hid hm4
      go_wp2_with fail
      go_region
      go_wp2_with fail
      go_roundw
      case rel => exact ⟨2, .inr (.inl rfl), by go_num, hm4, hb4⟩
      case measure => simp [intOf]
    · obtain ⟨w4, hrun, hm4, hb4⟩ := copy_run (n := 2) (m := 2) (w := wr.drew) hm.out (by omega) hb.drew (Nat.le_refl _)
      have hm4 := Lib.hid hm4
      go_wp2_with fail
      go_region
      go_wp2_with fail
      go_roundw
      case rel => exact ⟨4, .inr (.inr rfl), by go_num, hm4, hb4⟩
      case measure => simp [intOf]
    · have hF := Lib.hid (own_mrow hm.out (Nat.le_refl _))
      go_wp2_with fail
      go_ret
      exact ⟨_, rfl, hF.out, hb⟩

namespace Sch
def lasts (t : List N3) (k : Nat) : List Int := (List.range 4).map fun it => lastW t it k
@[simp] theorem length_lasts (t : List N3) (k : Nat) : (lasts t k).length = 4 := by simp [lasts]
theorem lasts_zero (t : List N3) : lasts t 0 = [-1, -1, -1, -1] := rfl
theorem lasts_at (t : List N3) (k j : Nat) (hj : j < (lasts t k).length) : (lasts t k)[j] = lastW t j k := by simp [lasts]
theorem lasts_write {t : List N3} {k : Nat} (hw : (t.getD k d3).2.2 = 1) : lasts t (k + 1) = (lasts t k).set (t.getD k d3).2.1 (k : Int) := by
  apply List.ext_getElem (by simp)
  intro j h1 h2
  rw [List.getElem_set, lasts_at, lastW]
  by_cases e : (t.getD k d3).2.1 = j
  · rw [if_pos e, if_pos ⟨e, hw⟩]
  · rw [if_neg e, if_neg (fun h => e h.1), lasts_at]
theorem lasts_read {t : List N3} {k : Nat} (hw : (t.getD k d3).2.2 ≠ 1) : lasts t (k + 1) = lasts t k := by
  apply List.ext_getElem (by simp)
  intro j h1 h2
  rw [lasts_at, lasts_at, lastW, if_neg (fun h => hw h.2)]
theorem getElem_lasts {t : List N3} {k j : Nat} (hj : j < 4) : (lasts t k)[j]'(by simpa using hj) = lastW t j k := by simp [lasts]
theorem reads_next (t : List N3) (k : Nat) : (List.range (k + 1)).map (readAt t) = (List.range k).map (readAt t) ++ [readAt t k] := by simp [List.range_succ]
end Sch

set_option maxRecDepth 20000 in
set_option maxHeartbeats 2000000 in
theorem reads_ok (t : List Sch.N3) (v : Value) (w : World) (hr : Acts w w.heap.size v (Sch.zacts t)) (hlen : t.length ≤ 24) (hok : ∀ a ∈ t, Sch.Ok3 a) :
    Calls Tryd.prog 52 #[v] w fun e w' => ∃ v', e = .returned (.tuple #[v', .nilIface]) ∧ Own w' w.heap.size v' (Sch.reads t) ∧ Below w.heap.size w w' := by
  have hchk := Lib.hid (check_ok (Sch.zacts t) v w hr (by simpa using hlen) (actsOk hok))
  obtain ⟨A, cap, rfl⟩ := Rd.val hr
  have HR := Lib.hid hr
  have HOK := Lib.hid fun k => Sch.getD_ok hok k
  rw [Sch.length_zacts] at *
  clear hr hok
  go_enter Tryd.func52, Tryd.ntmps52
  go_wp2_with fail
  (with_reducible refine hchk.out.mono ?_)
  rintro e w1 ⟨rfl, hb1⟩
  clear hchk
  have hs1 := hb1.size
  go_wp2_with fail
  have hrep := Lib.hid (repeat_calls w1.heap.size (w1.alloc (.cells #[.int .i64 (-1)] 3)) (by simp))
  (with_reducible refine hrep.out.mono ?_)
  rintro e w3 ⟨v3, rfl, hown3, hb3⟩
  clear hrep
  obtain ⟨g, cp, rfl, hg1, hg2, -⟩ := Own.shape hown3 (by decide)
  have hb13 := (hb1.alloc hs1 (.cells #[.int .i64 (-1)] 3)).trans (hb3.mono (by simp; omega))
  have hown3 := hown3.lower (base' := w.heap.size) (by simp; omega)
  simp only [World.size_alloc] at hg1
  have hw3 := hb13.size
  clear hb1 hb3
  go_wp2_with fail
  go_loopw [6, 18] (fun ov i wr => ∃ (k : Nat) (vo : Value), k ≤ t.length ∧ i = nv k ∧ ov = vo ∧ Hid (Own wr w.heap.size (.slice (some ⟨g, 0, none⟩) 4 cp) (Sch.lasts t k)) ∧ Hid (Own wr w3.heap.size vo ((List.range k).map (Sch.readAt t))) ∧
      Below w.heap.size w wr ∧ w3.heap.size ≤ wr.heap.size) (fun _ i _ => t.length - (intOf i).toNat)
  case atStart => exact ⟨0, _, Nat.zero_le _, rfl, rfl, Lib.hid (by rw [Sch.lasts_zero]; exact hown3), Lib.hid (Own.nil _ _), hb13, Nat.le_refl _⟩
  case round =>
    clear hown3 hb13
    obtain ⟨k, vo, hk, rfl, hvo, hla, hou, hb, hsz⟩ := hrel
    replace hvo := hvo.symm
    subst hvo
    have hszb := hb.size
    by_cases hkl : k < t.length
    · obtain ⟨b, off, cap2, he, hlc, hcm, hbB, d0, d1, d2⟩ := Acts.atN (Rd.below HR.out hb) hkl
      cases he
      obtain ⟨r0, r1, r2⟩ := HOK.out k
      have HRN := Lib.hid (Sch.reads_next t k)
      have HW := Lib.hid (Sch.lasts_write (t := t) (k := k))
      have HNW := Lib.hid (Sch.lasts_read (t := t) (k := k))
      have HRA := Lib.hid (show Sch.readAt t k = if (t.getD k Sch.d3).2.2 = 1 then -1 else Sch.lastW t (t.getD k Sch.d3).2.1 k from rfl)
      generalize t.getD k Sch.d3 = a at *
      obtain ⟨x, it, wt⟩ := a
      simp only at d0 d1 d2 r0 r1 r2 HW HNW HRA
      obtain ⟨g1, g2, g3', g4', g5'⟩ := hla.out.lit
      by_cases hw : wt = 1
      · subst hw
        have HW := Lib.hid (HW.out rfl)
        have HRA := Lib.hid (show Sch.readAt t k = -1 by rw [HRA.out, if_pos rfl])
        have g3 := g3' it (by simpa using r1)
        rw [Sch.getElem_lasts r1] at g3
        have g4 := g4' it
        have g5 := g5' it k
        rw [← HW.out] at g5
        have g5 := Lib.hid g5
        clear HNW g3' g4' g5'
        have hg3 : g < w3.heap.size := hg2
        have hou6 := Lib.hid (show Own (wr.setCell ⟨g, it, none⟩ (nv k)) w3.heap.size vo ((List.range k).map (Sch.readAt t)) from ownsRow_setCell_below hou.out (show (⟨g, it, none⟩ : Addr).block < _ from hg3) _)
        have hb6 := Lib.hid (hb.setCell (p := ⟨g, it, none⟩) g1 (nv k))
        generalize Sch.lastW t it k = y at *
        have hcx : (((wr.setCell ⟨g, it, none⟩ (nv k)).alloc (.cells #[nv x, nv it, .int .i64 1] 28)).alloc (.cells #[.int .i64 (-1)] 3)).cell? ⟨wr.heap.size + 1, 0, none⟩ = some (iv (-1)) := by
          rw [show wr.heap.size + 1 = ((wr.setCell ⟨g, it, none⟩ (nv k)).alloc (.cells #[nv x, nv it, .int .i64 1] 28)).heap.size by simp, World.cell?_alloc_new]; rfl
        have hcx := Lib.hid hcx
        have hlx := Lib.hid (show ((List.range k).map (Sch.readAt t)).length < 1000000 by simp; omega)
        go_wp2_with (at_builtin; refine append_int rfl _ _ rfl w3.heap.size _ ((List.range k).map (Sch.readAt t)) rfl (Own.alloc (Own.alloc hou6.out _) _) (wr.heap.size + 1) rfl (-1) hcx.out hlx.out (by simp; omega) ?_; intro v' w6 hown6 hb7 hg6)
        have hb8 := Lib.hid (((hb6.out.alloc (o := .cells #[nv x, nv it, .int .i64 1] 28) (by simp; omega)).alloc (o := .cells #[.int .i64 (-1)] 3) (by simp; omega)).trans (hb7.mono (by omega)))
        have hou8 := Lib.hid (show Own w6 w3.heap.size v' ((List.range (k + 1)).map (Sch.readAt t)) by rw [HRN.out, HRA.out]; exact hown6)
        have hoff : Off (fun k' => vo.ownBlock = some k') (.slice (some ⟨g, 0, none⟩) 4 cp) := fun k' hk' hv => by
          cases hk'
          have := (row_lt hou.out g hv).1
          omega
        have hla8 := Lib.hid (((Own.alloc g5.out (.cells #[nv x, nv it, .int .i64 1] 28)).alloc (.cells #[.int .i64 (-1)] 3)).only ((Only.refl _ _).grown hg6 (fun k' hk' => .inl hk')) hoff)
        have hsz8 := hb7.size
        simp only [World.size_alloc, World.size_setCell] at hsz8
        clear hown6 hb7 hg6 hoff g3 g4
        go_wp2_with fail
        go_roundw
        case rel => exact ⟨k + 1, _, by omega, by go_num, rfl, Lib.hid hla8.out, Lib.hid hou8.out, hb8.out, by omega⟩
        case measure => simp [intOf]; omega
      · have hw0 : wt = 0 := by omega
        subst hw0
        have HNW := Lib.hid (HNW.out (by decide))
        have HRA := Lib.hid (show Sch.readAt t k = Sch.lastW t it k by rw [HRA.out]; rfl)
        have g3 := g3' it (by simpa using r1)
        rw [Sch.getElem_lasts r1] at g3
        clear HW g3' g4' g5'
        generalize Sch.lastW t it k = y at *
        go_wp2_with (at_builtin; refine append_int rfl _ _ rfl w3.heap.size _ ((List.range k).map (Sch.readAt t)) rfl (Own.alloc (Own.alloc hou.out _) _) (wr.heap.size + 1) rfl y (by simp) (by simp; omega) (by simp; omega) ?_; intro v' w6 hown6 hb6 hg6)
        have hoff : Off (fun k' => vo.ownBlock = some k') (.slice (some ⟨g, 0, none⟩) 4 cp) := fun k' hk' hv => by
          cases hk'
          have := (row_lt hou.out g hv).1
          omega
        have hb8 := Lib.hid (((hb.alloc hszb (.cells #[nv x, nv it, .int .i64 0] 28)).alloc (o := .cells #[.int .i64 y] 3) (by simp; omega)).trans (hb6.mono (by omega)))
        have hou8 := Lib.hid (show Own w6 w3.heap.size v' ((List.range (k + 1)).map (Sch.readAt t)) by rw [HRN.out, HRA.out]; exact hown6)
        have hla8 := Lib.hid (show Own w6 w.heap.size (.slice (some ⟨g, 0, none⟩) 4 cp) (Sch.lasts t (k + 1)) by
          rw [HNW.out]
          exact ((hla.out.alloc (.cells #[nv x, nv it, .int .i64 0] 28)).alloc (.cells #[.int .i64 y] 3)).only ((Only.refl _ _).grown hg6 (fun k' hk' => .inl hk')) hoff)
        have hsz8 := hb6.size
        simp only [World.size_alloc] at hsz8
        clear hown6 hb6 hg6 hoff g3
        go_wp2_with fail
        go_roundw
        case rel => exact ⟨k + 1, _, by omega, by go_num, rfl, Lib.hid hla8.out, Lib.hid hou8.out, hb8.out, by omega⟩
        case measure => simp [intOf]; omega
    · obtain rfl : k = t.length := by omega
      have HO := Lib.hid (show Own wr w3.heap.size _ (Sch.reads t) from hou.out)
      go_wp2_with fail
      go_ret2
      exact ⟨_, rfl, HO.out.lower (by omega), hb⟩
end Go.Proofs.YtkindaadadggoaaDoor
