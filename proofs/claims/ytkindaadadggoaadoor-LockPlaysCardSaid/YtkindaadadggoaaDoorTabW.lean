/- Contract of lock's Waits. Conditions: the contract's own premises. (Printed by wip/gen/lockw.py.) -/
import Derived.Test.YtkindaadadggoaaDoorTabI
import Derived.Test.YtkindaadadggoaaDoorStuckM
namespace Go.Proofs.YtkindaadadggoaaDoor
open Go.RowKit

namespace Lk
def waitsTo (l : L) (k : Nat) : List Nat := (List.range 5).map fun t => if t < k then waitOf l t else 0
theorem waitsTo_all (l : L) : waitsTo l 5 = waits l := by
  unfold waitsTo waits
  exact List.map_congr_left fun t ht => if_pos (List.mem_range.1 ht)
theorem waitsTo_zero (l : L) : waitsTo l 0 = List.replicate 5 0 := by
  unfold waitsTo
  apply List.ext_getElem (by simp)
  intro i h1 h2
  rw [List.getElem_replicate]
  simp
theorem length_waitsTo (l : L) (k : Nat) : (waitsTo l k).length = 5 := by simp [waitsTo]
theorem waitsTo_set (l : L) (k : Nat) : (waitsTo l k).set k (waitOf l k) = waitsTo l (k + 1) := by
  unfold waitsTo
  apply List.ext_getElem (by simp)
  intro i h1 h2
  simp only [List.length_set, List.length_map, List.length_range] at h1
  rw [List.getElem_set]
  simp only [List.getElem_map, List.getElem_range]
  by_cases e : k = i
  · subst e; rw [if_pos rfl, if_pos (by omega)]
  · rw [if_neg e]
    by_cases h : i < k
    · rw [if_pos h, if_pos (by omega)]
    · rw [if_neg h, if_neg (by omega)]
theorem waitsTo_same (l : L) (k : Nat) (h : waitOf l k = 0) : waitsTo l (k + 1) = waitsTo l k := by
  unfold waitsTo
  refine List.map_congr_left fun t _ => ?_
  by_cases e : t = k
  · subst e; rw [if_pos (by omega), if_neg (by omega), h]
  · by_cases g : t < k
    · rw [if_pos g, if_pos (by omega)]
    · rw [if_neg g, if_neg (by omega)]
theorem waitOf_none {l : L} {t : Nat} (h : l.wants.getD t none = none) : waitOf l t = 0 := by unfold waitOf; rw [h]
theorem waitOf_some {l : L} {t i o : Nat} (h : l.wants.getD t none = some (i, o)) : waitOf l t = blk l t i o := by unfold waitOf; rw [h]
end Lk
theorem TabAt.belowW {w w' : World} {b : Nat} {l : Lk.L} {v : Value} (h : TabAt w b l v) (hb : Below w.heap.size w w') : TabAt w' b l v :=
  h.only (Only.of_below hb (Nat.le_refl _) (fun _ => False)) (fun _ _ h => h)

set_option maxRecDepth 20000 in
theorem run_widx0 (w : World) (a0 a1 a2 a3 a4 a5 a6 a7 a8 a9 aa ab ac ad ae : Value) : (Instr.index 116 (.agg #[a0, a1, a2, a3, a4, a5, a6, a7, a8, a9, aa, ab, ac, ad, ae]) (.int .i64 0)).run Tryd.prog w = .ok (.agg #[a0, a1, a2]) w := rfl
set_option maxRecDepth 20000 in
theorem run_widx1 (w : World) (a0 a1 a2 a3 a4 a5 a6 a7 a8 a9 aa ab ac ad ae : Value) : (Instr.index 116 (.agg #[a0, a1, a2, a3, a4, a5, a6, a7, a8, a9, aa, ab, ac, ad, ae]) (.int .i64 1)).run Tryd.prog w = .ok (.agg #[a3, a4, a5]) w := rfl
set_option maxRecDepth 20000 in
theorem run_widx2 (w : World) (a0 a1 a2 a3 a4 a5 a6 a7 a8 a9 aa ab ac ad ae : Value) : (Instr.index 116 (.agg #[a0, a1, a2, a3, a4, a5, a6, a7, a8, a9, aa, ab, ac, ad, ae]) (.int .i64 2)).run Tryd.prog w = .ok (.agg #[a6, a7, a8]) w := rfl
set_option maxRecDepth 20000 in
theorem run_widx3 (w : World) (a0 a1 a2 a3 a4 a5 a6 a7 a8 a9 aa ab ac ad ae : Value) : (Instr.index 116 (.agg #[a0, a1, a2, a3, a4, a5, a6, a7, a8, a9, aa, ab, ac, ad, ae]) (.int .i64 3)).run Tryd.prog w = .ok (.agg #[a9, aa, ab]) w := rfl
set_option maxRecDepth 20000 in
theorem run_widx4 (w : World) (a0 a1 a2 a3 a4 a5 a6 a7 a8 a9 aa ab ac ad ae : Value) : (Instr.index 116 (.agg #[a0, a1, a2, a3, a4, a5, a6, a7, a8, a9, aa, ab, ac, ad, ae]) (.int .i64 4)).run Tryd.prog w = .ok (.agg #[ac, ad, ae]) w := rfl

set_option maxRecDepth 20000 in
set_option maxHeartbeats 4000000 in
theorem waits_calls (l : Lk.L) (b : Nat) (v : Value) (w : World) (h : TabAt w b l v) (hI : Lk.Inv l) :
    Calls Tryd.prog 37 #[.pointer (some ⟨b, 0, none⟩)] w fun e w' => ∃ v', e = .returned v' ∧ Own w' w.heap.size v' (zs (Lk.waits l)) ∧ Below w.heap.size w w' := by
  have HB := h.1.lt
  have hblk := Lib.hid fun (w5 : World) (hb : Below w.heap.size w w5) (tx it own : Nat) (a1 : tx < 5) (a2 : it < 4) (a3 : own < 2) => blk_calls l b v w5 tx it own (h.belowW hb) hI a1 a2 a3
  have hcell := Lib.hid fun (w5 : World) (hb : Below w.heap.size w w5) (i j : Nat) (hi : i < 5) (hj : j < 3) => (h.belowW hb).want hi hj
  have hrng := Lib.hid hI.2.2.2.2.2.2.2.2.1
  have W0 := Lib.hid (Lk.waitsTo_zero l)
  have WA := Lib.hid (Lk.waitsTo_all l)
  have WS := Lib.hid (Lk.waitsTo_set l)
  have WN := Lib.hid (Lk.waitsTo_same l)
  have WL := Lib.hid (Lk.length_waitsTo l)
  clear h hI
  go_enter Tryd.func37, Tryd.ntmps37
  go_wp2_with (at_make; refine make_ints rfl _ _ rfl w.heap.size 5 rfl rfl (by omega) (Nat.le_refl _) ?_; intro w8 hown8 hb8; have c9 : w8.cell? ⟨b, 9, none⟩ = some (wcell (l.wants.getD 0 none) 0) := hcell.out w8 hb8 0 0 (by decide) (by decide); have c10 : w8.cell? ⟨b, 10, none⟩ = some (wcell (l.wants.getD 0 none) 1) := hcell.out w8 hb8 0 1 (by decide) (by decide); have c11 : w8.cell? ⟨b, 11, none⟩ = some (wcell (l.wants.getD 0 none) 2) := hcell.out w8 hb8 0 2 (by decide) (by decide); have c12 : w8.cell? ⟨b, 12, none⟩ = some (wcell (l.wants.getD 1 none) 0) := hcell.out w8 hb8 1 0 (by decide) (by decide); have c13 : w8.cell? ⟨b, 13, none⟩ = some (wcell (l.wants.getD 1 none) 1) := hcell.out w8 hb8 1 1 (by decide) (by decide); have c14 : w8.cell? ⟨b, 14, none⟩ = some (wcell (l.wants.getD 1 none) 2) := hcell.out w8 hb8 1 2 (by decide) (by decide); have c15 : w8.cell? ⟨b, 15, none⟩ = some (wcell (l.wants.getD 2 none) 0) := hcell.out w8 hb8 2 0 (by decide) (by decide); have c16 : w8.cell? ⟨b, 16, none⟩ = some (wcell (l.wants.getD 2 none) 1) := hcell.out w8 hb8 2 1 (by decide) (by decide); have c17 : w8.cell? ⟨b, 17, none⟩ = some (wcell (l.wants.getD 2 none) 2) := hcell.out w8 hb8 2 2 (by decide) (by decide); have c18 : w8.cell? ⟨b, 18, none⟩ = some (wcell (l.wants.getD 3 none) 0) := hcell.out w8 hb8 3 0 (by decide) (by decide); have c19 : w8.cell? ⟨b, 19, none⟩ = some (wcell (l.wants.getD 3 none) 1) := hcell.out w8 hb8 3 1 (by decide) (by decide); have c20 : w8.cell? ⟨b, 20, none⟩ = some (wcell (l.wants.getD 3 none) 2) := hcell.out w8 hb8 3 2 (by decide) (by decide); have c21 : w8.cell? ⟨b, 21, none⟩ = some (wcell (l.wants.getD 4 none) 0) := hcell.out w8 hb8 4 0 (by decide) (by decide); have c22 : w8.cell? ⟨b, 22, none⟩ = some (wcell (l.wants.getD 4 none) 1) := hcell.out w8 hb8 4 1 (by decide) (by decide); have c23 : w8.cell? ⟨b, 23, none⟩ = some (wcell (l.wants.getD 4 none) 2) := hcell.out w8 hb8 4 2 (by decide) (by decide); generalize ho0 : l.wants.getD 0 none = o0 at *; generalize ho1 : l.wants.getD 1 none = o1 at *; generalize ho2 : l.wants.getD 2 none = o2 at *; generalize ho3 : l.wants.getD 3 none = o3 at *; generalize ho4 : l.wants.getD 4 none = o4 at *; have O0 := Lib.hid ho0; have O1 := Lib.hid ho1; have O2 := Lib.hid ho2; have O3 := Lib.hid ho3; have O4 := Lib.hid ho4; clear ho0 ho1 ho2 ho3 ho4)
  have hown0 : Own w8 w.heap.size (.slice (some ⟨w.heap.size, 0, none⟩) 5 5) (zs (Lk.waitsTo l 0)) := by
    rw [W0.out]
    simpa [zs] using hown8
  clear hown8 c9 c10 c11 c12 c13 c14 c15 c16 c17 c18 c19 c20 c21 c22 c23
  obtain ⟨g, hg⟩ : ∃ g, g = w.heap.size := ⟨_, rfl⟩
  have hown1 : Own w8 w.heap.size (.slice (some ⟨g, 0, none⟩) 5 5) (zs (Lk.waitsTo l 0)) := by rw [hg]; exact hown0
  rw [← hg]
  have HG := Lib.hid hg
  clear hg hown0
  go_loopw [11] (fun kv wr => ∃ k : Nat, k ≤ 5 ∧ kv = nv k ∧ Own wr w.heap.size (.slice (some ⟨g, 0, none⟩) 5 5) (zs (Lk.waitsTo l k)) ∧ Below w.heap.size w wr) (fun kv _ => 5 - (intOf kv).toNat)
  case atStart => exact ⟨0, by omega, rfl, hown1, hb8⟩
  case round =>
    clear hown1 hb8
    obtain ⟨k, hk, rfl, hown, hb⟩ := hrel
    have hbs := hb.size
    have hcase : k = 0 ∨ k = 1 ∨ k = 2 ∨ k = 3 ∨ k = 4 ∨ k = 5 := by omega
    obtain ⟨gb, gs, gc, gf, gst⟩ := Own.lit hown
    rcases hcase with rfl | rfl | rfl | rfl | rfl | rfl
    · cases ho : o0 with
      | none =>
        subst ho
        have n0 : wcell none 0 = .int .i64 0 := rfl
        have n1 : wcell none 1 = .int .i64 0 := rfl
        have n2 : wcell none 2 = .bool false := rfl
        have hz := Lib.hid (WN.out 0 (Lk.waitOf_none O0.out))
        clear gc gf gst
        rw [show nv 0 = .int .i64 0 from rfl]
        have hidx := run_widx0
        go_wp2_with fail
        go_roundw
        case rel => exact ⟨1, by omega, by go_num, by rw [hz.out]; exact hown.alloc _, hb.alloc hbs _⟩
        case measure => simp [intOf]
      | some p =>
        subst ho
        obtain ⟨i, o⟩ := p
        have n0 : wcell (some (i, o)) 0 = nv i := rfl
        have n1 : wcell (some (i, o)) 1 = nv o := rfl
        have n2 : wcell (some (i, o)) 2 = .bool true := rfl
        have hio := hrng.out 0 i o O0.out
        have hset := Lib.hid (show Own ((wr.setCell ⟨g, 0, none⟩ (.int .i64 ((Lk.blk l 0 i o : Nat) : Int)))) w.heap.size (.slice (some ⟨g, 0, none⟩) 5 5) (zs (Lk.waitsTo l 1)) by
          have h := (Own.lit hown).2.2.2.2 0 ((Lk.blk l 0 i o : Nat) : Int)
          have e := WS.out 0
          rw [Lk.waitOf_some O0.out] at e
          rw [zs_set, e] at h
          exact h)
        have gk := gc 0 (by rw [length_zs, WL.out]; decide)
        have gfk := gf 0
        generalize (zs (Lk.waitsTo l 0))[0]'(by rw [length_zs, WL.out]; decide) = old at *
        have hb2 := Lib.hid fun u => hb.setCell (p := ⟨g, 0, none⟩) (by have := HG.out; simp; omega) u
        have hcall := Lib.hid fun o' => (show Calls Tryd.prog 68 #[.pointer (some ⟨b, 0, none⟩), .int .i64 0, nv i, nv o] (wr.alloc o') (fun e w' => e = .returned (nv (Lk.blk l 0 i o)) ∧ wr.alloc o' = w') from hblk.out (wr.alloc o') (hb.alloc hbs o') 0 i o (by decide) hio.1 hio.2)
        clear gc gf gst hown hb
        generalize Lk.blk l 0 i o = bk at *
        rw [show nv 0 = .int .i64 0 from rfl]
        have hidx := run_widx0
        go_wp2_with fail
        (with_reducible refine (hcall.out _).mono ?_)
        rintro e w6 ⟨rfl, rfl⟩
        clear hcall
        go_wp2_with fail
        go_roundw
        case rel => (refine ⟨_, _, _, _, _, _, _, _, _, _, _, _, _, _, _, _, _, _, _, ?_, rfl⟩); exact ⟨1, by omega, by go_num, hset.out.alloc _, by have h := hb2.out (.int .i64 ((bk : Nat) : Int)); exact h.alloc h.size _⟩
        case measure => simp [intOf]
    · cases ho : o1 with
      | none =>
        subst ho
        have n0 : wcell none 0 = .int .i64 0 := rfl
        have n1 : wcell none 1 = .int .i64 0 := rfl
        have n2 : wcell none 2 = .bool false := rfl
        have hz := Lib.hid (WN.out 1 (Lk.waitOf_none O1.out))
        clear gc gf gst
        rw [show nv 1 = .int .i64 1 from rfl]
        have hidx := run_widx1
        go_wp2_with fail
        go_roundw
        case rel => exact ⟨2, by omega, by go_num, by rw [hz.out]; exact hown.alloc _, hb.alloc hbs _⟩
        case measure => simp [intOf]
      | some p =>
        subst ho
        obtain ⟨i, o⟩ := p
        have n0 : wcell (some (i, o)) 0 = nv i := rfl
        have n1 : wcell (some (i, o)) 1 = nv o := rfl
        have n2 : wcell (some (i, o)) 2 = .bool true := rfl
        have hio := hrng.out 1 i o O1.out
        have hset := Lib.hid (show Own ((wr.setCell ⟨g, 1, none⟩ (.int .i64 ((Lk.blk l 1 i o : Nat) : Int)))) w.heap.size (.slice (some ⟨g, 0, none⟩) 5 5) (zs (Lk.waitsTo l 2)) by
          have h := (Own.lit hown).2.2.2.2 1 ((Lk.blk l 1 i o : Nat) : Int)
          have e := WS.out 1
          rw [Lk.waitOf_some O1.out] at e
          rw [zs_set, e] at h
          exact h)
        have gk := gc 1 (by rw [length_zs, WL.out]; decide)
        have gfk := gf 1
        generalize (zs (Lk.waitsTo l 1))[1]'(by rw [length_zs, WL.out]; decide) = old at *
        have hb2 := Lib.hid fun u => hb.setCell (p := ⟨g, 1, none⟩) (by have := HG.out; simp; omega) u
        have hcall := Lib.hid fun o' => (show Calls Tryd.prog 68 #[.pointer (some ⟨b, 0, none⟩), .int .i64 1, nv i, nv o] (wr.alloc o') (fun e w' => e = .returned (nv (Lk.blk l 1 i o)) ∧ wr.alloc o' = w') from hblk.out (wr.alloc o') (hb.alloc hbs o') 1 i o (by decide) hio.1 hio.2)
        clear gc gf gst hown hb
        generalize Lk.blk l 1 i o = bk at *
        rw [show nv 1 = .int .i64 1 from rfl]
        have hidx := run_widx1
        go_wp2_with fail
        (with_reducible refine (hcall.out _).mono ?_)
        rintro e w6 ⟨rfl, rfl⟩
        clear hcall
        go_wp2_with fail
        go_roundw
        case rel => (refine ⟨_, _, _, _, _, _, _, _, _, _, _, _, _, _, _, _, _, _, _, ?_, rfl⟩); exact ⟨2, by omega, by go_num, hset.out.alloc _, by have h := hb2.out (.int .i64 ((bk : Nat) : Int)); exact h.alloc h.size _⟩
        case measure => simp [intOf]
    · cases ho : o2 with
      | none =>
        subst ho
        have n0 : wcell none 0 = .int .i64 0 := rfl
        have n1 : wcell none 1 = .int .i64 0 := rfl
        have n2 : wcell none 2 = .bool false := rfl
        have hz := Lib.hid (WN.out 2 (Lk.waitOf_none O2.out))
        clear gc gf gst
        rw [show nv 2 = .int .i64 2 from rfl]
        have hidx := run_widx2
        go_wp2_with fail
        go_roundw
        case rel => exact ⟨3, by omega, by go_num, by rw [hz.out]; exact hown.alloc _, hb.alloc hbs _⟩
        case measure => simp [intOf]
      | some p =>
        subst ho
        obtain ⟨i, o⟩ := p
        have n0 : wcell (some (i, o)) 0 = nv i := rfl
        have n1 : wcell (some (i, o)) 1 = nv o := rfl
        have n2 : wcell (some (i, o)) 2 = .bool true := rfl
        have hio := hrng.out 2 i o O2.out
        have hset := Lib.hid (show Own ((wr.setCell ⟨g, 2, none⟩ (.int .i64 ((Lk.blk l 2 i o : Nat) : Int)))) w.heap.size (.slice (some ⟨g, 0, none⟩) 5 5) (zs (Lk.waitsTo l 3)) by
          have h := (Own.lit hown).2.2.2.2 2 ((Lk.blk l 2 i o : Nat) : Int)
          have e := WS.out 2
          rw [Lk.waitOf_some O2.out] at e
          rw [zs_set, e] at h
          exact h)
        have gk := gc 2 (by rw [length_zs, WL.out]; decide)
        have gfk := gf 2
        generalize (zs (Lk.waitsTo l 2))[2]'(by rw [length_zs, WL.out]; decide) = old at *
        have hb2 := Lib.hid fun u => hb.setCell (p := ⟨g, 2, none⟩) (by have := HG.out; simp; omega) u
        have hcall := Lib.hid fun o' => (show Calls Tryd.prog 68 #[.pointer (some ⟨b, 0, none⟩), .int .i64 2, nv i, nv o] (wr.alloc o') (fun e w' => e = .returned (nv (Lk.blk l 2 i o)) ∧ wr.alloc o' = w') from hblk.out (wr.alloc o') (hb.alloc hbs o') 2 i o (by decide) hio.1 hio.2)
        clear gc gf gst hown hb
        generalize Lk.blk l 2 i o = bk at *
        rw [show nv 2 = .int .i64 2 from rfl]
        have hidx := run_widx2
        go_wp2_with fail
        (with_reducible refine (hcall.out _).mono ?_)
        rintro e w6 ⟨rfl, rfl⟩
        clear hcall
        go_wp2_with fail
        go_roundw
        case rel => (refine ⟨_, _, _, _, _, _, _, _, _, _, _, _, _, _, _, _, _, _, _, ?_, rfl⟩); exact ⟨3, by omega, by go_num, hset.out.alloc _, by have h := hb2.out (.int .i64 ((bk : Nat) : Int)); exact h.alloc h.size _⟩
        case measure => simp [intOf]
    · cases ho : o3 with
      | none =>
        subst ho
        have n0 : wcell none 0 = .int .i64 0 := rfl
        have n1 : wcell none 1 = .int .i64 0 := rfl
        have n2 : wcell none 2 = .bool false := rfl
        have hz := Lib.hid (WN.out 3 (Lk.waitOf_none O3.out))
        clear gc gf gst
        rw [show nv 3 = .int .i64 3 from rfl]
        have hidx := run_widx3
        go_wp2_with fail
        go_roundw
        case rel => exact ⟨4, by omega, by go_num, by rw [hz.out]; exact hown.alloc _, hb.alloc hbs _⟩
        case measure => simp [intOf]
      | some p =>
        subst ho
        obtain ⟨i, o⟩ := p
        have n0 : wcell (some (i, o)) 0 = nv i := rfl
        have n1 : wcell (some (i, o)) 1 = nv o := rfl
        have n2 : wcell (some (i, o)) 2 = .bool true := rfl
        have hio := hrng.out 3 i o O3.out
        have hset := Lib.hid (show Own ((wr.setCell ⟨g, 3, none⟩ (.int .i64 ((Lk.blk l 3 i o : Nat) : Int)))) w.heap.size (.slice (some ⟨g, 0, none⟩) 5 5) (zs (Lk.waitsTo l 4)) by
          have h := (Own.lit hown).2.2.2.2 3 ((Lk.blk l 3 i o : Nat) : Int)
          have e := WS.out 3
          rw [Lk.waitOf_some O3.out] at e
          rw [zs_set, e] at h
          exact h)
        have gk := gc 3 (by rw [length_zs, WL.out]; decide)
        have gfk := gf 3
        generalize (zs (Lk.waitsTo l 3))[3]'(by rw [length_zs, WL.out]; decide) = old at *
        have hb2 := Lib.hid fun u => hb.setCell (p := ⟨g, 3, none⟩) (by have := HG.out; simp; omega) u
        have hcall := Lib.hid fun o' => (show Calls Tryd.prog 68 #[.pointer (some ⟨b, 0, none⟩), .int .i64 3, nv i, nv o] (wr.alloc o') (fun e w' => e = .returned (nv (Lk.blk l 3 i o)) ∧ wr.alloc o' = w') from hblk.out (wr.alloc o') (hb.alloc hbs o') 3 i o (by decide) hio.1 hio.2)
        clear gc gf gst hown hb
        generalize Lk.blk l 3 i o = bk at *
        rw [show nv 3 = .int .i64 3 from rfl]
        have hidx := run_widx3
        go_wp2_with fail
        (with_reducible refine (hcall.out _).mono ?_)
        rintro e w6 ⟨rfl, rfl⟩
        clear hcall
        go_wp2_with fail
        go_roundw
        case rel => (refine ⟨_, _, _, _, _, _, _, _, _, _, _, _, _, _, _, _, _, _, _, ?_, rfl⟩); exact ⟨4, by omega, by go_num, hset.out.alloc _, by have h := hb2.out (.int .i64 ((bk : Nat) : Int)); exact h.alloc h.size _⟩
        case measure => simp [intOf]
    · cases ho : o4 with
      | none =>
        subst ho
        have n0 : wcell none 0 = .int .i64 0 := rfl
        have n1 : wcell none 1 = .int .i64 0 := rfl
        have n2 : wcell none 2 = .bool false := rfl
        have hz := Lib.hid (WN.out 4 (Lk.waitOf_none O4.out))
        clear gc gf gst
        rw [show nv 4 = .int .i64 4 from rfl]
        have hidx := run_widx4
        go_wp2_with fail
        go_roundw
        case rel => exact ⟨5, by omega, by go_num, by rw [hz.out]; exact hown.alloc _, hb.alloc hbs _⟩
        case measure => simp [intOf]
      | some p =>
        subst ho
        obtain ⟨i, o⟩ := p
        have n0 : wcell (some (i, o)) 0 = nv i := rfl
        have n1 : wcell (some (i, o)) 1 = nv o := rfl
        have n2 : wcell (some (i, o)) 2 = .bool true := rfl
        have hio := hrng.out 4 i o O4.out
        have hset := Lib.hid (show Own ((wr.setCell ⟨g, 4, none⟩ (.int .i64 ((Lk.blk l 4 i o : Nat) : Int)))) w.heap.size (.slice (some ⟨g, 0, none⟩) 5 5) (zs (Lk.waitsTo l 5)) by
          have h := (Own.lit hown).2.2.2.2 4 ((Lk.blk l 4 i o : Nat) : Int)
          have e := WS.out 4
          rw [Lk.waitOf_some O4.out] at e
          rw [zs_set, e] at h
          exact h)
        have gk := gc 4 (by rw [length_zs, WL.out]; decide)
        have gfk := gf 4
        generalize (zs (Lk.waitsTo l 4))[4]'(by rw [length_zs, WL.out]; decide) = old at *
        have hb2 := Lib.hid fun u => hb.setCell (p := ⟨g, 4, none⟩) (by have := HG.out; simp; omega) u
        have hcall := Lib.hid fun o' => (show Calls Tryd.prog 68 #[.pointer (some ⟨b, 0, none⟩), .int .i64 4, nv i, nv o] (wr.alloc o') (fun e w' => e = .returned (nv (Lk.blk l 4 i o)) ∧ wr.alloc o' = w') from hblk.out (wr.alloc o') (hb.alloc hbs o') 4 i o (by decide) hio.1 hio.2)
        clear gc gf gst hown hb
        generalize Lk.blk l 4 i o = bk at *
        rw [show nv 4 = .int .i64 4 from rfl]
        have hidx := run_widx4
        go_wp2_with fail
        (with_reducible refine (hcall.out _).mono ?_)
        rintro e w6 ⟨rfl, rfl⟩
        clear hcall
        go_wp2_with fail
        go_roundw
        case rel => (refine ⟨_, _, _, _, _, _, _, _, _, _, _, _, _, _, _, _, _, _, _, ?_, rfl⟩); exact ⟨5, by omega, by go_num, hset.out.alloc _, by have h := hb2.out (.int .i64 ((bk : Nat) : Int)); exact h.alloc h.size _⟩
        case measure => simp [intOf]
    · rw [WA.out] at hown
      have HOWN := Lib.hid hown
      clear gc gf gst hown
      go_wp2_with fail
      go_ret
      exact ⟨_, rfl, HOWN.out, hb⟩
end Go.Proofs.YtkindaadadggoaaDoor
