/- Contract of view.Committed. Conditions: the contract's own premises. -/
import Derived.Test.YtkindaadadggoaaDoorVAll
import Derived.Deep.MidRow
namespace Go.Proofs.YtkindaadadggoaaDoor
open Go.RowKit

namespace Vw
open Odr
/-- the committed ones of the first k, as a set -/
def comTo (v : V) : Nat → Nat
  | 0 => 0
  | k + 1 => if (tx v k).ph = 2 then comTo v k ||| 2 ^ k else comTo v k
def com (v : V) : Nat := comTo v 5
theorem testBit_comTo (v : V) (k x : Nat) : (comTo v k).testBit x = (decide (x < k) && decide ((tx v x).ph = 2)) := by
  induction k with
  | zero => simp [comTo]
  | succ k ih =>
    rw [comTo]
    split
    · rename_i h
      rw [Nat.testBit_or, ih, Nat.testBit_two_pow]
      by_cases e : k = x
      · subst e; simp [h]
      · have e2 : (x < k + 1) = (x < k) := by rw [eq_iff_iff]; omega
        simp [e, e2]
    · rename_i h
      rw [ih]
      by_cases e : x = k
      · subst e; simp [h]
      · have e2 : (x < k + 1) = (x < k) := by rw [eq_iff_iff]; omega
        simp [e2]
theorem comTo_lt (v : V) (k : Nat) : comTo v k < 2 ^ k := by
  induction k with
  | zero => simp [comTo]
  | succ k ih =>
    rw [comTo]
    have h1 : comTo v k < 2 ^ (k + 1) := by rw [Nat.pow_succ]; omega
    split
    · exact Nat.or_lt_two_pow h1 (Nat.pow_lt_pow_right (by omega) (by omega))
    · exact h1
end Vw
/-- the cells of all transactions -/
def txcells (v : Vw.V) : List Value := (List.range 45).map fun j => tcell (Vw.tx v (j / 9)) (j % 9)
theorem StAt.range {w : World} {b : Nat} {v : Vw.V} {vs : Nat → Value} (h : StAt w b v vs) : w.rangeAt b 1 (txcells v) := by
  intro j u hu
  have hj : j < 45 := by
    have := (List.getElem?_eq_some_iff.1 hu).1
    simpa [txcells] using this
  have := h.1.cell (i := 1 + j) (by omega)
  rw [vcell, if_neg (by omega), if_pos (by omega), show 1 + j - 1 = j by omega] at this
  rw [this]
  unfold txcells at hu
  rw [List.getElem?_map, List.getElem?_range hj] at hu
  exact hu
def tagg (t : Vw.T) : Value := .agg #[nv t.ph, nv t.bg, nv t.en, nv t.rds, nv t.wrt, iv (t.frm.getD 0 0), iv (t.frm.getD 1 0), iv (t.frm.getD 2 0), iv (t.frm.getD 3 0)]
set_option maxRecDepth 100000 in
theorem run_txidx0 (v : Vw.V) (w : World) : (Instr.index 100 (.agg (txcells v).toArray) (.int .i64 0)).run Tryd.prog w = .ok (tagg (Vw.tx v 0)) w := rfl
set_option maxRecDepth 100000 in
theorem run_txidx1 (v : Vw.V) (w : World) : (Instr.index 100 (.agg (txcells v).toArray) (.int .i64 1)).run Tryd.prog w = .ok (tagg (Vw.tx v 1)) w := rfl
set_option maxRecDepth 100000 in
theorem run_txidx2 (v : Vw.V) (w : World) : (Instr.index 100 (.agg (txcells v).toArray) (.int .i64 2)).run Tryd.prog w = .ok (tagg (Vw.tx v 2)) w := rfl
set_option maxRecDepth 100000 in
theorem run_txidx3 (v : Vw.V) (w : World) : (Instr.index 100 (.agg (txcells v).toArray) (.int .i64 3)).run Tryd.prog w = .ok (tagg (Vw.tx v 3)) w := rfl
set_option maxRecDepth 100000 in
theorem run_txidx4 (v : Vw.V) (w : World) : (Instr.index 100 (.agg (txcells v).toArray) (.int .i64 4)).run Tryd.prog w = .ok (tagg (Vw.tx v 4)) w := rfl

set_option maxRecDepth 20000 in
set_option maxHeartbeats 2000000 in
theorem vcommitted_calls (v : Vw.V) (b : Nat) (vs : Nat → Value) (w : World) (h : StAt w b v vs) :
    Calls Tryd.prog 30 #[.pointer (some ⟨b, 0, none⟩)] w fun e w' => e = .returned (nv (Vw.com v)) ∧ Below w.heap.size w w' := by
  have HR := Lib.hid h.range
  have HB := h.1.lt
  have HU := Lib.hid (show (Tryd.prog.info? 100).map (·.size) = some (txcells v).length from by
    rw [show (txcells v).length = 45 by simp [txcells]]
    kernel_rfl)
  clear h
  go_enter Tryd.func30, Tryd.ntmps30
  go_wp2_with (refine wpList_load_mid rfl 100 _ rfl b 1 rfl (txcells v) _ HR.out Tryd.underlying100 rfl HU.out ?_; generalize hcs : (txcells v).toArray = cs; have HCS := Lib.hid hcs; clear hcs)
  go_loopw [3, 10] (fun st kv wr => ∃ k : Nat, k ≤ 5 ∧ st = nv (Vw.comTo v k) ∧ kv = nv k ∧ Below w.heap.size w wr) (fun _ kv _ => 5 - (intOf kv).toNat)
  case atStart => exact ⟨0, by omega, rfl, rfl, Below.refl _ _⟩
  case round =>
    obtain ⟨k, hk, rfl, rfl, hb⟩ := hrel
    have hcase : k = 0 ∨ k = 1 ∨ k = 2 ∨ k = 3 ∨ k = 4 ∨ k = 5 := by omega
    rcases hcase with rfl | rfl | rfl | rfl | rfl | rfl
    · have hidx : ∀ w5 : World, (Instr.index 100 (.agg cs) (.int .i64 0)).run Tryd.prog w5 = .ok (tagg (Vw.tx v 0)) w5 := fun w5 => by rw [← HCS.out]; exact run_txidx0 v w5
      unfold tagg at hidx
      rw [show nv 0 = .int .i64 0 from rfl]
      have hco := Lib.hid (show Vw.comTo v 1 = if (Vw.tx v 0).ph = 2 then Vw.comTo v 0 ||| 2 ^ 0 else Vw.comTo v 0 from rfl)
      have hlt := Vw.comTo_lt v 0
      have hor := bits_or (Vw.comTo v 0) (2 ^ 0) (by omega) (by decide)
      generalize Vw.comTo v 0 = c at *
      by_cases hp : (Vw.tx v 0).ph = 2
      · have hco' := Lib.hid (hco.out.trans (if_pos hp))
        have t1 : (((Vw.tx v 0).ph : Int) == 2) = true := by rw [hp]; rfl
        generalize Vw.tx v 0 = t at *
        clear hco hp
        go_wp2_with fail
        go_roundw
        case rel => exact ⟨1, by omega, by rw [hco'.out]; exact congrArg (Value.int .i64) (by simpa using hor), rfl, hb.alloc hb.size _⟩
        case measure => simp [intOf]
      · have hco' := Lib.hid (hco.out.trans (if_neg hp))
        have t1 : (((Vw.tx v 0).ph : Int) == 2) = false := by simp; omega
        generalize Vw.tx v 0 = t at *
        clear hco hp
        go_wp2_with fail
        go_roundw
        case rel => exact ⟨1, by omega, by rw [hco'.out], rfl, hb.alloc hb.size _⟩
        case measure => simp [intOf]
    · have hidx : ∀ w5 : World, (Instr.index 100 (.agg cs) (.int .i64 1)).run Tryd.prog w5 = .ok (tagg (Vw.tx v 1)) w5 := fun w5 => by rw [← HCS.out]; exact run_txidx1 v w5
      unfold tagg at hidx
      rw [show nv 1 = .int .i64 1 from rfl]
      have hco := Lib.hid (show Vw.comTo v 2 = if (Vw.tx v 1).ph = 2 then Vw.comTo v 1 ||| 2 ^ 1 else Vw.comTo v 1 from rfl)
      have hlt := Vw.comTo_lt v 1
      have hor := bits_or (Vw.comTo v 1) (2 ^ 1) (by omega) (by decide)
      generalize Vw.comTo v 1 = c at *
      by_cases hp : (Vw.tx v 1).ph = 2
      · have hco' := Lib.hid (hco.out.trans (if_pos hp))
        have t1 : (((Vw.tx v 1).ph : Int) == 2) = true := by rw [hp]; rfl
        generalize Vw.tx v 1 = t at *
        clear hco hp
        go_wp2_with fail
        go_roundw
        case rel => exact ⟨2, by omega, by rw [hco'.out]; exact congrArg (Value.int .i64) (by simpa using hor), rfl, hb.alloc hb.size _⟩
        case measure => simp [intOf]
      · have hco' := Lib.hid (hco.out.trans (if_neg hp))
        have t1 : (((Vw.tx v 1).ph : Int) == 2) = false := by simp; omega
        generalize Vw.tx v 1 = t at *
        clear hco hp
        go_wp2_with fail
        go_roundw
        case rel => exact ⟨2, by omega, by rw [hco'.out], rfl, hb.alloc hb.size _⟩
        case measure => simp [intOf]
    · have hidx : ∀ w5 : World, (Instr.index 100 (.agg cs) (.int .i64 2)).run Tryd.prog w5 = .ok (tagg (Vw.tx v 2)) w5 := fun w5 => by rw [← HCS.out]; exact run_txidx2 v w5
      unfold tagg at hidx
      rw [show nv 2 = .int .i64 2 from rfl]
      have hco := Lib.hid (show Vw.comTo v 3 = if (Vw.tx v 2).ph = 2 then Vw.comTo v 2 ||| 2 ^ 2 else Vw.comTo v 2 from rfl)
      have hlt := Vw.comTo_lt v 2
      have hor := bits_or (Vw.comTo v 2) (2 ^ 2) (by omega) (by decide)
      generalize Vw.comTo v 2 = c at *
      by_cases hp : (Vw.tx v 2).ph = 2
      · have hco' := Lib.hid (hco.out.trans (if_pos hp))
        have t1 : (((Vw.tx v 2).ph : Int) == 2) = true := by rw [hp]; rfl
        generalize Vw.tx v 2 = t at *
        clear hco hp
        go_wp2_with fail
        go_roundw
        case rel => exact ⟨3, by omega, by rw [hco'.out]; exact congrArg (Value.int .i64) (by simpa using hor), rfl, hb.alloc hb.size _⟩
        case measure => simp [intOf]
      · have hco' := Lib.hid (hco.out.trans (if_neg hp))
        have t1 : (((Vw.tx v 2).ph : Int) == 2) = false := by simp; omega
        generalize Vw.tx v 2 = t at *
        clear hco hp
        go_wp2_with fail
        go_roundw
        case rel => exact ⟨3, by omega, by rw [hco'.out], rfl, hb.alloc hb.size _⟩
        case measure => simp [intOf]
    · have hidx : ∀ w5 : World, (Instr.index 100 (.agg cs) (.int .i64 3)).run Tryd.prog w5 = .ok (tagg (Vw.tx v 3)) w5 := fun w5 => by rw [← HCS.out]; exact run_txidx3 v w5
      unfold tagg at hidx
      rw [show nv 3 = .int .i64 3 from rfl]
      have hco := Lib.hid (show Vw.comTo v 4 = if (Vw.tx v 3).ph = 2 then Vw.comTo v 3 ||| 2 ^ 3 else Vw.comTo v 3 from rfl)
      have hlt := Vw.comTo_lt v 3
      have hor := bits_or (Vw.comTo v 3) (2 ^ 3) (by omega) (by decide)
      generalize Vw.comTo v 3 = c at *
      by_cases hp : (Vw.tx v 3).ph = 2
      · have hco' := Lib.hid (hco.out.trans (if_pos hp))
        have t1 : (((Vw.tx v 3).ph : Int) == 2) = true := by rw [hp]; rfl
        generalize Vw.tx v 3 = t at *
        clear hco hp
        go_wp2_with fail
        go_roundw
        case rel => exact ⟨4, by omega, by rw [hco'.out]; exact congrArg (Value.int .i64) (by simpa using hor), rfl, hb.alloc hb.size _⟩
        case measure => simp [intOf]
      · have hco' := Lib.hid (hco.out.trans (if_neg hp))
        have t1 : (((Vw.tx v 3).ph : Int) == 2) = false := by simp; omega
        generalize Vw.tx v 3 = t at *
        clear hco hp
        go_wp2_with fail
        go_roundw
        case rel => exact ⟨4, by omega, by rw [hco'.out], rfl, hb.alloc hb.size _⟩
        case measure => simp [intOf]
    · have hidx : ∀ w5 : World, (Instr.index 100 (.agg cs) (.int .i64 4)).run Tryd.prog w5 = .ok (tagg (Vw.tx v 4)) w5 := fun w5 => by rw [← HCS.out]; exact run_txidx4 v w5
      unfold tagg at hidx
      rw [show nv 4 = .int .i64 4 from rfl]
      have hco := Lib.hid (show Vw.comTo v 5 = if (Vw.tx v 4).ph = 2 then Vw.comTo v 4 ||| 2 ^ 4 else Vw.comTo v 4 from rfl)
      have hlt := Vw.comTo_lt v 4
      have hor := bits_or (Vw.comTo v 4) (2 ^ 4) (by omega) (by decide)
      generalize Vw.comTo v 4 = c at *
      by_cases hp : (Vw.tx v 4).ph = 2
      · have hco' := Lib.hid (hco.out.trans (if_pos hp))
        have t1 : (((Vw.tx v 4).ph : Int) == 2) = true := by rw [hp]; rfl
        generalize Vw.tx v 4 = t at *
        clear hco hp
        go_wp2_with fail
        go_roundw
        case rel => exact ⟨5, by omega, by rw [hco'.out]; exact congrArg (Value.int .i64) (by simpa using hor), rfl, hb.alloc hb.size _⟩
        case measure => simp [intOf]
      · have hco' := Lib.hid (hco.out.trans (if_neg hp))
        have t1 : (((Vw.tx v 4).ph : Int) == 2) = false := by simp; omega
        generalize Vw.tx v 4 = t at *
        clear hco hp
        go_wp2_with fail
        go_roundw
        case rel => exact ⟨5, by omega, by rw [hco'.out], rfl, hb.alloc hb.size _⟩
        case measure => simp [intOf]
    · have hc := Lib.hid (show Vw.comTo v 5 = Vw.com v from rfl)
      go_wp2_with fail
      go_ret
      exact ⟨by rw [← hc.out]; rfl, hb⟩
end Go.Proofs.YtkindaadadggoaaDoor
