/- The lock table in memory; contracts of lock.in, blockers. Conditions: each contract's own premises. (Printed by wip/gen/lockdo.py.) -/
import Derived.Test.YtkindaadadggoaaDoorLockM
import Derived.Test.YtkindaadadggoaaDoorObj
import Derived.Test.YtkindaadadggoaaDoorActMem
import Derived.Test.YtkindaadadggoaaDoorCore
import Derived.IntWalk
namespace Go.Proofs.YtkindaadadggoaaDoor
open Go.RowKit

/-- the cells of what one waits for -/
def wcell : Option (Nat × Nat) → Nat → Value
  | none, 0 => nv 0
  | none, 1 => nv 0
  | none, _ => .bool false
  | some p, 0 => nv p.1
  | some p, 1 => nv p.2
  | some _, _ => .bool true
/-- the cells of a table -/
def lcell (l : Lk.L) (v : Value) (j : Nat) : Value :=
  if j < 4 then nv (l.rdr.getD j 0) else if j < 8 then nv (l.wtr.getD (j - 4) 0) else if j = 8 then nv l.shr else if j < 24 then wcell (l.wants.getD ((j - 9) / 3) none) ((j - 9) % 3) else v
def TabAt (w : World) (b : Nat) (l : Lk.L) (v : Value) : Prop := w.rowIs b 118 25 (lcell l v) ∧ OwnA w (b + 1) v (Sch.zacts l.acts)

section
variable {w w' : World} {b : Nat} {l : Lk.L} {v : Value}
theorem TabAt.rd (h : TabAt w b l v) {i : Nat} (hi : i < 4) : w.cell? ⟨b, i, none⟩ = some (nv (l.rdr.getD i 0)) := by
  rw [h.1.cell (i := i) (by omega), lcell, if_pos hi]
theorem TabAt.wr (h : TabAt w b l v) {i : Nat} (hi : i < 4) : w.cell? ⟨b, 4 + i, none⟩ = some (nv (l.wtr.getD i 0)) := by
  rw [h.1.cell (i := 4 + i) (by omega), lcell, if_neg (by omega), if_pos (by omega), show 4 + i - 4 = i by omega]
theorem TabAt.shr (h : TabAt w b l v) : w.cell? ⟨b, 8, none⟩ = some (nv l.shr) := h.1.cell (i := 8) (by decide)
theorem TabAt.want (h : TabAt w b l v) {i j : Nat} (hi : i < 5) (hj : j < 3) : w.cell? ⟨b, 9 + i * 3 + j, none⟩ = some (wcell (l.wants.getD i none) j) := by
  rw [h.1.cell (i := 9 + i * 3 + j) (by omega), lcell, if_neg (by omega), if_neg (by omega), if_neg (by omega), if_pos (by omega), show (9 + i * 3 + j - 9) / 3 = i by omega, show (9 + i * 3 + j - 9) % 3 = j by omega]
theorem TabAt.acts (h : TabAt w b l v) : w.cell? ⟨b, 24, none⟩ = some v := h.1.cell (i := 24) (by decide)
theorem TabAt.alloc (h : TabAt w b l v) (o : Obj) : TabAt (w.alloc o) b l v := ⟨h.1.alloc o, h.2.alloc o⟩
theorem TabAt.drewN (h : TabAt w b l v) (n : Nat) : TabAt (w.drewN n) b l v := h
theorem TabAt.own (h : TabAt w b l v) : ∀ k, v.ownBlock = some k → b + 1 ≤ k ∧ k < w.heap.size := row_lt h.2
theorem TabAt.foot (h : TabAt w b l v) : ∀ k, Foot b v k → b ≤ k ∧ k < w.heap.size := by
  rintro k (rfl | hk)
  · exact ⟨Nat.le_refl _, h.1.lt⟩
  · have := h.own k hk; omega
theorem TabAt.only {S : Nat → Prop} (h : TabAt w b l v) (ho : Only S w w') (hS : ∀ k, Foot b v k → ¬ S k) : TabAt w' b l v :=
  ⟨row_only' h.1 ho (hS b (.inl rfl)), row_only h.2 ho (fun k hk => hS k (.inr hk))⟩
theorem TabAt.set {l' : Lk.L} (h : TabAt w b l v) (i : Nat) (x : Value) (he : l'.acts = l.acts) (hc : ∀ j, j < 25 → (if j = i then x else lcell l v j) = lcell l' v j) : TabAt (w.setCell ⟨b, i, none⟩ x) b l' v := by
  refine ⟨(h.1.set i x).congr hc, ?_⟩
  unfold OwnA
  rw [he]
  exact ownsRow_setCell_below h.2 (Nat.lt_succ_self b) x
theorem TabAt.rdSet (h : TabAt w b l v) (hl : l.rdr.length = 4) {i : Nat} (hi : i < 4) (x : Nat) : TabAt (w.setCell ⟨b, i, none⟩ (nv x)) b { l with rdr := l.rdr.set i x } v :=
  h.set i (nv x) rfl fun j hj => by
    unfold lcell
    by_cases e : j = i
    · subst e
      rw [if_pos rfl, if_pos hi, Sch.getD_set, if_pos ⟨rfl, by omega⟩]
    · rw [if_neg e]
      repeat' split
      all_goals first | rfl | omega | skip
      rw [Sch.getD_set, if_neg (by omega)]
theorem TabAt.wrSet (h : TabAt w b l v) (hl : l.wtr.length = 4) {i : Nat} (hi : i < 4) (x : Nat) : TabAt (w.setCell ⟨b, 4 + i, none⟩ (nv x)) b { l with wtr := l.wtr.set i x } v :=
  h.set (4 + i) (nv x) rfl fun j hj => by
    unfold lcell
    by_cases e : j = 4 + i
    · subst e
      rw [if_pos rfl, if_neg (by omega), if_pos (by omega), Sch.getD_set, if_pos ⟨by omega, by omega⟩]
    · rw [if_neg e]
      repeat' split
      all_goals first | rfl | omega | skip
      rw [Sch.getD_set, if_neg (by omega)]
theorem TabAt.shrSet (h : TabAt w b l v) (x : Nat) : TabAt (w.setCell ⟨b, 8, none⟩ (nv x)) b { l with shr := x } v :=
  h.set 8 (nv x) rfl fun j hj => by
    unfold lcell
    by_cases e : j = 8
    · subst e; rfl
    · rw [if_neg e]
      repeat' split
      all_goals first | rfl | omega
theorem getD_wset (m : List (Option (Nat × Nat))) (i j : Nat) (x : Option (Nat × Nat)) : (m.set i x).getD j none = if i = j ∧ i < m.length then x else m.getD j none := Sch.getD_set m i j x none
theorem TabAt.wantSet (h : TabAt w b l v) (hl : l.wants.length = 5) {i : Nat} (hi : i < 5) (x : Option (Nat × Nat)) :
    TabAt (((w.setCell ⟨b, 9 + i * 3, none⟩ (wcell x 0)).setCell ⟨b, 9 + i * 3 + 1, none⟩ (wcell x 1)).setCell ⟨b, 9 + i * 3 + 2, none⟩ (wcell x 2)) b { l with wants := l.wants.set i x } v := by
  refine ⟨(((h.1.set _ _).set _ _).set _ _).congr fun j hj => ?_, ?_⟩
  · unfold lcell
    by_cases e2 : j = 9 + i * 3 + 2
    · subst e2
      rw [if_pos rfl, if_neg (by omega), if_neg (by omega), if_neg (by omega), if_pos (by omega), getD_wset, show (9 + i * 3 + 2 - 9) / 3 = i by omega, show (9 + i * 3 + 2 - 9) % 3 = 2 by omega, if_pos ⟨rfl, by omega⟩]
    rw [if_neg e2]
    by_cases e1 : j = 9 + i * 3 + 1
    · subst e1
      rw [if_pos rfl, if_neg (by omega), if_neg (by omega), if_neg (by omega), if_pos (by omega), getD_wset, show (9 + i * 3 + 1 - 9) / 3 = i by omega, show (9 + i * 3 + 1 - 9) % 3 = 1 by omega, if_pos ⟨rfl, by omega⟩]
    rw [if_neg e1]
    by_cases e0 : j = 9 + i * 3
    · subst e0
      rw [if_pos rfl, if_neg (by omega), if_neg (by omega), if_neg (by omega), if_pos (by omega), getD_wset, show (9 + i * 3 - 9) / 3 = i by omega, show (9 + i * 3 - 9) % 3 = 0 by omega, if_pos ⟨rfl, by omega⟩]
    rw [if_neg e0]
    repeat' split
    all_goals first | rfl | omega | skip
    rw [getD_wset, if_neg (by omega)]
  · exact ownsRow_setCell_below (ownsRow_setCell_below (ownsRow_setCell_below h.2 (Nat.lt_succ_self b) _) (Nat.lt_succ_self b) _) (Nat.lt_succ_self b) _
theorem TabAt.actsSet {w1 : World} {v1 : Value} {t : List Sch.N3} (h : TabAt w b l v) (hb : Below (b + 1) w w1) (ho : OwnA w1 (b + 1) v1 (Sch.zacts t)) : TabAt (w1.setCell ⟨b, 24, none⟩ v1) b { l with acts := t } v1 := by
  have hr : w1.rowIs b 118 25 (lcell l v) := h.1.of_block (hb.block b (Nat.lt_succ_self b))
  refine ⟨(hr.set 24 v1).congr fun j hj => ?_, ?_⟩
  · unfold lcell
    by_cases e : j = 24
    · subst e; rfl
    · rw [if_neg e]
      repeat' split
      all_goals first | rfl | omega
  · exact ownsRow_setCell_below ho (Nat.lt_succ_self b) v1
end
/-- behind a method: the table, and all else as it was -/
def TabTo (w : World) (b : Nat) (v : Value) (l : Lk.L) (w' : World) : Prop := ∃ v', TabAt w' b l v' ∧ Only (Foot b v) w w' ∧ ∀ k, Foot b v' k → Foot b v k ∨ w.heap.size ≤ k
theorem TabTo.same {w : World} {b : Nat} {l : Lk.L} {v : Value} (h : TabAt w b l v) (o o' : Obj) (n : Nat) : TabTo w b v l (((w.alloc o).alloc o').drewN n) :=
  ⟨v, ((h.alloc o).alloc o').drewN n, (((Only.refl _ _).alloc o).alloc o').drewN n, fun _ hk => .inl hk⟩

theorem bits_and_shl (x j : Nat) (hx : x < 2 ^ 63) (hj : j < 62) : bits .and .i64 (x : Int) (wrap64 (2 ^ j)) = ((x &&& 2 ^ j : Nat) : Int) := by
  have h1 : 2 ^ j < 2 ^ 62 := Nat.pow_lt_pow_right (by omega) hj
  have : (2 : Int) ^ j = ((2 ^ j : Nat) : Int) := by rw [Int.natCast_pow]; rfl
  rw [wrap_two_pow j hj, this]
  exact bits_and _ _ hx (by omega)
theorem bits_andNot_shl (x j : Nat) (hx : x < 2 ^ 63) (hj : j < 62) : bits .andNot .i64 (x : Int) (wrap64 (2 ^ j)) = ((Odr.diff x (2 ^ j) : Nat) : Int) := by
  have h1 : 2 ^ j < 2 ^ 62 := Nat.pow_lt_pow_right (by omega) hj
  have : (2 : Int) ^ j = ((2 ^ j : Nat) : Int) := by rw [Int.natCast_pow]; rfl
  rw [wrap_two_pow j hj, this]
  exact bits_andNot _ _ hx (by omega)
theorem and_pow (x j : Nat) : x &&& 2 ^ j = if x.testBit j = true then 2 ^ j else 0 := by
  apply Nat.eq_of_testBit_eq
  intro i
  rw [Nat.testBit_and, Nat.testBit_two_pow]
  by_cases h : j = i
  · subst h
    split
    · rename_i hb; rw [hb, Nat.testBit_two_pow]; simp
    · rename_i hb
      have : x.testBit j = false := by simpa using hb
      rw [this, Nat.zero_testBit]; rfl
  · have : decide (j = i) = false := by simpa using h
    rw [this]
    split
    · rw [Nat.testBit_two_pow, this]; simp
    · rw [Nat.zero_testBit]; simp

section
variable (l : Lk.L) (b : Nat) (v : Value) (w : World)
set_option maxRecDepth 20000 in
set_option maxHeartbeats 1000000 in
theorem blk_00 (tx it : Nat) (h : TabAt w b l v) (hI : Lk.Inv l) (a1 : tx < 5) (a2 : it < 4) (hw : l.wtr.getD it 0 = 0) :
    Calls Tryd.prog 68 #[.pointer (some ⟨b, 0, none⟩), nv tx, nv it, .int .i64 0] w fun e w' => e = .returned (nv (Lk.blk l tx it 0)) ∧ w = w' := by
  have hr32 : l.rdr.getD it 0 < 32 := hI.2.2.2.2.1 it
  have hw5 : l.wtr.getD it 0 ≤ 5 := hI.2.2.2.2.2.1 it
  have h1 := h.wr a2
  have h2 := h.rd a2
  have hw0 : l.wtr.getD it 0 = 0 := hw
  rw [hw0] at h1
  have heq : Lk.blk l tx it 0 = Odr.diff (0) (2 ^ tx) := by
    unfold Lk.blk Lk.wbit
    rw [hw0, if_neg (by omega)]
    simp
  have hlt : (0) < 2 ^ 62 := by omega
  have o3 := bits_andNot_shl (0) tx (by omega) (by omega)
  rw [heq]
  rw [show ((0 : Nat) : Int) = 0 from rfl] at o3
  clear h hI hw heq hlt
  generalize Odr.diff (0) (2 ^ tx) = res at *
  skip
  generalize l.rdr.getD it 0 = rv at *
  go_enter Tryd.func68, Tryd.ntmps68
  go_wp2_with fail
  go_ret
  exact ⟨rfl, rfl⟩
set_option maxRecDepth 20000 in
set_option maxHeartbeats 1000000 in
theorem blk_01 (tx it : Nat) (h : TabAt w b l v) (hI : Lk.Inv l) (a1 : tx < 5) (a2 : it < 4) (hw : l.wtr.getD it 0 = 0) :
    Calls Tryd.prog 68 #[.pointer (some ⟨b, 0, none⟩), nv tx, nv it, .int .i64 1] w fun e w' => e = .returned (nv (Lk.blk l tx it 1)) ∧ w = w' := by
  have hr32 : l.rdr.getD it 0 < 32 := hI.2.2.2.2.1 it
  have hw5 : l.wtr.getD it 0 ≤ 5 := hI.2.2.2.2.2.1 it
  have h1 := h.wr a2
  have h2 := h.rd a2
  have hw0 : l.wtr.getD it 0 = 0 := hw
  rw [hw0] at h1
  have o2 := bits_or 0 (l.rdr.getD it 0) (by omega) (by omega)
  rw [Nat.zero_or] at o2
  simp only [Int.natCast_zero] at o2
  have heq : Lk.blk l tx it 1 = Odr.diff (l.rdr.getD it 0) (2 ^ tx) := by
    unfold Lk.blk Lk.wbit
    rw [hw0, if_neg (by omega)]
    simp
  have hlt : (l.rdr.getD it 0) < 2 ^ 62 := by omega
  have o3 := bits_andNot_shl (l.rdr.getD it 0) tx (by omega) (by omega)
  rw [heq]
  clear h hI hw heq hlt
  generalize Odr.diff (l.rdr.getD it 0) (2 ^ tx) = res at *
  skip
  generalize l.rdr.getD it 0 = rv at *
  go_enter Tryd.func68, Tryd.ntmps68
  go_wp2_with fail
  go_ret
  exact ⟨rfl, rfl⟩
set_option maxRecDepth 20000 in
set_option maxHeartbeats 1000000 in
theorem blk_10 (tx it : Nat) (h : TabAt w b l v) (hI : Lk.Inv l) (a1 : tx < 5) (a2 : it < 4) (hw : 0 < l.wtr.getD it 0) :
    Calls Tryd.prog 68 #[.pointer (some ⟨b, 0, none⟩), nv tx, nv it, .int .i64 0] w fun e w' => e = .returned (nv (Lk.blk l tx it 0)) ∧ w = w' := by
  have hr32 : l.rdr.getD it 0 < 32 := hI.2.2.2.2.1 it
  have hw5 : l.wtr.getD it 0 ≤ 5 := hI.2.2.2.2.2.1 it
  have h1 := h.wr a2
  have h2 := h.rd a2
  obtain ⟨y, hy⟩ : ∃ y, l.wtr.getD it 0 = y + 1 := ⟨l.wtr.getD it 0 - 1, by omega⟩
  have hy5 : y < 5 := by omega
  rw [hy, show nv (y + 1) = .int .i64 ((y : Int) + 1) from rfl] at h1
  have o1 := bits_or_shl 0 y (by omega) (by omega)
  rw [Nat.zero_or] at o1
  simp only [Int.natCast_zero] at o1
  have heq : Lk.blk l tx it 0 = Odr.diff (2 ^ y) (2 ^ tx) := by
    unfold Lk.blk Lk.wbit
    rw [hy, if_pos (Nat.succ_pos y), Nat.add_sub_cancel]
    simp
  have hlt : (2 ^ y) < 2 ^ 62 := Nat.pow_lt_pow_right (by omega) (by omega)
  have o3 := bits_andNot_shl (2 ^ y) tx (by omega) (by omega)
  rw [heq]
  clear h hI hw heq hlt
  generalize Odr.diff (2 ^ y) (2 ^ tx) = res at *
  generalize 2 ^ y = q at *
  generalize l.rdr.getD it 0 = rv at *
  go_enter Tryd.func68, Tryd.ntmps68
  go_wp2_with fail
  go_ret
  exact ⟨rfl, rfl⟩
set_option maxRecDepth 20000 in
set_option maxHeartbeats 1000000 in
theorem blk_11 (tx it : Nat) (h : TabAt w b l v) (hI : Lk.Inv l) (a1 : tx < 5) (a2 : it < 4) (hw : 0 < l.wtr.getD it 0) :
    Calls Tryd.prog 68 #[.pointer (some ⟨b, 0, none⟩), nv tx, nv it, .int .i64 1] w fun e w' => e = .returned (nv (Lk.blk l tx it 1)) ∧ w = w' := by
  have hr32 : l.rdr.getD it 0 < 32 := hI.2.2.2.2.1 it
  have hw5 : l.wtr.getD it 0 ≤ 5 := hI.2.2.2.2.2.1 it
  have h1 := h.wr a2
  have h2 := h.rd a2
  obtain ⟨y, hy⟩ : ∃ y, l.wtr.getD it 0 = y + 1 := ⟨l.wtr.getD it 0 - 1, by omega⟩
  have hy5 : y < 5 := by omega
  rw [hy, show nv (y + 1) = .int .i64 ((y : Int) + 1) from rfl] at h1
  have o1 := bits_or_shl 0 y (by omega) (by omega)
  rw [Nat.zero_or] at o1
  simp only [Int.natCast_zero] at o1
  have o2 := bits_or (2 ^ y) (l.rdr.getD it 0) (by have := Nat.pow_lt_pow_right (a := 2) (by omega) (show y < 60 by omega); omega) (by omega)
  have heq : Lk.blk l tx it 1 = Odr.diff (2 ^ y ||| l.rdr.getD it 0) (2 ^ tx) := by
    unfold Lk.blk Lk.wbit
    rw [hy, if_pos (Nat.succ_pos y), Nat.add_sub_cancel]
    simp
  have hlt : (2 ^ y ||| l.rdr.getD it 0) < 2 ^ 62 := Nat.or_lt_two_pow (Nat.pow_lt_pow_right (by omega) (by omega)) (by omega)
  have o3 := bits_andNot_shl (2 ^ y ||| l.rdr.getD it 0) tx (by omega) (by omega)
  rw [heq]
  clear h hI hw heq hlt
  generalize Odr.diff (2 ^ y ||| l.rdr.getD it 0) (2 ^ tx) = res at *
  generalize 2 ^ y ||| l.rdr.getD it 0 = q2 at *
  generalize 2 ^ y = q at *
  generalize l.rdr.getD it 0 = rv at *
  go_enter Tryd.func68, Tryd.ntmps68
  go_wp2_with fail
  go_ret
  exact ⟨rfl, rfl⟩
theorem blk_calls (tx it own : Nat) (h : TabAt w b l v) (hI : Lk.Inv l) (a1 : tx < 5) (a2 : it < 4) (a3 : own < 2) :
    Calls Tryd.prog 68 #[.pointer (some ⟨b, 0, none⟩), nv tx, nv it, nv own] w fun e w' => e = .returned (nv (Lk.blk l tx it own)) ∧ w = w' := by
  have h0 : own = 0 ∨ own = 1 := by omega
  rcases Nat.eq_zero_or_pos (l.wtr.getD it 0) with hw | hw
  · rcases h0 with rfl | rfl
    · exact blk_00 l b v w tx it h hI a1 a2 hw
    · exact blk_01 l b v w tx it h hI a1 a2 hw
  · rcases h0 with rfl | rfl
    · exact blk_10 l b v w tx it h hI a1 a2 hw
    · exact blk_11 l b v w tx it h hI a1 a2 hw
end
end Go.Proofs.YtkindaadadggoaaDoor
