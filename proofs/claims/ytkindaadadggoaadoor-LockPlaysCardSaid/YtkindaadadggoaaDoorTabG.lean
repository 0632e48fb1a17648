/- Contracts of lock's Do: an act. Conditions: each contract's own premises. (Printed by wip/gen/lockdo.py.) -/
import Derived.Test.YtkindaadadggoaaDoorTabF
import Derived.Deep.RegionLaw
import Derived.Deep.AppendLies
namespace Go.Proofs.YtkindaadadggoaaDoor
open Go.RowKit

theorem tab_done {w wA w1 : World} {b n : Nat} {l : Lk.L} {v d0 d1 d2 d3 : Value} {a : Sch.N3} {o : Obj} {gg cap : Nat} (hT : Mid w b l v d0 d1 d2 d3 wA) (hn : l.acts.length = n) (hgrow : (wA.alloc o).drew.grownBy w1 v.ownBlock)
    (hown : w1.ownsRow (b + 1) 28 3 (.slice (some ⟨gg, 0, none⟩) (n + 1) cap) (n + 1) (acells (Sch.zacts l.acts) ++ [nv a.1, nv a.2.1, nv a.2.2])) (hat : v.ownBlock = some gg ∨ gg = wA.heap.size + 1) :
    TabTo w b v { l with acts := l.acts ++ [a] } (w1.setCell ⟨b, 24, none⟩ (.slice (some ⟨gg, 0, none⟩) (n + 1) cap)) := by
  obtain ⟨h1, h2, h3, _⟩ := hT
  have hlt := h1.1.lt
  have hb : Below (b + 1) wA w1 := (((Below.refl (b + 1) wA).alloc (by omega) o).drew).grown hgrow (by simp; omega) (fun k hk => (h1.own k hk).1)
  have ho : OwnA w1 (b + 1) (.slice (some ⟨gg, 0, none⟩) (n + 1) cap) (Sch.zacts (l.acts ++ [a])) := by
    unfold OwnA
    rw [Sch.length_zacts, List.length_append, hn, show Sch.zacts (l.acts ++ [a]) = Sch.zacts l.acts ++ [Sch.z3 a] from List.map_append, show acells (Sch.zacts l.acts ++ [Sch.z3 a]) = acells (Sch.zacts l.acts) ++ acells [Sch.z3 a] from List.flatMap_append]
    exact hown
  refine ⟨_, h1.actsSet hb ho, ?_, fun k hk => ?_⟩
  · exact ((((h2.alloc o).drew).grown hgrow (fun k hk => .inl (.inr hk))).setCell (.inl (.inl rfl)) _)
  · rcases hk with rfl | hk
    · exact .inl (.inl rfl)
    · cases hk
      rcases hat with g1 | g1
      · exact .inl (.inr g1)
      · exact .inr (by show w.heap.size ≤ gg; omega)

set_option maxRecDepth 20000 in
set_option maxHeartbeats 2000000 in
theorem ldo_do_no1 (l : Lk.L) (tx it : Nat) (b : Nat) (v : Value) (w : World) (h : TabAt w b l v) (hI : Lk.Inv l) (a1 : tx < 5) (a2 : it < 4) (hmn : l.wtr.getD it 0 ≠ tx + 1) :
    Calls Tryd.prog 34 #[.pointer (some ⟨b, 0, none⟩), .agg #[.int .i64 3, nv tx, nv it, .int .i64 1]] w fun e w' => e = .returned (.iface 93 (.int .i64 5)) ∧ TabTo w b v l w' := by
  have hr32 : l.rdr.getD it 0 < 32 := hI.2.2.2.2.1 it
  have hw5 : l.wtr.getD it 0 ≤ 5 := hI.2.2.2.2.2.1 it
  have hs32 : l.shr < 32 := hI.2.2.2.1
  have hl24 : l.acts.length ≤ 24 := hI.2.2.2.2.2.2.1
  obtain ⟨A, cap, rfl⟩ := Rd.val h.2.acts
  rw [Sch.length_zacts] at h ⊢
  have H := Lib.hid h
  have HB := h.1.lt
  have h0 := (h.alloc (.cells #[.int .i64 3, nv tx, nv it, .int .i64 1] 49)).alloc (.cells #[.int .i64 3, nv tx, nv it, .int .i64 1] 49)
  have hin := Lib.hid fun w5 => (show Calls Tryd.prog 67 #[.agg #[.int .i64 3, nv tx, nv it, .int .i64 1]] w5 (fun e w' => e = .returned (.bool true) ∧ w5.alloc (.cells #[.int .i64 3, nv tx, nv it, .int .i64 1] 49) = w') from in_ok 3 tx it 1 w5 (by decide) a1 a2 (by omega))
  have i1 : (0 : Int) ≤ (tx : Int) := by omega
  have i2 : (tx : Int) < 5 := by omega
  have i3 : (0 : Int) ≤ (it : Int) := by omega
  have i4 : (it : Int) < 4 := by omega
  have g1 := h0.shr
  have g2 := h0.acts
  have g3 := h0.wr a2
  have g4 := h0.rd a2
  have hown0 := Lib.hid (show (Value.slice A l.acts.length cap).ownBlock ≠ some w.heap.size from fun e => by have := (h.own _ e).2; omega)
  have HM := Lib.hid fun n => mid_of h (Only.refl _ w) rfl 49 (.cells #[.int .i64 3, nv tx, nv it, .int .i64 1] 49) n (d0 := .int .i64 3) (d1 := nv tx) (d2 := nv it) (d3 := .int .i64 1)
  have t1 : (((l.wtr.getD it 0 : Nat) : Int) == (tx : Int) + 1) = false := beq_eq_false_iff_ne.2 (by omega)
  generalize hrv : l.rdr.getD it 0 = rv at *
  generalize hwv : l.wtr.getD it 0 = wv at *
  generalize hnn : l.acts.length = n at *
  have HN := Lib.hid hnn
  have e1 : IntKind.i64.wrap ((tx : Int) + 1) = (tx : Int) + 1 := IntWalk.i64_in _ (by constructor <;> omega)
  clear h h0 hI hrv hwv hnn hmn
  go_enter Tryd.func34, Tryd.ntmps34
  go_wp2_with fail
  (with_reducible refine (hin.out _).mono ?_)
  rintro e w5 ⟨rfl, rfl⟩
  clear hin
  go_wp2_with fail
  go_quiet (fail)
  clear e1
  go_wp2_with fail
  go_quiet (fail)
  go_wp2_with fail
  go_ret
  exact ⟨rfl, by first | exact TabTo.same H.out _ _ 0 | exact TabTo.same H.out _ _ _⟩

set_option maxRecDepth 20000 in
set_option maxHeartbeats 2000000 in
theorem ldo_do_no0 (l : Lk.L) (tx it : Nat) (b : Nat) (v : Value) (w : World) (h : TabAt w b l v) (hI : Lk.Inv l) (a1 : tx < 5) (a2 : it < 4) (hs : (l.rdr.getD it 0).testBit tx = false) (hmn : l.wtr.getD it 0 ≠ tx + 1) :
    Calls Tryd.prog 34 #[.pointer (some ⟨b, 0, none⟩), .agg #[.int .i64 3, nv tx, nv it, .int .i64 0]] w fun e w' => e = .returned (.iface 93 (.int .i64 5)) ∧ TabTo w b v l w' := by
  have hr32 : l.rdr.getD it 0 < 32 := hI.2.2.2.2.1 it
  have hw5 : l.wtr.getD it 0 ≤ 5 := hI.2.2.2.2.2.1 it
  have hs32 : l.shr < 32 := hI.2.2.2.1
  have hl24 : l.acts.length ≤ 24 := hI.2.2.2.2.2.2.1
  obtain ⟨A, cap, rfl⟩ := Rd.val h.2.acts
  rw [Sch.length_zacts] at h ⊢
  have H := Lib.hid h
  have HB := h.1.lt
  have h0 := (h.alloc (.cells #[.int .i64 3, nv tx, nv it, .int .i64 0] 49)).alloc (.cells #[.int .i64 3, nv tx, nv it, .int .i64 0] 49)
  have hin := Lib.hid fun w5 => (show Calls Tryd.prog 67 #[.agg #[.int .i64 3, nv tx, nv it, .int .i64 0]] w5 (fun e w' => e = .returned (.bool true) ∧ w5.alloc (.cells #[.int .i64 3, nv tx, nv it, .int .i64 0] 49) = w') from in_ok 3 tx it 0 w5 (by decide) a1 a2 (by omega))
  have i1 : (0 : Int) ≤ (tx : Int) := by omega
  have i2 : (tx : Int) < 5 := by omega
  have i3 : (0 : Int) ≤ (it : Int) := by omega
  have i4 : (it : Int) < 4 := by omega
  have g1 := h0.shr
  have g2 := h0.acts
  have g3 := h0.wr a2
  have g4 := h0.rd a2
  have hown0 := Lib.hid (show (Value.slice A l.acts.length cap).ownBlock ≠ some w.heap.size from fun e => by have := (h.own _ e).2; omega)
  have HM := Lib.hid fun n => mid_of h (Only.refl _ w) rfl 49 (.cells #[.int .i64 3, nv tx, nv it, .int .i64 0] 49) n (d0 := .int .i64 3) (d1 := nv tx) (d2 := nv it) (d3 := .int .i64 0)
  have hand := bits_and_shl (l.rdr.getD it 0) tx (by omega) (by omega)
  rw [and_pow, hs, if_neg (by decide)] at hand
  have hp : 0 < 2 ^ tx := Nat.two_pow_pos tx
  have hp2 : (((2 ^ tx : Nat) : Int) == 0) = false := by generalize 2 ^ tx = p at *; simp; omega
  have t1 : (((l.wtr.getD it 0 : Nat) : Int) == (tx : Int) + 1) = false := beq_eq_false_iff_ne.2 (by omega)
  generalize hrv : l.rdr.getD it 0 = rv at *
  generalize hwv : l.wtr.getD it 0 = wv at *
  generalize hpp : 2 ^ tx = p at *
  generalize hnn : l.acts.length = n at *
  have HN := Lib.hid hnn
  have HRV := Lib.hid hrv
  have e1 : IntKind.i64.wrap ((tx : Int) + 1) = (tx : Int) + 1 := IntWalk.i64_in _ (by constructor <;> omega)
  clear h h0 hI hrv hwv hnn hmn hs hpp
  go_enter Tryd.func34, Tryd.ntmps34
  go_wp2_with fail
  (with_reducible refine (hin.out _).mono ?_)
  rintro e w5 ⟨rfl, rfl⟩
  clear hin
  go_wp2_with fail
  go_quiet (fail)
  clear e1
  go_wp2_with fail
  go_quiet (fail)
  go_wp2_with fail
  go_ret
  exact ⟨rfl, by first | exact TabTo.same H.out _ _ 0 | exact TabTo.same H.out _ _ _⟩

set_option maxRecDepth 20000 in
set_option maxHeartbeats 2000000 in
theorem ldo_do_fullm (l : Lk.L) (tx it wt : Nat) (b : Nat) (v : Value) (w : World) (h : TabAt w b l v) (hI : Lk.Inv l) (a1 : tx < 5) (a2 : it < 4) (hmn : l.wtr.getD it 0 = tx + 1) (hwt : wt < 2) (hl : l.acts.length = 24) :
    Calls Tryd.prog 34 #[.pointer (some ⟨b, 0, none⟩), .agg #[.int .i64 3, nv tx, nv it, nv wt]] w fun e w' => e = .returned (.iface 93 (.int .i64 4)) ∧ TabTo w b v l w' := by
  have hr32 : l.rdr.getD it 0 < 32 := hI.2.2.2.2.1 it
  have hw5 : l.wtr.getD it 0 ≤ 5 := hI.2.2.2.2.2.1 it
  have hs32 : l.shr < 32 := hI.2.2.2.1
  have hl24 : l.acts.length ≤ 24 := hI.2.2.2.2.2.2.1
  obtain ⟨A, cap, rfl⟩ := Rd.val h.2.acts
  rw [Sch.length_zacts] at h ⊢
  have H := Lib.hid h
  have HB := h.1.lt
  have h0 := (h.alloc (.cells #[.int .i64 3, nv tx, nv it, nv wt] 49)).alloc (.cells #[.int .i64 3, nv tx, nv it, nv wt] 49)
  have hin := Lib.hid fun w5 => (show Calls Tryd.prog 67 #[.agg #[.int .i64 3, nv tx, nv it, nv wt]] w5 (fun e w' => e = .returned (.bool true) ∧ w5.alloc (.cells #[.int .i64 3, nv tx, nv it, nv wt] 49) = w') from in_ok 3 tx it wt w5 (by decide) a1 a2 (by omega))
  have i1 : (0 : Int) ≤ (tx : Int) := by omega
  have i2 : (tx : Int) < 5 := by omega
  have i3 : (0 : Int) ≤ (it : Int) := by omega
  have i4 : (it : Int) < 4 := by omega
  have g1 := h0.shr
  have g2 := h0.acts
  have g3 := h0.wr a2
  have g4 := h0.rd a2
  have hown0 := Lib.hid (show (Value.slice A l.acts.length cap).ownBlock ≠ some w.heap.size from fun e => by have := (h.own _ e).2; omega)
  have HM := Lib.hid fun n => mid_of h (Only.refl _ w) rfl 49 (.cells #[.int .i64 3, nv tx, nv it, nv wt] 49) n (d0 := .int .i64 3) (d1 := nv tx) (d2 := nv it) (d3 := nv wt)
  have t1 : ((tx : Int) + 1 == (tx : Int) + 1) = true := by simp
  rw [hmn, show nv (tx + 1) = .int .i64 ((tx : Int) + 1) from rfl] at g3
  have t3 : ((l.acts.length : Int) == 24) = true := by rw [hl]; rfl
  generalize hrv : l.rdr.getD it 0 = rv at *
  generalize hwv : l.wtr.getD it 0 = wv at *
  generalize hnn : l.acts.length = n at *
  have HN := Lib.hid hnn
  have e1 : IntKind.i64.wrap ((tx : Int) + 1) = (tx : Int) + 1 := IntWalk.i64_in _ (by constructor <;> omega)
  clear h h0 hI hrv hwv hnn hmn hl
  go_enter Tryd.func34, Tryd.ntmps34
  go_wp2_with fail
  (with_reducible refine (hin.out _).mono ?_)
  rintro e w5 ⟨rfl, rfl⟩
  clear hin
  go_wp2_with fail
  go_quiet (fail)
  clear e1
  go_wp2_with fail
  go_quiet (fail)
  go_wp2_with fail
  go_ret
  exact ⟨rfl, by first | exact TabTo.same H.out _ _ 0 | exact TabTo.same H.out _ _ _⟩

set_option maxRecDepth 20000 in
set_option maxHeartbeats 2000000 in
theorem ldo_do_fullr (l : Lk.L) (tx it : Nat) (b : Nat) (v : Value) (w : World) (h : TabAt w b l v) (hI : Lk.Inv l) (a1 : tx < 5) (a2 : it < 4) (hs : (l.rdr.getD it 0).testBit tx = true) (hmn : l.wtr.getD it 0 ≠ tx + 1) (hl : l.acts.length = 24) :
    Calls Tryd.prog 34 #[.pointer (some ⟨b, 0, none⟩), .agg #[.int .i64 3, nv tx, nv it, .int .i64 0]] w fun e w' => e = .returned (.iface 93 (.int .i64 4)) ∧ TabTo w b v l w' := by
  have hr32 : l.rdr.getD it 0 < 32 := hI.2.2.2.2.1 it
  have hw5 : l.wtr.getD it 0 ≤ 5 := hI.2.2.2.2.2.1 it
  have hs32 : l.shr < 32 := hI.2.2.2.1
  have hl24 : l.acts.length ≤ 24 := hI.2.2.2.2.2.2.1
  obtain ⟨A, cap, rfl⟩ := Rd.val h.2.acts
  rw [Sch.length_zacts] at h ⊢
  have H := Lib.hid h
  have HB := h.1.lt
  have h0 := (h.alloc (.cells #[.int .i64 3, nv tx, nv it, .int .i64 0] 49)).alloc (.cells #[.int .i64 3, nv tx, nv it, .int .i64 0] 49)
  have hin := Lib.hid fun w5 => (show Calls Tryd.prog 67 #[.agg #[.int .i64 3, nv tx, nv it, .int .i64 0]] w5 (fun e w' => e = .returned (.bool true) ∧ w5.alloc (.cells #[.int .i64 3, nv tx, nv it, .int .i64 0] 49) = w') from in_ok 3 tx it 0 w5 (by decide) a1 a2 (by omega))
  have i1 : (0 : Int) ≤ (tx : Int) := by omega
  have i2 : (tx : Int) < 5 := by omega
  have i3 : (0 : Int) ≤ (it : Int) := by omega
  have i4 : (it : Int) < 4 := by omega
  have g1 := h0.shr
  have g2 := h0.acts
  have g3 := h0.wr a2
  have g4 := h0.rd a2
  have hown0 := Lib.hid (show (Value.slice A l.acts.length cap).ownBlock ≠ some w.heap.size from fun e => by have := (h.own _ e).2; omega)
  have HM := Lib.hid fun n => mid_of h (Only.refl _ w) rfl 49 (.cells #[.int .i64 3, nv tx, nv it, .int .i64 0] 49) n (d0 := .int .i64 3) (d1 := nv tx) (d2 := nv it) (d3 := .int .i64 0)
  have hand := bits_and_shl (l.rdr.getD it 0) tx (by omega) (by omega)
  rw [and_pow, hs, if_pos rfl] at hand
  have hp : 0 < 2 ^ tx := Nat.two_pow_pos tx
  have hp2 : (((2 ^ tx : Nat) : Int) == 0) = false := by generalize 2 ^ tx = p at *; simp; omega
  have t1 : (((l.wtr.getD it 0 : Nat) : Int) == (tx : Int) + 1) = false := beq_eq_false_iff_ne.2 (by omega)
  have t3 : ((l.acts.length : Int) == 24) = true := by rw [hl]; rfl
  generalize hrv : l.rdr.getD it 0 = rv at *
  generalize hwv : l.wtr.getD it 0 = wv at *
  generalize hpp : 2 ^ tx = p at *
  generalize hnn : l.acts.length = n at *
  have HN := Lib.hid hnn
  have HRV := Lib.hid hrv
  have e1 : IntKind.i64.wrap ((tx : Int) + 1) = (tx : Int) + 1 := IntWalk.i64_in _ (by constructor <;> omega)
  clear h h0 hI hrv hwv hnn hmn hs hpp hl
  go_enter Tryd.func34, Tryd.ntmps34
  go_wp2_with fail
  (with_reducible refine (hin.out _).mono ?_)
  rintro e w5 ⟨rfl, rfl⟩
  clear hin
  go_wp2_with fail
  go_quiet (fail)
  clear e1
  go_wp2_with fail
  go_quiet (fail)
  go_wp2_with fail
  go_ret
  exact ⟨rfl, by first | exact TabTo.same H.out _ _ 0 | exact TabTo.same H.out _ _ _⟩

end Go.Proofs.YtkindaadadggoaaDoor
