/- SchedSays at every input: what is wrong with any schedule, its edges, whether it is serial, who reads of whom, and any row of it. Conditions: the row's own. (Printed by wip/gen/ssays.py.) -/
import Derived.Test.YtkindaadadggoaaDoorRSerial
import Derived.Test.YtkindaadadggoaaDoorRReads
import Derived.Test.YtkindaadadggoaaDoorREdges
import Derived.Test.YtkindaadadggoaaDoorROrd
import Derived.Test.YtkindaadadggoaaDoorReads
import Derived.Test.YtkindaadadggoaaDoorSerial
namespace Go.Proofs.YtkindaadadggoaaDoor
open Go.RowKit

theorem snat_acts {s : List Act3} (h : actsCode s = 0) : ∃ t : List Sch.N3, s = Sch.zacts t ∧ t.length ≤ 24 ∧ ∀ a ∈ t, Sch.Ok3 a := by
  obtain ⟨h1, h2⟩ := actsCode_zero h
  refine ⟨s.map fun a => (a.1.toNat, a.2.1.toNat, a.2.2.toNat), ?_, by simpa using h1, ?_⟩
  · unfold Sch.zacts
    rw [List.map_map]
    conv => lhs; rw [← List.map_id s]
    refine List.map_congr_left fun a ha => ?_
    obtain ⟨⟨a0, _⟩, ⟨a1, _⟩, a2, _⟩ := h2 a ha
    obtain ⟨x, y, z⟩ := a
    simp only [Function.comp, Sch.z3, id, Prod.mk.injEq] at *
    omega
  · intro b hb
    obtain ⟨a, ha, rfl⟩ := List.mem_map.1 hb
    obtain ⟨⟨a0, b0⟩, ⟨a1, b1⟩, a2, b2⟩ := h2 a ha
    unfold Sch.Ok3
    simp only
    omega
theorem reads_err (s : List Act3) (v : Value) (w : World) (hr : Acts w w.heap.size v s) (hne : actsCode s ≠ 0) :
    Calls Tryd.prog 52 #[v] w fun e w' => e = .returned (.tuple #[.slice none 0 0, .iface 93 (nv (actsCode s))]) ∧ Below w.heap.size w w' := by
  have hchk := Lib.hid (check_calls s v w hr hne)
  clear hne hr
  go_enter Tryd.func52, Tryd.ntmps52
  go_wp2_with fail
  refine hchk.out.mono ?_
  rintro e w1 ⟨rfl, hb1⟩
  clear hchk
  go_wp2_with fail
  go_ret2
  exact ⟨rfl, hb1⟩
theorem acts_at {s : List Act3} {v : Value} {w w1 : World} (hr : Acts w w.heap.size v s) (hb : Below w.heap.size w w1) : Acts w1 w1.heap.size v s := Rd.more (Rd.below hr hb) hb.size
theorem racts0 (t : List Sch.N3) (v : Value) (w : World) (hr : Acts w w.heap.size v (Sch.zacts t)) (hc : actsCode (Sch.zacts t) = 0) : Calls Tryd.prog 45 #[v] w fun e w' => e = .returned (.int .i64 0) ∧ Below w.heap.size w w' := by
  have h := racts_calls (Sch.zacts t) v w hr
  rw [hc] at h
  exact h
theorem redges_k (t : List Sch.N3) (v : Value) (w : World) (hr : Acts w w.heap.size v (Sch.zacts t)) (hlen : t.length ≤ 24) (hok : ∀ a ∈ t, Sch.Ok3 a) :
    Calls Tryd.prog 47 #[v] w fun e w' => (∃ v', e = .returned v' ∧ Kept w' v' (zs (Sch.edges t))) ∧ Below w.heap.size w w' :=
  (redges_calls t v w hr hlen hok).mono fun _ _ ⟨v', h1, h2, h3⟩ => ⟨⟨v', h1, Kept.of h2.ints⟩, h3⟩
theorem sedges_k (t : List Sch.N3) (v : Value) (w : World) (hr : Acts w w.heap.size v (Sch.zacts t)) (hlen : t.length ≤ 24) (hok : ∀ a ∈ t, Sch.Ok3 a) :
    Calls Tryd.prog 51 #[v] w fun e w' => (∃ v', e = .returned (.tuple #[v', .nilIface]) ∧ Kept w' v' (zs (Sch.edges t))) ∧ Below w.heap.size w w' :=
  (edges_ok t v w hr hlen hok).mono fun _ _ ⟨v', h1, h2, h3⟩ => ⟨⟨v', h1, Kept.of h2.ints⟩, h3⟩
theorem rserial_k (t : List Sch.N3) (v : Value) (w : World) (hv : Kept w v (zs (Sch.edges t))) (hok : ∀ a ∈ t, Sch.Ok3 a) :
    Calls Tryd.prog 48 #[v] w fun e w' => (∃ v', e = .returned (.tuple #[v', .bool (Rw.row (Sch.edges t)).isSome]) ∧ Kept w' v' (zs ((Rw.row (Sch.edges t)).getD []))) ∧ Below w.heap.size w w' :=
  (rserial_calls (Sch.edges t) v w hv (Sch.fits_edges hok) (by rw [Sch.length_edges]; decide) (Sch.edges_irr hok)).mono fun _ _ ⟨v', b, h1, h2, h3, h4⟩ => ⟨⟨v', by rw [h1, h2], h3⟩, h4⟩
theorem sserial_k (t : List Sch.N3) (v : Value) (w : World) (hr : Acts w w.heap.size v (Sch.zacts t)) (hlen : t.length ≤ 24) (hok : ∀ a ∈ t, Sch.Ok3 a) :
    Calls Tryd.prog 44 #[v] w fun e w' => (∃ v', e = .returned (.tuple #[.bool (Rw.row (Sch.edges t)).isSome, v', .nilIface]) ∧ Kept w' v' (zs ((Rw.row (Sch.edges t)).getD []))) ∧ Below w.heap.size w w' :=
  (serial_ok t v w hr hlen hok).mono fun _ _ ⟨h1, h2⟩ => by
    rcases h2 with ⟨h3, h4⟩ | ⟨out, v', h3, h4, h5⟩
    · exact ⟨⟨_, by rw [h4, h3]; rfl, by rw [h3]; exact Kept.nil _⟩, h1⟩
    · exact ⟨⟨_, by rw [h4, h3]; rfl, by rw [h3]; exact Kept.of h5.ints⟩, h1⟩
theorem rreads_k (t : List Sch.N3) (v : Value) (w : World) (hr : Acts w w.heap.size v (Sch.zacts t)) (hlen : t.length ≤ 24) (hok : ∀ a ∈ t, Sch.Ok3 a) :
    Calls Tryd.prog 49 #[v] w fun e w' => (∃ v', e = .returned v' ∧ Kept w' v' (Sch.reads t)) ∧ Below w.heap.size w w' :=
  (rreads_calls t v w hr hlen hok).mono fun _ _ ⟨v', h1, h2, h3⟩ => ⟨⟨v', h1, Kept.of h2.ints⟩, h3⟩
theorem sreads_k (t : List Sch.N3) (v : Value) (w : World) (hr : Acts w w.heap.size v (Sch.zacts t)) (hlen : t.length ≤ 24) (hok : ∀ a ∈ t, Sch.Ok3 a) :
    Calls Tryd.prog 52 #[v] w fun e w' => (∃ v', e = .returned (.tuple #[v', .nilIface]) ∧ Kept w' v' (Sch.reads t)) ∧ Below w.heap.size w w' :=
  (reads_ok t v w hr hlen hok).mono fun _ _ ⟨v', h1, h2, h3⟩ => ⟨⟨v', h1, Kept.of h2.ints⟩, h3⟩
def ordL (t : List Sch.N3) (row : List Int) : List Int := if (Sch.ordered t row).1 = 0 then zs (Sch.ordered t row).2 else []
theorem rordered_k (t : List Sch.N3) (row : List Int) (v u : Value) (w : World) (hr : Acts w w.heap.size v (Sch.zacts t)) (hlen : t.length ≤ 24) (hu : Ints w w.heap.size u row) :
    Calls Tryd.prog 50 #[v, u] w fun e w' => (∃ v', e = .returned (.tuple #[v', nv (Sch.ordered t row).1]) ∧ Kept w' v' (ordL t row)) ∧ Below w.heap.size w w' :=
  (rordered_calls t row v u w hr hlen hu).mono fun _ _ ⟨v', h1, h2, h3⟩ => by
    by_cases hc : (Sch.ordered t row).1 = 0
    · exact ⟨⟨v', by rw [h1]; unfold rordVal; rw [if_pos hc], by unfold ordL; rw [if_pos hc]; exact Kept.of (h2 hc).ints⟩, h3⟩
    · exact ⟨⟨_, by rw [h1]; unfold rordVal; rw [if_neg hc], by unfold ordL; rw [if_neg hc]; exact Kept.nil _⟩, h3⟩
theorem sordered_k (t : List Sch.N3) (row : List Int) (v u : Value) (w : World) (hr : Acts w w.heap.size v (Sch.zacts t)) (hlen : t.length ≤ 24) (hok : ∀ a ∈ t, Sch.Ok3 a) (hu : Ints w w.heap.size u row) :
    Calls Tryd.prog 53 #[v, u] w fun e w' => (∃ v', e = .returned (.tuple #[v', errw (Sch.ordered t row).1]) ∧ Kept w' v' (ordL t row)) ∧ Below w.heap.size w w' :=
  (ordered_calls t row v u w hr hlen hok hu).mono fun _ _ ⟨v', h1, h2, h3⟩ => by
    by_cases hc : (Sch.ordered t row).1 = 0
    · exact ⟨⟨v', by rw [h1]; unfold ordVal errw; rw [if_pos hc, if_pos hc], by unfold ordL; rw [if_pos hc]; exact Kept.of (h2 hc).ints⟩, h3⟩
    · exact ⟨⟨_, by rw [h1]; unfold ordVal errw; rw [if_neg hc, if_neg hc], by unfold ordL; rw [if_neg hc]; exact Kept.nil _⟩, h3⟩
set_option maxRecDepth 20000 in
set_option maxHeartbeats 4000000 in
theorem ssays_err (s : List Act3) (v u : Value) (w : World) (hr : Acts w w.heap.size v s) (hne : actsCode s ≠ 0) (hE : ErrTy w) :
    Calls Tryd.prog 13 #[v, u] w fun e w' => e = .returned (.bool true) ∧ Below w.heap.size w w' := by
  have c0 := Lib.hid fun (w1 : World) (hb : Below w.heap.size w w1) => racts_calls s v w1 (acts_at hr hb)
  have c1 := Lib.hid fun (w1 : World) (hb : Below w.heap.size w w1) => check_calls s v w1 (acts_at hr hb) hne
  have c2 := Lib.hid fun (w1 : World) (hb : Below w.heap.size w w1) => errorn (actsCode s) w1 (hE.below hb) hne
  have c3 := Lib.hid fun (w1 : World) (hb : Below w.heap.size w w1) => edges_err s v w1 (acts_at hr hb) hne
  have c4 := Lib.hid fun (w1 : World) (hb : Below w.heap.size w w1) => serial_err s v w1 (acts_at hr hb) hne
  have c5 := Lib.hid fun (w1 : World) (hb : Below w.heap.size w w1) => reads_err s v w1 (acts_at hr hb) hne
  have c6 := Lib.hid fun (w1 : World) (hb : Below w.heap.size w w1) => ordered_err s v u w1 (acts_at hr hb) hne
  have hz : (((actsCode s : Nat) : Int) == 0) = false := by simp; omega
  generalize actsCode s = E at *
  clear hr hne hE
  go_enter Tryd.func13, Tryd.ntmps13
  go_wp2_with fail
  (with_reducible refine (c0.out w (Below.refl _ _)).mono ?_)
  rintro e w1 ⟨rfl, hx⟩
  have hb1 := hx
  clear hx
  go_wp2_with fail
  (with_reducible refine (c1.out w1 hb1).mono ?_)
  rintro e w2 ⟨rfl, hx⟩
  have hb2 := hb1.trans (hx.mono hb1.size)
  clear hb1
  clear hx
  go_wp2_with fail
  (with_reducible refine (c2.out w2 hb2).mono ?_)
  rintro e w3 ⟨rfl, hx⟩
  have hb3 := hb2.trans (hx.mono hb2.size)
  clear hb2
  clear hx
  go_wp2_with fail
  (with_reducible refine (c3.out w3 hb3).mono ?_)
  rintro e w4 ⟨rfl, hx⟩
  have hb4 := hb3.trans (hx.mono hb3.size)
  clear hb3
  clear hx
  go_wp2_with fail
  (with_reducible refine (c2.out w4 hb4).mono ?_)
  rintro e w5 ⟨rfl, hx⟩
  have hb5 := hb4.trans (hx.mono hb4.size)
  clear hb4
  clear hx
  go_wp2_with fail
  (with_reducible refine (ints_same (Kept.nil w5) (Kept.nil w5)).mono ?_)
  rintro e w6 ⟨rfl, hx⟩
  have hb6 := hb5.trans (hx.mono hb5.size)
  clear hb5
  clear hx
  go_wp2_with fail
  (with_reducible refine (c4.out w6 hb6).mono ?_)
  rintro e w7 ⟨rfl, hx⟩
  have hb7 := hb6.trans (hx.mono hb6.size)
  clear hb6
  clear hx
  go_wp2_with fail
  (with_reducible refine (c2.out w7 hb7).mono ?_)
  rintro e w8 ⟨rfl, hx⟩
  have hb8 := hb7.trans (hx.mono hb7.size)
  clear hb7
  clear hx
  go_wp2_with fail
  (with_reducible refine (ints_same (Kept.nil w8) (Kept.nil w8)).mono ?_)
  rintro e w9 ⟨rfl, hx⟩
  have hb9 := hb8.trans (hx.mono hb8.size)
  clear hb8
  clear hx
  go_wp2_with fail
  (with_reducible refine (c5.out w9 hb9).mono ?_)
  rintro e w10 ⟨rfl, hx⟩
  have hb10 := hb9.trans (hx.mono hb9.size)
  clear hb9
  clear hx
  go_wp2_with fail
  (with_reducible refine (c2.out w10 hb10).mono ?_)
  rintro e w11 ⟨rfl, hx⟩
  have hb11 := hb10.trans (hx.mono hb10.size)
  clear hb10
  clear hx
  go_wp2_with fail
  (with_reducible refine (ints_same (Kept.nil w11) (Kept.nil w11)).mono ?_)
  rintro e w12 ⟨rfl, hx⟩
  have hb12 := hb11.trans (hx.mono hb11.size)
  clear hb11
  clear hx
  go_wp2_with fail
  (with_reducible refine (c6.out w12 hb12).mono ?_)
  rintro e w13 ⟨rfl, hx⟩
  have hb13 := hb12.trans (hx.mono hb12.size)
  clear hb12
  clear hx
  go_wp2_with fail
  (with_reducible refine (c2.out w13 hb13).mono ?_)
  rintro e w14 ⟨rfl, hx⟩
  have hb14 := hb13.trans (hx.mono hb13.size)
  clear hb13
  clear hx
  go_wp2_with fail
  (with_reducible refine (ints_same (Kept.nil w14) (Kept.nil w14)).mono ?_)
  rintro e w15 ⟨rfl, hx⟩
  have hb15 := hb14.trans (hx.mono hb14.size)
  clear hb14
  clear hx
  go_wp2_with fail
  go_ret
  exact ⟨rfl, hb15⟩
set_option maxRecDepth 20000 in
set_option maxHeartbeats 8000000 in
theorem ssays_ok (t : List Sch.N3) (row : List Int) (v u : Value) (w : World) (hr : Acts w w.heap.size v (Sch.zacts t)) (hu : Ints w w.heap.size u row) (hc : actsCode (Sch.zacts t) = 0) (hlen : t.length ≤ 24) (hok : ∀ a ∈ t, Sch.Ok3 a) (hE : ErrTy w) :
    Calls Tryd.prog 13 #[v, u] w fun e w' => e = .returned (.bool true) ∧ Below w.heap.size w w' := by
  have hku := Lib.hid (Kept.of hu)
  have d0 := Lib.hid fun (w1 : World) (hb : Below w.heap.size w w1) => racts0 t v w1 (acts_at hr hb) hc
  have d1 := Lib.hid fun (w1 : World) (hb : Below w.heap.size w w1) => check_ok (Sch.zacts t) v w1 (acts_at hr hb) (by simpa using hlen) (actsOk hok)
  have d2 := Lib.hid fun (w1 : World) => error0 w1
  have d3 := Lib.hid fun (w1 : World) (hb : Below w.heap.size w w1) => redges_k t v w1 (acts_at hr hb) hlen hok
  have d4 := Lib.hid fun (v1 : Value) (w1 : World) (hk : Kept w1 v1 (zs (Sch.edges t))) => rserial_k t v1 w1 hk hok
  have d5 := Lib.hid fun (w1 : World) (hb : Below w.heap.size w w1) => rreads_k t v w1 (acts_at hr hb) hlen hok
  have d6 := Lib.hid fun (w1 : World) (hb : Below w.heap.size w w1) => rordered_k t row v u w1 (acts_at hr hb) hlen (hku.out _ hb)
  have d7 := Lib.hid fun (w1 : World) (hb : Below w.heap.size w w1) => sedges_k t v w1 (acts_at hr hb) hlen hok
  have d8 := Lib.hid fun (w1 : World) (hb : Below w.heap.size w w1) => sserial_k t v w1 (acts_at hr hb) hlen hok
  have d9 := Lib.hid fun (w1 : World) (hb : Below w.heap.size w w1) => sreads_k t v w1 (acts_at hr hb) hlen hok
  have da := Lib.hid fun (w1 : World) (hb : Below w.heap.size w w1) => sordered_k t row v u w1 (acts_at hr hb) hlen hok (hku.out _ hb)
  have db := Lib.hid fun (w1 : World) (hb : Below w.heap.size w w1) => errorw (Sch.ordered t row).1 w1 (hE.below hb)
  clear hr hu hc hlen hok hE hku
  generalize zs (Sch.edges t) = el at *
  generalize (Rw.row (Sch.edges t)).isSome = ib at *
  generalize zs ((Rw.row (Sch.edges t)).getD []) = sl at *
  generalize Sch.reads t = rl at *
  generalize ordL t row = ol at *
  generalize (Sch.ordered t row).1 = oc at *
  obtain ⟨ev, hev⟩ : ∃ ev, ev = errw oc := ⟨_, rfl⟩
  rw [← hev] at da db
  clear hev
  have tib : (ib == ib) = true := by simp
  go_enter Tryd.func13, Tryd.ntmps13
  go_wp2_with fail
  (with_reducible refine (d0.out w (Below.refl _ _)).mono ?_)
  rintro e w1 ⟨rfl, hx⟩
  have hb1 := hx
  clear hx
  go_wp2_with fail
  (with_reducible refine (d1.out w1 hb1).mono ?_)
  rintro e w2 ⟨rfl, hx⟩
  have hb2 := hb1.trans (hx.mono hb1.size)
  clear hb1
  clear hx
  go_wp2_with fail
  (with_reducible refine (d2.out w2).mono ?_)
  rintro e w3 ⟨rfl, hx⟩
  have hb3 := hb2.trans (hx.mono hb2.size)
  clear hb2
  clear hx
  go_wp2_with fail
  (with_reducible refine (d3.out w3 hb3).mono ?_)
  rintro e w4 ⟨⟨vx, rfl, kx⟩, hx⟩
  have hb4 := hb3.trans (hx.mono hb3.size)
  clear hb3
  clear hx
  replace kx := Lib.hid kx
  go_wp2_with fail
  (with_reducible refine (d4.out _ w4 kx.out).mono ?_)
  rintro e w5 ⟨⟨vy, rfl, ky⟩, hx⟩
  have hb5 := hb4.trans (hx.mono hb4.size)
  replace kx := Lib.hid (kx.out.next hx)
  clear hb4
  clear hx
  replace ky := Lib.hid ky
  go_wp2_with fail
  (with_reducible refine (d5.out w5 hb5).mono ?_)
  rintro e w6 ⟨⟨vz, rfl, kz⟩, hx⟩
  have hb6 := hb5.trans (hx.mono hb5.size)
  replace kx := Lib.hid (kx.out.next hx)
  replace ky := Lib.hid (ky.out.next hx)
  clear hb5
  clear hx
  replace kz := Lib.hid kz
  go_wp2_with fail
  (with_reducible refine (d6.out w6 hb6).mono ?_)
  rintro e w7 ⟨⟨vo, rfl, ko⟩, hx⟩
  have hb7 := hb6.trans (hx.mono hb6.size)
  replace kx := Lib.hid (kx.out.next hx)
  replace ky := Lib.hid (ky.out.next hx)
  replace kz := Lib.hid (kz.out.next hx)
  clear hb6
  clear hx
  replace ko := Lib.hid ko
  go_wp2_with fail
  (with_reducible refine (d7.out w7 hb7).mono ?_)
  rintro e w8 ⟨⟨va, rfl, ka⟩, hx⟩
  have hb8 := hb7.trans (hx.mono hb7.size)
  replace kx := Lib.hid (kx.out.next hx)
  replace ky := Lib.hid (ky.out.next hx)
  replace kz := Lib.hid (kz.out.next hx)
  replace ko := Lib.hid (ko.out.next hx)
  clear hb7
  clear hx
  replace ka := Lib.hid ka
  go_wp2_with fail
  (with_reducible refine (d2.out w8).mono ?_)
  rintro e w9 ⟨rfl, hx⟩
  have hb9 := hb8.trans (hx.mono hb8.size)
  replace kx := Lib.hid (kx.out.next hx)
  replace ky := Lib.hid (ky.out.next hx)
  replace kz := Lib.hid (kz.out.next hx)
  replace ko := Lib.hid (ko.out.next hx)
  replace ka := Lib.hid (ka.out.next hx)
  clear hb8
  clear hx
  go_wp2_with fail
  (with_reducible refine (ints_same ka.out kx.out).mono ?_)
  rintro e w10 ⟨rfl, hx⟩
  have hb10 := hb9.trans (hx.mono hb9.size)
  replace kx := Lib.hid (kx.out.next hx)
  replace ky := Lib.hid (ky.out.next hx)
  replace kz := Lib.hid (kz.out.next hx)
  replace ko := Lib.hid (ko.out.next hx)
  replace ka := Lib.hid (ka.out.next hx)
  clear hb9
  clear hx
  go_wp2_with fail
  (with_reducible refine (d8.out w10 hb10).mono ?_)
  rintro e w11 ⟨⟨vb, rfl, kb⟩, hx⟩
  have hb11 := hb10.trans (hx.mono hb10.size)
  replace kx := Lib.hid (kx.out.next hx)
  replace ky := Lib.hid (ky.out.next hx)
  replace kz := Lib.hid (kz.out.next hx)
  replace ko := Lib.hid (ko.out.next hx)
  replace ka := Lib.hid (ka.out.next hx)
  clear hb10
  clear hx
  replace kb := Lib.hid kb
  go_wp2_with fail
  (with_reducible refine (d2.out w11).mono ?_)
  rintro e w12 ⟨rfl, hx⟩
  have hb12 := hb11.trans (hx.mono hb11.size)
  replace kx := Lib.hid (kx.out.next hx)
  replace ky := Lib.hid (ky.out.next hx)
  replace kz := Lib.hid (kz.out.next hx)
  replace ko := Lib.hid (ko.out.next hx)
  replace ka := Lib.hid (ka.out.next hx)
  replace kb := Lib.hid (kb.out.next hx)
  clear hb11
  clear hx
  go_wp2_with fail
  (with_reducible refine (ints_same kb.out ky.out).mono ?_)
  rintro e w13 ⟨rfl, hx⟩
  have hb13 := hb12.trans (hx.mono hb12.size)
  replace kx := Lib.hid (kx.out.next hx)
  replace ky := Lib.hid (ky.out.next hx)
  replace kz := Lib.hid (kz.out.next hx)
  replace ko := Lib.hid (ko.out.next hx)
  replace ka := Lib.hid (ka.out.next hx)
  replace kb := Lib.hid (kb.out.next hx)
  clear hb12
  clear hx
  go_wp2_with fail
  (with_reducible refine (d9.out w13 hb13).mono ?_)
  rintro e w14 ⟨⟨vc, rfl, kc⟩, hx⟩
  have hb14 := hb13.trans (hx.mono hb13.size)
  replace kx := Lib.hid (kx.out.next hx)
  replace ky := Lib.hid (ky.out.next hx)
  replace kz := Lib.hid (kz.out.next hx)
  replace ko := Lib.hid (ko.out.next hx)
  replace ka := Lib.hid (ka.out.next hx)
  replace kb := Lib.hid (kb.out.next hx)
  clear hb13
  clear hx
  replace kc := Lib.hid kc
  go_wp2_with fail
  (with_reducible refine (d2.out w14).mono ?_)
  rintro e w15 ⟨rfl, hx⟩
  have hb15 := hb14.trans (hx.mono hb14.size)
  replace kx := Lib.hid (kx.out.next hx)
  replace ky := Lib.hid (ky.out.next hx)
  replace kz := Lib.hid (kz.out.next hx)
  replace ko := Lib.hid (ko.out.next hx)
  replace ka := Lib.hid (ka.out.next hx)
  replace kb := Lib.hid (kb.out.next hx)
  replace kc := Lib.hid (kc.out.next hx)
  clear hb14
  clear hx
  go_wp2_with fail
  (with_reducible refine (ints_same kc.out kz.out).mono ?_)
  rintro e w16 ⟨rfl, hx⟩
  have hb16 := hb15.trans (hx.mono hb15.size)
  replace kx := Lib.hid (kx.out.next hx)
  replace ky := Lib.hid (ky.out.next hx)
  replace kz := Lib.hid (kz.out.next hx)
  replace ko := Lib.hid (ko.out.next hx)
  replace ka := Lib.hid (ka.out.next hx)
  replace kb := Lib.hid (kb.out.next hx)
  replace kc := Lib.hid (kc.out.next hx)
  clear hb15
  clear hx
  go_wp2_with fail
  (with_reducible refine (da.out w16 hb16).mono ?_)
  rintro e w17 ⟨⟨vd, rfl, kd⟩, hx⟩
  have hb17 := hb16.trans (hx.mono hb16.size)
  replace kx := Lib.hid (kx.out.next hx)
  replace ky := Lib.hid (ky.out.next hx)
  replace kz := Lib.hid (kz.out.next hx)
  replace ko := Lib.hid (ko.out.next hx)
  replace ka := Lib.hid (ka.out.next hx)
  replace kb := Lib.hid (kb.out.next hx)
  replace kc := Lib.hid (kc.out.next hx)
  clear hb16
  clear hx
  replace kd := Lib.hid kd
  go_wp2_with fail
  (with_reducible refine (db.out w17 hb17).mono ?_)
  rintro e w18 ⟨rfl, hx⟩
  have hb18 := hb17.trans (hx.mono hb17.size)
  replace kx := Lib.hid (kx.out.next hx)
  replace ky := Lib.hid (ky.out.next hx)
  replace kz := Lib.hid (kz.out.next hx)
  replace ko := Lib.hid (ko.out.next hx)
  replace ka := Lib.hid (ka.out.next hx)
  replace kb := Lib.hid (kb.out.next hx)
  replace kc := Lib.hid (kc.out.next hx)
  replace kd := Lib.hid (kd.out.next hx)
  clear hb17
  clear hx
  go_wp2_with fail
  (with_reducible refine (ints_same kd.out ko.out).mono ?_)
  rintro e w19 ⟨rfl, hx⟩
  have hb19 := hb18.trans (hx.mono hb18.size)
  replace kx := Lib.hid (kx.out.next hx)
  replace ky := Lib.hid (ky.out.next hx)
  replace kz := Lib.hid (kz.out.next hx)
  replace ko := Lib.hid (ko.out.next hx)
  replace ka := Lib.hid (ka.out.next hx)
  replace kb := Lib.hid (kb.out.next hx)
  replace kc := Lib.hid (kc.out.next hx)
  replace kd := Lib.hid (kd.out.next hx)
  clear hb18
  clear hx
  go_wp2_with fail
  go_ret
  exact ⟨rfl, hb19⟩
/-- the law at every input -/
theorem ssays_calls (v u : Value) (recs : List (List Int)) (row : List Int) (w : World) (hr : Rd w w.heap.size 3 v recs.length (recs.flatMap fun r => r.map iv)) (hl : ∀ r ∈ recs, r.length = 3) (hu : Ints w w.heap.size u row) (hE : ErrTy w) :
    Calls Tryd.prog 13 #[v, u] w fun e w' => e = .returned (.bool true) ∧ Below w.heap.size w w' := by
  obtain ⟨s, hs⟩ := acts_of_recs hr hl
  by_cases h : actsCode s = 0
  · obtain ⟨t, rfl, h1, h2⟩ := snat_acts h
    exact ssays_ok t row v u w hs hu h h1 h2 hE
  · exact ssays_err s v u w hs h hE
end Go.Proofs.YtkindaadadggoaaDoor
