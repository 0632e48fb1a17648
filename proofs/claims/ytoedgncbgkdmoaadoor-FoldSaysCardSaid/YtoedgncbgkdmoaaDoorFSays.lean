/- FoldSays at every input: what is wrong with any letters, the steps of any word, the least one, what stays ahead, and whether any two are the same. Conditions: the row's own. (Printed by wip/gen/fsays.py.) -/
import Derived.Test.YtoedgncbgkdmoaaDoorRLeast
import Derived.Test.YtoedgncbgkdmoaaDoorFLeast
import Derived.Test.YtoedgncbgkdmoaaDoorKeepS
namespace Go.Proofs.YtoedgncbgkdmoaaDoor
open Go.RowKit

theorem fcheck_w (l : List Int) (v : Value) (w : World) (hr : Ints w w.heap.size v l) (hT : Tab w) :
    Calls Tryd.prog 17 #[v] w fun e w' => e = .returned (errw (freeCode l)) ∧ Below w.heap.size w w' := by
  by_cases h : freeCode l = 0
  · obtain ⟨m, rfl, hg⟩ := freeCode_zero h
    rw [h]
    exact fcheck_good m v w hr hg hT
  · have := fcheck_err l v w hr h hT
    unfold errw
    rw [if_neg h]
    exact this
theorem rfree_b (l : List Int) (v : Value) (w : World) (hr : Ints w w.heap.size v l) :
    Calls Tryd.prog 18 #[v] w fun e w' => e = .returned (nv (freeCode l)) ∧ Below w.heap.size w w' :=
  (rfree_calls l v w hr).mono fun _ _ ⟨h1, h2⟩ => ⟨h1, by rw [← h2]; exact Below.refl _ _⟩
theorem rword_b (l u : List Int) (v x : Value) (w : World) (hv : Ints w w.heap.size v l) (hu : Ints w w.heap.size x u) :
    Calls Tryd.prog 19 #[v, x] w fun e w' => e = .returned (nv (wordCode l u)) ∧ Below w.heap.size w w' :=
  (rword_calls l u v x w hv hu).mono fun _ _ ⟨h1, h2⟩ => ⟨h1, by rw [← h2]; exact Below.refl _ _⟩
theorem rword0 (l u : List Int) (v x : Value) (w : World) (hv : Ints w w.heap.size v l) (hu : Ints w w.heap.size x u) (h : wordCode l u = 0) :
    Calls Tryd.prog 19 #[v, x] w fun e w' => e = .returned (.int .i64 0) ∧ Below w.heap.size w w' := by
  have h1 := rword_b l u v x w hv hu
  rw [h] at h1
  exact h1
theorem rfree0 (m : List Nat) (v : Value) (w : World) (hr : Ints w w.heap.size v (zs m)) (hg : Fld.Good m) :
    Calls Tryd.prog 18 #[v] w fun e w' => e = .returned (.int .i64 0) ∧ Below w.heap.size w w' := by
  have h := rfree_b (zs m) v w hr
  rw [freeCode_good hg] at h
  exact h
theorem kw {R : Ending → World → Prop} {w : World} {g : Value → Ending} {l : List Int} {f : Nat} {xs : Array Value} (h : Calls Tryd.prog f xs w fun e w' => ∃ v', e = g v' ∧ Own w' w.heap.size v' l ∧ Below w.heap.size w w') (hR : ∀ e w', (∃ v', e = g v' ∧ Kept w' v' l) ∧ Below w.heap.size w w' → R e w') :
    Calls Tryd.prog f xs w R := h.mono fun _ _ ⟨v', h1, h2, h3⟩ => hR _ _ ⟨⟨v', h1, Kept.of h2.ints⟩, h3⟩

set_option maxRecDepth 20000 in
set_option maxHeartbeats 4000000 in
theorem fsays_err (l q r : List Int) (f v u : Value) (w : World) (hf : Ints w w.heap.size f l) (hv : Ints w w.heap.size v q) (hu : Ints w w.heap.size u r) (hne : wordCode l r ≠ 0) (hT : Tab w) (hE : ErrTy w) :
    Calls Tryd.prog 7 #[f, v, u] w fun e w' => e = .returned (.bool true) ∧ Below w.heap.size w w' := by
  have c0 := Lib.hid fun (w1 : World) (hb : Below w.heap.size w w1) => fcheck_w l f w1 (hf.later hb) (hT.below hb)
  have c1 := Lib.hid fun (w1 : World) (hb : Below w.heap.size w w1) => rfree_b l f w1 (hf.later hb)
  have c2 := Lib.hid fun (w1 : World) (hb : Below w.heap.size w w1) => errorw (freeCode l) w1 (hE.below hb)
  have c3 := Lib.hid fun (w1 : World) (hb : Below w.heap.size w w1) => rword_b l r f u w1 (hf.later hb) (hu.later hb)
  have c4 := Lib.hid fun (w1 : World) (hb : Below w.heap.size w w1) => fsteps_err l r f u w1 (hf.later hb) (hu.later hb) hne (hT.below hb)
  have c5 := Lib.hid fun (w1 : World) (hb : Below w.heap.size w w1) => errorn (wordCode l r) w1 (hE.below hb) hne
  have c6 := Lib.hid fun (w1 : World) (hb : Below w.heap.size w w1) => least_err l r f u w1 (hf.later hb) (hu.later hb) hne (hT.below hb)
  have c7 := Lib.hid fun (w1 : World) (hb : Below w.heap.size w w1) => fahead_err l r f u w1 (hf.later hb) (hu.later hb) hne (hT.below hb)
  have c8 := Lib.hid fun (w1 : World) (hb : Below w.heap.size w w1) => rword_b l q f v w1 (hf.later hb) (hv.later hb)
  have hsc : sameCode l q r ≠ 0 := by
    unfold sameCode
    split
    · assumption
    · exact hne
  have c9 := Lib.hid fun (w1 : World) (hb : Below w.heap.size w w1) => same_err l q r f v u w1 (hf.later hb) (hv.later hb) (hu.later hb) hsc (hT.below hb)
  have ca := Lib.hid fun (w1 : World) (hb : Below w.heap.size w w1) => errorn (sameCode l q r) w1 (hE.below hb) hsc
  have hz : (((wordCode l r : Nat) : Int) == 0) = false := by simp; omega
  have hcase : (((wordCode l q : Nat) : Int) == 0) = true ∧ sameCode l q r = wordCode l r ∨ (((wordCode l q : Nat) : Int) == 0) = false ∧ sameCode l q r = wordCode l q := by
    unfold sameCode
    by_cases h : wordCode l q = 0
    · exact .inl ⟨by rw [h]; rfl, by rw [if_neg (by simpa using h)]⟩
    · exact .inr ⟨by simp; omega, by rw [if_pos h]⟩
  generalize sameCode l q r = S at *
  generalize wordCode l q = V at *
  generalize wordCode l r = E at *
  generalize freeCode l = F at *
  obtain ⟨ev, hev⟩ : ∃ ev, ev = errw F := ⟨_, rfl⟩
  rw [← hev] at c0 c2
  clear hf hv hu hne hE hT hsc hev
  go_enter Tryd.func7, Tryd.ntmps7
  go_wp2_with fail
  (with_reducible refine (c0.out w (Below.refl _ _)).mono ?_)
  rintro e w1 ⟨rfl, hx⟩
  have hb1 := hx
  clear hx
  go_wp2_with fail
  (with_reducible refine (c1.out w1 hb1).mono ?_)
  rintro e w2 ⟨rfl, hx⟩
  have hb2 := hb1.trans (hx.mono hb1.size)
  clear hb1
  clear hx
  go_wp2_with fail
  (with_reducible refine (c2.out w2 hb2).mono ?_)
  rintro e w3 ⟨rfl, hx⟩
  have hb3 := hb2.trans (hx.mono hb2.size)
  clear hb2
  clear hx
  go_wp2_with fail
  (with_reducible refine (c3.out w3 hb3).mono ?_)
  rintro e w4 ⟨rfl, hx⟩
  have hb4 := hb3.trans (hx.mono hb3.size)
  clear hb3
  clear hx
  go_wp2_with fail
  (with_reducible refine (c4.out w4 hb4).mono ?_)
  rintro e w5 ⟨rfl, hx⟩
  have hb5 := hb4.trans (hx.mono hb4.size)
  clear hb4
  clear hx
  go_wp2_with fail
  (with_reducible refine (c5.out w5 hb5).mono ?_)
  rintro e w6 ⟨rfl, hx⟩
  have hb6 := hb5.trans (hx.mono hb5.size)
  clear hb5
  clear hx
  go_wp2_with fail
  (with_reducible refine (ints_same (Kept.nil w6) (Kept.nil w6)).mono ?_)
  rintro e w7 ⟨rfl, hx⟩
  have hb7 := hb6.trans (hx.mono hb6.size)
  clear hb6
  clear hx
  go_wp2_with fail
  (with_reducible refine (c6.out w7 hb7).mono ?_)
  rintro e w8 ⟨rfl, hx⟩
  have hb8 := hb7.trans (hx.mono hb7.size)
  clear hb7
  clear hx
  go_wp2_with fail
  (with_reducible refine (c5.out w8 hb8).mono ?_)
  rintro e w9 ⟨rfl, hx⟩
  have hb9 := hb8.trans (hx.mono hb8.size)
  clear hb8
  clear hx
  go_wp2_with fail
  (with_reducible refine (ints_same (Kept.nil w9) (Kept.nil w9)).mono ?_)
  rintro e w10 ⟨rfl, hx⟩
  have hb10 := hb9.trans (hx.mono hb9.size)
  clear hb9
  clear hx
  go_wp2_with fail
  (with_reducible refine (c7.out w10 hb10).mono ?_)
  rintro e w11 ⟨rfl, hx⟩
  have hb11 := hb10.trans (hx.mono hb10.size)
  clear hb10
  clear hx
  go_wp2_with fail
  (with_reducible refine (c5.out w11 hb11).mono ?_)
  rintro e w12 ⟨rfl, hx⟩
  have hb12 := hb11.trans (hx.mono hb11.size)
  clear hb11
  clear hx
  go_wp2_with fail
  (with_reducible refine (ints_same (Kept.nil w12) (Kept.nil w12)).mono ?_)
  rintro e w13 ⟨rfl, hx⟩
  have hb13 := hb12.trans (hx.mono hb12.size)
  clear hb12
  clear hx
  go_wp2_with fail
  (with_reducible refine (c8.out w13 hb13).mono ?_)
  rintro e w14 ⟨rfl, hx⟩
  have hb14 := hb13.trans (hx.mono hb13.size)
  clear hb13
  clear hx
  clear c0 c1 c2 c3 c4 c5 c6 c7 c8
  rcases hcase with ⟨t1, rfl⟩ | ⟨t1, rfl⟩
  · skip
    go_wp2_with fail
    (with_reducible refine (c9.out w14 hb14).mono ?_)
    rintro e w15 ⟨rfl, hx⟩
    have hb15 := hb14.trans (hx.mono hb14.size)
    clear hb14
    clear hx
    go_wp2_with fail
    (with_reducible refine (ca.out w15 hb15).mono ?_)
    rintro e w16 ⟨rfl, hx⟩
    have hb16 := hb15.trans (hx.mono hb15.size)
    clear hb15
    clear hx
    go_wp2_with fail
    go_ret
    exact ⟨rfl, hb16⟩
  · skip
    go_wp2_with fail
    (with_reducible refine (c9.out w14 hb14).mono ?_)
    rintro e w15 ⟨rfl, hx⟩
    have hb15 := hb14.trans (hx.mono hb14.size)
    clear hb14
    clear hx
    go_wp2_with fail
    (with_reducible refine (ca.out w15 hb15).mono ?_)
    rintro e w16 ⟨rfl, hx⟩
    have hb16 := hb15.trans (hx.mono hb15.size)
    clear hb15
    clear hx
    go_wp2_with fail
    go_ret
    exact ⟨rfl, hb16⟩
set_option maxRecDepth 20000 in
set_option maxHeartbeats 8000000 in
theorem fsays_one (m t : List Nat) (q : List Int) (f v u : Value) (w : World) (hf : Ints w w.heap.size f (zs m)) (hv : Ints w w.heap.size v q) (hu : Ints w w.heap.size u (zs t)) (hg : Fld.Good m) (hl : t.length ≤ 24) (ht : ∀ x ∈ t, x < m.length) (hne : wordCode (zs m) q ≠ 0) (hT : Tab w) (hE : ErrTy w) :
    Calls Tryd.prog 7 #[f, v, u] w fun e w' => e = .returned (.bool true) ∧ Below w.heap.size w w' := by
  have hw0 := wordCode_ok hg hl ht
  have c0 := Lib.hid fun (w1 : World) (hb : Below w.heap.size w w1) => fcheck_good m f w1 (hf.later hb) hg (hT.below hb)
  have c1 := Lib.hid fun (w1 : World) (hb : Below w.heap.size w w1) => rfree0 m f w1 (hf.later hb) hg
  have c2 := Lib.hid fun (w1 : World) => error0 w1
  have c3 := Lib.hid fun (w1 : World) (hb : Below w.heap.size w w1) => rword0 (zs m) (zs t) f u w1 (hf.later hb) (hu.later hb) hw0
  have d1 := Lib.hid fun (w1 : World) (hb : Below w.heap.size w w1) => kw (rsteps_calls m t f u w1 (hf.later hb) (hu.later hb) hg hl ht) (fun _ _ h => h)
  have d2 := Lib.hid fun (w1 : World) (hb : Below w.heap.size w w1) => kw (rleast_calls m t f u w1 (hf.later hb) (hu.later hb) hg hl ht) (fun _ _ h => h)
  have d3 := Lib.hid fun (w1 : World) (hb : Below w.heap.size w w1) => kw (rahead_calls m t f u w1 (hf.later hb) (hu.later hb) hg hl ht) (fun _ _ h => h)
  have d4 := Lib.hid fun (w1 : World) (hb : Below w.heap.size w w1) => kw (g := fun v' => .returned (.tuple #[v', .nilIface])) (fsteps_ok m t f u w1 (hf.later hb) (hu.later hb) hg hl ht (hT.below hb)) (fun _ _ h => h)
  have d5 := Lib.hid fun (w1 : World) (hb : Below w.heap.size w w1) => kw (g := fun v' => .returned (.tuple #[v', .nilIface])) (least_ok m t f u w1 (hf.later hb) (hu.later hb) hg hl ht (hT.below hb)) (fun _ _ h => h)
  have d6 := Lib.hid fun (w1 : World) (hb : Below w.heap.size w w1) => kw (g := fun v' => .returned (.tuple #[v', .nilIface])) (fahead_ok m t f u w1 (hf.later hb) (hu.later hb) hg hl ht (hT.below hb)) (fun _ _ h => h)
  have hsc : sameCode (zs m) q (zs t) ≠ 0 := by
    unfold sameCode
    rw [if_pos hne]
    exact hne
  have e1 := Lib.hid fun (w1 : World) (hb : Below w.heap.size w w1) => rword_b (zs m) q f v w1 (hf.later hb) (hv.later hb)
  have e2 := Lib.hid fun (w1 : World) (hb : Below w.heap.size w w1) => same_err (zs m) q (zs t) f v u w1 (hf.later hb) (hv.later hb) (hu.later hb) hsc (hT.below hb)
  have e3 := Lib.hid fun (w1 : World) (hb : Below w.heap.size w w1) => errorn (sameCode (zs m) q (zs t)) w1 (hE.below hb) hsc
  rw [show sameCode (zs m) q (zs t) = wordCode (zs m) q by unfold sameCode; rw [if_pos hne]] at e2 e3
  have hz : (((wordCode (zs m) q : Nat) : Int) == 0) = false := by simp; omega
  generalize wordCode (zs m) q = V at *
  generalize zs (Fld.steps m t) = sl at *
  generalize zs (Fld.least m t) = ll at *
  generalize zs (Fld.ahead m t) = al at *
  clear hf hv hu hg hl ht hT hw0 hE hne hsc
  go_enter Tryd.func7, Tryd.ntmps7
  go_wp2_with fail
  (with_reducible refine (c0.out w (Below.refl _ _)).mono ?_)
  rintro e w1 ⟨rfl, hx⟩
  have hb1 := hx
  clear hx
  go_wp2_with fail
  (with_reducible refine (c1.out w1 hb1).mono ?_)
  rintro e w2 ⟨rfl, hx⟩
  have hb2 := hb1.trans (hx.mono hb1.size)
  clear hb1
  clear hx
  go_wp2_with fail
  (with_reducible refine (c2.out w2).mono ?_)
  rintro e w3 ⟨rfl, hx⟩
  have hb3 := hb2.trans (hx.mono hb2.size)
  clear hb2
  clear hx
  go_wp2_with fail
  (with_reducible refine (c3.out w3 hb3).mono ?_)
  rintro e w4 ⟨rfl, hx⟩
  have hb4 := hb3.trans (hx.mono hb3.size)
  clear hb3
  clear hx
  go_wp2_with fail
  (with_reducible refine (d1.out w4 hb4).mono ?_)
  rintro e w5 ⟨⟨vx, rfl, kx⟩, hx⟩
  have hb5 := hb4.trans (hx.mono hb4.size)
  clear hb4
  clear hx
  replace kx := Lib.hid kx
  go_wp2_with fail
  (with_reducible refine (d2.out w5 hb5).mono ?_)
  rintro e w6 ⟨⟨vy, rfl, ky⟩, hx⟩
  have hb6 := hb5.trans (hx.mono hb5.size)
  replace kx := Lib.hid (kx.out.next hx)
  clear hb5
  clear hx
  replace ky := Lib.hid ky
  go_wp2_with fail
  (with_reducible refine (d3.out w6 hb6).mono ?_)
  rintro e w7 ⟨⟨vz, rfl, kz⟩, hx⟩
  have hb7 := hb6.trans (hx.mono hb6.size)
  replace kx := Lib.hid (kx.out.next hx)
  replace ky := Lib.hid (ky.out.next hx)
  clear hb6
  clear hx
  replace kz := Lib.hid kz
  go_wp2_with fail
  (with_reducible refine (d4.out w7 hb7).mono ?_)
  rintro e w8 ⟨⟨va, rfl, ka⟩, hx⟩
  have hb8 := hb7.trans (hx.mono hb7.size)
  replace kx := Lib.hid (kx.out.next hx)
  replace ky := Lib.hid (ky.out.next hx)
  replace kz := Lib.hid (kz.out.next hx)
  clear hb7
  clear hx
  replace ka := Lib.hid ka
  go_wp2_with fail
  (with_reducible refine (c2.out w8).mono ?_)
  rintro e w9 ⟨rfl, hx⟩
  have hb9 := hb8.trans (hx.mono hb8.size)
  replace kx := Lib.hid (kx.out.next hx)
  replace ky := Lib.hid (ky.out.next hx)
  replace kz := Lib.hid (kz.out.next hx)
  replace ka := Lib.hid (ka.out.next hx)
  clear hb8
  clear hx
  go_wp2_with fail
  (with_reducible refine (ints_same ka.out kx.out).mono ?_)
  rintro e w10 ⟨rfl, hx⟩
  have hb10 := hb9.trans (hx.mono hb9.size)
  replace kx := Lib.hid (kx.out.next hx)
  replace ky := Lib.hid (ky.out.next hx)
  replace kz := Lib.hid (kz.out.next hx)
  replace ka := Lib.hid (ka.out.next hx)
  clear hb9
  clear hx
  go_wp2_with fail
  (with_reducible refine (d5.out w10 hb10).mono ?_)
  rintro e w11 ⟨⟨vb, rfl, kb⟩, hx⟩
  have hb11 := hb10.trans (hx.mono hb10.size)
  replace kx := Lib.hid (kx.out.next hx)
  replace ky := Lib.hid (ky.out.next hx)
  replace kz := Lib.hid (kz.out.next hx)
  replace ka := Lib.hid (ka.out.next hx)
  clear hb10
  clear hx
  replace kb := Lib.hid kb
  go_wp2_with fail
  (with_reducible refine (c2.out w11).mono ?_)
  rintro e w12 ⟨rfl, hx⟩
  have hb12 := hb11.trans (hx.mono hb11.size)
  replace kx := Lib.hid (kx.out.next hx)
  replace ky := Lib.hid (ky.out.next hx)
  replace kz := Lib.hid (kz.out.next hx)
  replace ka := Lib.hid (ka.out.next hx)
  replace kb := Lib.hid (kb.out.next hx)
  clear hb11
  clear hx
  go_wp2_with fail
  (with_reducible refine (ints_same kb.out ky.out).mono ?_)
  rintro e w13 ⟨rfl, hx⟩
  have hb13 := hb12.trans (hx.mono hb12.size)
  replace kx := Lib.hid (kx.out.next hx)
  replace ky := Lib.hid (ky.out.next hx)
  replace kz := Lib.hid (kz.out.next hx)
  replace ka := Lib.hid (ka.out.next hx)
  replace kb := Lib.hid (kb.out.next hx)
  clear hb12
  clear hx
  go_wp2_with fail
  (with_reducible refine (d6.out w13 hb13).mono ?_)
  rintro e w14 ⟨⟨vc, rfl, kc⟩, hx⟩
  have hb14 := hb13.trans (hx.mono hb13.size)
  replace kx := Lib.hid (kx.out.next hx)
  replace ky := Lib.hid (ky.out.next hx)
  replace kz := Lib.hid (kz.out.next hx)
  replace ka := Lib.hid (ka.out.next hx)
  replace kb := Lib.hid (kb.out.next hx)
  clear hb13
  clear hx
  replace kc := Lib.hid kc
  go_wp2_with fail
  (with_reducible refine (c2.out w14).mono ?_)
  rintro e w15 ⟨rfl, hx⟩
  have hb15 := hb14.trans (hx.mono hb14.size)
  replace kx := Lib.hid (kx.out.next hx)
  replace ky := Lib.hid (ky.out.next hx)
  replace kz := Lib.hid (kz.out.next hx)
  replace ka := Lib.hid (ka.out.next hx)
  replace kb := Lib.hid (kb.out.next hx)
  replace kc := Lib.hid (kc.out.next hx)
  clear hb14
  clear hx
  go_wp2_with fail
  (with_reducible refine (ints_same kc.out kz.out).mono ?_)
  rintro e w16 ⟨rfl, hx⟩
  have hb16 := hb15.trans (hx.mono hb15.size)
  replace kx := Lib.hid (kx.out.next hx)
  replace ky := Lib.hid (ky.out.next hx)
  replace kz := Lib.hid (kz.out.next hx)
  replace ka := Lib.hid (ka.out.next hx)
  replace kb := Lib.hid (kb.out.next hx)
  replace kc := Lib.hid (kc.out.next hx)
  clear hb15
  clear hx
  go_wp2_with fail
  (with_reducible refine (e1.out w16 hb16).mono ?_)
  rintro e w17 ⟨rfl, hx⟩
  have hb17 := hb16.trans (hx.mono hb16.size)
  replace kx := Lib.hid (kx.out.next hx)
  replace ky := Lib.hid (ky.out.next hx)
  replace kz := Lib.hid (kz.out.next hx)
  replace ka := Lib.hid (ka.out.next hx)
  replace kb := Lib.hid (kb.out.next hx)
  replace kc := Lib.hid (kc.out.next hx)
  clear hb16
  clear hx
  go_wp2_with fail
  (with_reducible refine (e2.out w17 hb17).mono ?_)
  rintro e w18 ⟨rfl, hx⟩
  have hb18 := hb17.trans (hx.mono hb17.size)
  replace kx := Lib.hid (kx.out.next hx)
  replace ky := Lib.hid (ky.out.next hx)
  replace kz := Lib.hid (kz.out.next hx)
  replace ka := Lib.hid (ka.out.next hx)
  replace kb := Lib.hid (kb.out.next hx)
  replace kc := Lib.hid (kc.out.next hx)
  clear hb17
  clear hx
  go_wp2_with fail
  (with_reducible refine (e3.out w18 hb18).mono ?_)
  rintro e w19 ⟨rfl, hx⟩
  have hb19 := hb18.trans (hx.mono hb18.size)
  replace kx := Lib.hid (kx.out.next hx)
  replace ky := Lib.hid (ky.out.next hx)
  replace kz := Lib.hid (kz.out.next hx)
  replace ka := Lib.hid (ka.out.next hx)
  replace kb := Lib.hid (kb.out.next hx)
  replace kc := Lib.hid (kc.out.next hx)
  clear hb18
  clear hx
  go_wp2_with fail
  go_ret
  exact ⟨rfl, hb19⟩
set_option maxRecDepth 20000 in
set_option maxHeartbeats 8000000 in
theorem fsays_two (m t : List Nat) (s : List Nat) (f v u : Value) (w : World) (hf : Ints w w.heap.size f (zs m)) (hv : Ints w w.heap.size v (zs s)) (hu : Ints w w.heap.size u (zs t)) (hg : Fld.Good m) (hl : t.length ≤ 24) (ht : ∀ x ∈ t, x < m.length) (hl1 : s.length ≤ 24) (hs : ∀ x ∈ s, x < m.length) (hT : Tab w) :
    Calls Tryd.prog 7 #[f, v, u] w fun e w' => e = .returned (.bool true) ∧ Below w.heap.size w w' := by
  have hw0 := wordCode_ok hg hl ht
  have c0 := Lib.hid fun (w1 : World) (hb : Below w.heap.size w w1) => fcheck_good m f w1 (hf.later hb) hg (hT.below hb)
  have c1 := Lib.hid fun (w1 : World) (hb : Below w.heap.size w w1) => rfree0 m f w1 (hf.later hb) hg
  have c2 := Lib.hid fun (w1 : World) => error0 w1
  have c3 := Lib.hid fun (w1 : World) (hb : Below w.heap.size w w1) => rword0 (zs m) (zs t) f u w1 (hf.later hb) (hu.later hb) hw0
  have d1 := Lib.hid fun (w1 : World) (hb : Below w.heap.size w w1) => kw (rsteps_calls m t f u w1 (hf.later hb) (hu.later hb) hg hl ht) (fun _ _ h => h)
  have d2 := Lib.hid fun (w1 : World) (hb : Below w.heap.size w w1) => kw (rleast_calls m t f u w1 (hf.later hb) (hu.later hb) hg hl ht) (fun _ _ h => h)
  have d3 := Lib.hid fun (w1 : World) (hb : Below w.heap.size w w1) => kw (rahead_calls m t f u w1 (hf.later hb) (hu.later hb) hg hl ht) (fun _ _ h => h)
  have d4 := Lib.hid fun (w1 : World) (hb : Below w.heap.size w w1) => kw (g := fun v' => .returned (.tuple #[v', .nilIface])) (fsteps_ok m t f u w1 (hf.later hb) (hu.later hb) hg hl ht (hT.below hb)) (fun _ _ h => h)
  have d5 := Lib.hid fun (w1 : World) (hb : Below w.heap.size w w1) => kw (g := fun v' => .returned (.tuple #[v', .nilIface])) (least_ok m t f u w1 (hf.later hb) (hu.later hb) hg hl ht (hT.below hb)) (fun _ _ h => h)
  have d6 := Lib.hid fun (w1 : World) (hb : Below w.heap.size w w1) => kw (g := fun v' => .returned (.tuple #[v', .nilIface])) (fahead_ok m t f u w1 (hf.later hb) (hu.later hb) hg hl ht (hT.below hb)) (fun _ _ h => h)
  have e1 := Lib.hid fun (w1 : World) (hb : Below w.heap.size w w1) => rword0 (zs m) (zs s) f v w1 (hf.later hb) (hv.later hb) (wordCode_ok hg hl1 hs)
  have e2 := Lib.hid fun (w1 : World) (hb : Below w.heap.size w w1) => rsame_words m s t f v u w1 (hf.later hb) (hv.later hb) (hu.later hb) hg hl1 hl
  have e3 := Lib.hid fun (w1 : World) (hb : Below w.heap.size w w1) => same_ok m s t f v u w1 (hf.later hb) (hv.later hb) (hu.later hb) hg hl1 hs hl ht (hT.below hb)
  have hb0 : decide (Fld.steps m s = Fld.steps m t) = Fld.alikeB m s t := by
    rw [Bool.eq_iff_iff, decide_eq_true_eq, Fld.alikeB_iff hg]
    exact Fld.steps_eq_iff hg hs ht
  rw [hb0] at e3
  have tib : (Fld.alikeB m s t == Fld.alikeB m s t) = true := by simp
  generalize Fld.alikeB m s t = ib at *
  generalize zs (Fld.steps m t) = sl at *
  generalize zs (Fld.least m t) = ll at *
  generalize zs (Fld.ahead m t) = al at *
  clear hf hv hu hg hl ht hT hw0 hl1 hs hb0
  go_enter Tryd.func7, Tryd.ntmps7
  go_wp2_with fail
  (with_reducible refine (c0.out w (Below.refl _ _)).mono ?_)
  rintro e w1 ⟨rfl, hx⟩
  have hb1 := hx
  clear hx
  go_wp2_with fail
  (with_reducible refine (c1.out w1 hb1).mono ?_)
  rintro e w2 ⟨rfl, hx⟩
  have hb2 := hb1.trans (hx.mono hb1.size)
  clear hb1
  clear hx
  go_wp2_with fail
  (with_reducible refine (c2.out w2).mono ?_)
  rintro e w3 ⟨rfl, hx⟩
  have hb3 := hb2.trans (hx.mono hb2.size)
  clear hb2
  clear hx
  go_wp2_with fail
  (with_reducible refine (c3.out w3 hb3).mono ?_)
  rintro e w4 ⟨rfl, hx⟩
  have hb4 := hb3.trans (hx.mono hb3.size)
  clear hb3
  clear hx
  go_wp2_with fail
  (with_reducible refine (d1.out w4 hb4).mono ?_)
  rintro e w5 ⟨⟨vx, rfl, kx⟩, hx⟩
  have hb5 := hb4.trans (hx.mono hb4.size)
  clear hb4
  clear hx
  replace kx := Lib.hid kx
  go_wp2_with fail
  (with_reducible refine (d2.out w5 hb5).mono ?_)
  rintro e w6 ⟨⟨vy, rfl, ky⟩, hx⟩
  have hb6 := hb5.trans (hx.mono hb5.size)
  replace kx := Lib.hid (kx.out.next hx)
  clear hb5
  clear hx
  replace ky := Lib.hid ky
  go_wp2_with fail
  (with_reducible refine (d3.out w6 hb6).mono ?_)
  rintro e w7 ⟨⟨vz, rfl, kz⟩, hx⟩
  have hb7 := hb6.trans (hx.mono hb6.size)
  replace kx := Lib.hid (kx.out.next hx)
  replace ky := Lib.hid (ky.out.next hx)
  clear hb6
  clear hx
  replace kz := Lib.hid kz
  go_wp2_with fail
  (with_reducible refine (d4.out w7 hb7).mono ?_)
  rintro e w8 ⟨⟨va, rfl, ka⟩, hx⟩
  have hb8 := hb7.trans (hx.mono hb7.size)
  replace kx := Lib.hid (kx.out.next hx)
  replace ky := Lib.hid (ky.out.next hx)
  replace kz := Lib.hid (kz.out.next hx)
  clear hb7
  clear hx
  replace ka := Lib.hid ka
  go_wp2_with fail
  (with_reducible refine (c2.out w8).mono ?_)
  rintro e w9 ⟨rfl, hx⟩
  have hb9 := hb8.trans (hx.mono hb8.size)
  replace kx := Lib.hid (kx.out.next hx)
  replace ky := Lib.hid (ky.out.next hx)
  replace kz := Lib.hid (kz.out.next hx)
  replace ka := Lib.hid (ka.out.next hx)
  clear hb8
  clear hx
  go_wp2_with fail
  (with_reducible refine (ints_same ka.out kx.out).mono ?_)
  rintro e w10 ⟨rfl, hx⟩
  have hb10 := hb9.trans (hx.mono hb9.size)
  replace kx := Lib.hid (kx.out.next hx)
  replace ky := Lib.hid (ky.out.next hx)
  replace kz := Lib.hid (kz.out.next hx)
  replace ka := Lib.hid (ka.out.next hx)
  clear hb9
  clear hx
  go_wp2_with fail
  (with_reducible refine (d5.out w10 hb10).mono ?_)
  rintro e w11 ⟨⟨vb, rfl, kb⟩, hx⟩
  have hb11 := hb10.trans (hx.mono hb10.size)
  replace kx := Lib.hid (kx.out.next hx)
  replace ky := Lib.hid (ky.out.next hx)
  replace kz := Lib.hid (kz.out.next hx)
  replace ka := Lib.hid (ka.out.next hx)
  clear hb10
  clear hx
  replace kb := Lib.hid kb
  go_wp2_with fail
  (with_reducible refine (c2.out w11).mono ?_)
  rintro e w12 ⟨rfl, hx⟩
  have hb12 := hb11.trans (hx.mono hb11.size)
  replace kx := Lib.hid (kx.out.next hx)
  replace ky := Lib.hid (ky.out.next hx)
  replace kz := Lib.hid (kz.out.next hx)
  replace ka := Lib.hid (ka.out.next hx)
  replace kb := Lib.hid (kb.out.next hx)
  clear hb11
  clear hx
  go_wp2_with fail
  (with_reducible refine (ints_same kb.out ky.out).mono ?_)
  rintro e w13 ⟨rfl, hx⟩
  have hb13 := hb12.trans (hx.mono hb12.size)
  replace kx := Lib.hid (kx.out.next hx)
  replace ky := Lib.hid (ky.out.next hx)
  replace kz := Lib.hid (kz.out.next hx)
  replace ka := Lib.hid (ka.out.next hx)
  replace kb := Lib.hid (kb.out.next hx)
  clear hb12
  clear hx
  go_wp2_with fail
  (with_reducible refine (d6.out w13 hb13).mono ?_)
  rintro e w14 ⟨⟨vc, rfl, kc⟩, hx⟩
  have hb14 := hb13.trans (hx.mono hb13.size)
  replace kx := Lib.hid (kx.out.next hx)
  replace ky := Lib.hid (ky.out.next hx)
  replace kz := Lib.hid (kz.out.next hx)
  replace ka := Lib.hid (ka.out.next hx)
  replace kb := Lib.hid (kb.out.next hx)
  clear hb13
  clear hx
  replace kc := Lib.hid kc
  go_wp2_with fail
  (with_reducible refine (c2.out w14).mono ?_)
  rintro e w15 ⟨rfl, hx⟩
  have hb15 := hb14.trans (hx.mono hb14.size)
  replace kx := Lib.hid (kx.out.next hx)
  replace ky := Lib.hid (ky.out.next hx)
  replace kz := Lib.hid (kz.out.next hx)
  replace ka := Lib.hid (ka.out.next hx)
  replace kb := Lib.hid (kb.out.next hx)
  replace kc := Lib.hid (kc.out.next hx)
  clear hb14
  clear hx
  go_wp2_with fail
  (with_reducible refine (ints_same kc.out kz.out).mono ?_)
  rintro e w16 ⟨rfl, hx⟩
  have hb16 := hb15.trans (hx.mono hb15.size)
  replace kx := Lib.hid (kx.out.next hx)
  replace ky := Lib.hid (ky.out.next hx)
  replace kz := Lib.hid (kz.out.next hx)
  replace ka := Lib.hid (ka.out.next hx)
  replace kb := Lib.hid (kb.out.next hx)
  replace kc := Lib.hid (kc.out.next hx)
  clear hb15
  clear hx
  go_wp2_with fail
  (with_reducible refine (e1.out w16 hb16).mono ?_)
  rintro e w17 ⟨rfl, hx⟩
  have hb17 := hb16.trans (hx.mono hb16.size)
  replace kx := Lib.hid (kx.out.next hx)
  replace ky := Lib.hid (ky.out.next hx)
  replace kz := Lib.hid (kz.out.next hx)
  replace ka := Lib.hid (ka.out.next hx)
  replace kb := Lib.hid (kb.out.next hx)
  replace kc := Lib.hid (kc.out.next hx)
  clear hb16
  clear hx
  go_wp2_with fail
  (with_reducible refine (e2.out w17 hb17).mono ?_)
  rintro e w18 ⟨rfl, hx⟩
  have hb18 := hb17.trans (hx.mono hb17.size)
  replace kx := Lib.hid (kx.out.next hx)
  replace ky := Lib.hid (ky.out.next hx)
  replace kz := Lib.hid (kz.out.next hx)
  replace ka := Lib.hid (ka.out.next hx)
  replace kb := Lib.hid (kb.out.next hx)
  replace kc := Lib.hid (kc.out.next hx)
  clear hb17
  clear hx
  go_wp2_with fail
  (with_reducible refine (e3.out w18 hb18).mono ?_)
  rintro e w19 ⟨rfl, hx⟩
  have hb19 := hb18.trans (hx.mono hb18.size)
  replace kx := Lib.hid (kx.out.next hx)
  replace ky := Lib.hid (ky.out.next hx)
  replace kz := Lib.hid (kz.out.next hx)
  replace ka := Lib.hid (ka.out.next hx)
  replace kb := Lib.hid (kb.out.next hx)
  replace kc := Lib.hid (kc.out.next hx)
  clear hb18
  clear hx
  go_wp2_with fail
  (with_reducible refine (c2.out w19).mono ?_)
  rintro e w20 ⟨rfl, hx⟩
  have hb20 := hb19.trans (hx.mono hb19.size)
  replace kx := Lib.hid (kx.out.next hx)
  replace ky := Lib.hid (ky.out.next hx)
  replace kz := Lib.hid (kz.out.next hx)
  replace ka := Lib.hid (ka.out.next hx)
  replace kb := Lib.hid (kb.out.next hx)
  replace kc := Lib.hid (kc.out.next hx)
  clear hb19
  clear hx
  go_wp2_with fail
  go_ret
  exact ⟨rfl, hb20⟩
/-- the law at every input -/
theorem fsays_calls (l q r : List Int) (f v u : Value) (w : World) (hf : Ints w w.heap.size f l) (hv : Ints w w.heap.size v q) (hu : Ints w w.heap.size u r) (hT : Tab w) (hE : ErrTy w) :
    Calls Tryd.prog 7 #[f, v, u] w fun e w' => e = .returned (.bool true) ∧ Below w.heap.size w w' := by
  by_cases h : wordCode l r = 0
  · obtain ⟨m, t, rfl, rfl, hg, hl, ht⟩ := wordCode_zero h
    by_cases hq : wordCode (zs m) q = 0
    · obtain ⟨m', s, e1, rfl, _, h2, h3⟩ := wordCode_zero hq
      obtain rfl := zs_inj e1
      exact fsays_two m t s f v u w hf hv hu hg hl ht h2 h3 hT
    · exact fsays_one m t q f v u w hf hv hu hg hl ht hq hT hE
  · exact fsays_err l q r f v u w hf hv hu h hT hE
end Go.Proofs.YtoedgncbgkdmoaaDoor
