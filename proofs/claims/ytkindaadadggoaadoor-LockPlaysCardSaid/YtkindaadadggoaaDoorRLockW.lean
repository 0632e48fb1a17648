/- Contract of the reference's Waits. Conditions: the contract's own premises. -/
import Derived.Test.YtkindaadadggoaaDoorRLock
import Derived.StillTailTactics
namespace Go.Proofs.YtkindaadadggoaaDoor
open Go.RowKit

theorem waits_take (l : Lk.L) {t : Nat} (h : t < 5) : (Lk.waits l).take (t + 1) = (Lk.waits l).take t ++ [Lk.waitOf l t] := by
  rw [List.take_add_one]
  have e : (Lk.waits l)[t]? = some (Lk.waitOf l t) := by
    unfold Lk.waits
    rw [List.getElem?_map, List.getElem?_range h]; rfl
  rw [e]; rfl
theorem own_down {w : World} {base base' : Nat} {v : Value} {l : List Int} (h : Own w base v l) (hb : base' ≤ base) : Own w base' v l := by
  obtain ⟨q1, q2⟩ := h
  refine ⟨q1, ?_⟩
  rcases q2 with q | ⟨g, cap, cur, he, hg, r⟩
  · exact .inl q
  · exact .inr ⟨g, cap, cur, he, Nat.le_trans hb hg, r⟩
set_option maxRecDepth 20000 in
set_option maxHeartbeats 2000000 in
theorem rwaits_calls (l : Lk.L) (vh vw va : Value) (B : Nat) (w : World) (hB : B ≤ w.heap.size) (hI : Lk.Inv l) (hr : Ints w B vh (zs (Lk.holds l))) (hu : Ints w B vw (Lk.wantsI l)) :
    Calls Tryd.prog 42 #[.agg #[vh, vw, nv l.shr, va]] w fun e w' => ∃ v', e = .returned v' ∧ Own w' w.heap.size v' (zs (Lk.waits l)) ∧ Below w.heap.size w w' := by
  have HR := Lib.hid hr
  have HU := Lib.hid hu
  have hlen := Lk.length_wantsI l
  obtain ⟨A, cap, he⟩ := Rd.val hu
  rw [hlen] at he
  subst he
  clear hr hu
  go_enter Tryd.func42, Tryd.ntmps42
  go_wp2_with fail
  have hbw := (Below.refl w.heap.size w).alloc (Nat.le_refl _) (.cells #[vh, .slice A 5 cap, nv l.shr, va] 62)
  have HBW := Lib.hid hbw
  have HR1 := Lib.hid (Rd.below HR.out (hbw.mono hB))
  have HU1 := Lib.hid (Rd.below HU.out (hbw.mono hB))
  have k0 : (w.alloc (.cells #[vh, .slice A 5 cap, nv l.shr, va] 62)).cell? ⟨w.heap.size, 0, none⟩ = some vh := by rw [World.cell?_alloc_new]; rfl
  have k1 : (w.alloc (.cells #[vh, .slice A 5 cap, nv l.shr, va] 62)).cell? ⟨w.heap.size, 1, none⟩ = some (.slice A 5 cap) := by rw [World.cell?_alloc_new]; rfl
  have k2 : (w.alloc (.cells #[vh, .slice A 5 cap, nv l.shr, va] 62)).cell? ⟨w.heap.size, 2, none⟩ = some (nv l.shr) := by rw [World.cell?_alloc_new]; rfl
  have k3 : (w.alloc (.cells #[vh, .slice A 5 cap, nv l.shr, va] 62)).cell? ⟨w.heap.size, 3, none⟩ = some va := by rw [World.cell?_alloc_new]; rfl
  have HQ : w.heap.size < (w.alloc (.cells #[vh, .slice A 5 cap, nv l.shr, va] 62)).heap.size := by simp
  clear hbw HR HU
  generalize w.alloc _ = W at *
  have HBB := Lib.hid (show B ≤ W.heap.size by omega)
  have HK := Lib.hid (And.intro k0 (And.intro k1 (And.intro k2 k3)))
  clear k0 k1 k2 k3
  go_loopw [3, 4] (fun ov tv wr => ∃ (t : Nat) (v' : Value), t ≤ 5 ∧ ov = v' ∧ tv = nv t ∧ Hid (Own wr W.heap.size v' (zs ((Lk.waits l).take t))) ∧ Hid (Below W.heap.size W wr)) (fun _ tv _ => 5 - (intOf tv).toNat)
  case atStart => exact ⟨0, _, by omega, rfl, rfl, Lib.hid (Own.nil _ _), Lib.hid (Below.refl _ _)⟩
  case round =>
    obtain ⟨t, v', ht, hv', rfl, hown, hb⟩ := hrel
    replace hv' := hv'.symm
    subst hv'
    have hsz := hb.out.size
    obtain ⟨e0, e1, e2, e3⟩ := HK.out
    have c0 := (hb.out.cell (p := ⟨w.heap.size, 0, none⟩) HQ).trans e0
    have c1 := (hb.out.cell (p := ⟨w.heap.size, 1, none⟩) HQ).trans e1
    have c2 := (hb.out.cell (p := ⟨w.heap.size, 2, none⟩) HQ).trans e2
    have c3 := (hb.out.cell (p := ⟨w.heap.size, 3, none⟩) HQ).trans e3
    clear e0 e1 e2 e3
    by_cases ht5 : t < 5
    · obtain ⟨b1, off, c1', he, hbb, d0⟩ := Ints.at_ (Rd.below HU1.out (hb.out.mono HBB.out)) (k := t) (by rw [hlen]; exact ht5)
      rw [hlen] at he
      cases he
      have hel : (Lk.wantsI l)[t]'(by rw [hlen]; exact ht5) = Lk.code (l.wants.getD t none) := by simp [Lk.wantsI, Lk.wantI]
      rw [hel] at d0
      have hag := Lib.hid fun (i o : Nat) (hi : i < 4) (ho : o < 2) (w5 : World) (h5 : Below W.heap.size W w5) => against_calls l t i o vh (.slice (some ⟨b1, off, none⟩) 5 cap) va B w5 (Nat.le_trans HBB.out h5.size) (Rd.below HR1.out (h5.mono HBB.out)) hi ho
      have hrg := hI.2.2.2.2.2.2.2.2.1 t
      cases ho : l.wants.getD t none with
      | none =>
        rw [ho] at d0
        replace d0 : wr.cell? ⟨b1, off + t, none⟩ = some (.int .i64 (-1)) := d0
        clear hag hel hrg
        have HW := Lib.hid (show zs ((Lk.waits l).take (t + 1)) = zs ((Lk.waits l).take t) ++ [0] by rw [waits_take l ht5, Lk.waitOf, ho]; simp [zs])
        go_wp2_with (at_builtin; refine append_int rfl _ _ rfl W.heap.size _ (zs ((Lk.waits l).take t)) rfl (Own.alloc hown.out _) wr.heap.size rfl (0 : Int) (by simp) (by rw [length_zs, List.length_take]; omega) (by simp; omega) ?_; intro v6 w6 hown6 hb6 _)
        have HO6 := Lib.hid (show Own w6 W.heap.size v6 (zs ((Lk.waits l).take (t + 1))) by rw [HW.out]; exact hown6)
        have HB6 := Lib.hid ((hb.out.alloc hsz (.cells #[.int .i64 0] 3)).trans hb6)
        clear hown6 hb6
        go_wp2_with fail
        go_roundw
        case rel => exact ⟨t + 1, _, by omega, rfl, by go_num, HO6, HB6⟩
        case measure => simp [intOf]; omega
      | some p =>
        obtain ⟨i, o⟩ := p
        obtain ⟨hi, ho2⟩ := hrg i o ho
        rw [ho] at d0
        replace d0 : wr.cell? ⟨b1, off + t, none⟩ = some (nv (i * 2 + o)) := d0
        have hcall := Lib.hid (hag.out i o hi ho2)
        clear hag hel hrg
        go_wp2_with fail
        refine wp_region_still_tail 15 (by kernel_rfl) (by kernel_rfl) ?_
        simp only [List.take_succ_cons, List.take_zero, List.drop_succ_cons, List.drop_zero]
        repeat still_step
        refine wpStill_nil ?_
        have q1 : ((i : Int) * 2 + (o : Int)) / 2 = (i : Int) := by omega
        have q2 : (((i : Int) * 2 + (o : Int)) % 2 == 1) = decide (o = 1) := by
          have h : ((i : Int) * 2 + (o : Int)) % 2 = (o : Int) := by omega
          rw [h, Bool.eq_iff_iff]; simp; omega
        go_wp2_with fail
        rw [q1, q2]
        have HBZ := Lib.hid hb.out.drew
        first | refine (hcall.out _ hb.out).mono ?_ | refine (hcall.out _ HBZ.out).mono ?_
        rintro e w7 ⟨rfl, hb7⟩
        rw [Lk.against_blk hI]
        have HW := Lib.hid (show zs ((Lk.waits l).take (t + 1)) = zs ((Lk.waits l).take t) ++ [((Lk.blk l t i o : Nat) : Int)] by rw [waits_take l ht5, Lk.waitOf, ho]; simp [zs])
        have HO7 := Lib.hid (show Own w7 W.heap.size v' (zs ((Lk.waits l).take t)) from World.ownsRow.kept (row := none) hown.out ⟨hb7.os, hb7.tape, hb7.output, hb7.size, fun k hk _ => hb7.block k hk⟩ (by cases hv : v'.ownBlock <;> simp))
        have HB7 := Lib.hid (HBZ.out.trans (hb7.mono HBZ.out.size))
        have hs7 : wr.heap.size ≤ w7.heap.size := hb7.size
        generalize Lk.blk l t i o = S at *
        clear hcall q1 q2 hb7 c0 c1 c2 c3 d0
        go_wp2_with (at_builtin; refine append_int rfl _ _ rfl W.heap.size _ (zs ((Lk.waits l).take t)) rfl (Own.alloc HO7.out _) w7.heap.size rfl ((S : Nat) : Int) (by simp) (by rw [length_zs, List.length_take]; omega) (by simp; omega) ?_; intro v6 w6 hown6 hb6 _)
        have HO6 := Lib.hid (show Own w6 W.heap.size v6 (zs ((Lk.waits l).take (t + 1))) by rw [HW.out]; exact hown6)
        have HB6 := Lib.hid ((HB7.out.alloc HB7.out.size (.cells #[nv S] 3)).trans hb6)
        clear hown6 hb6
        go_wp2_with fail
        go_roundw
        case rel => exact ⟨t + 1, _, by omega, rfl, by go_num, HO6, HB6⟩
        case measure => simp [intOf]; omega
    · obtain rfl : t = 5 := by omega
      have HW := Lib.hid (show (Lk.waits l).take 5 = Lk.waits l by rw [List.take_of_length_le]; rw [Lk.length_waits]; omega)
      go_wp2_with fail
      go_ret
      refine ⟨_, rfl, ?_, HBW.out.trans (hb.out.mono HBW.out.size)⟩
      have h := hown.out
      rw [HW.out] at h
      exact own_down h (by omega)
end Go.Proofs.YtkindaadadggoaaDoor
