/- Contract of view.Do at reads of what others wrote. Conditions: the contract's own premises. -/
import Derived.Test.YtkindaadadggoaaDoorVDo
import Derived.Deep.RegionHeld3
namespace Go.Proofs.YtkindaadadggoaaDoor
open Go.RowKit

set_option maxRecDepth 20000 in
theorem run_vfield (p q : Value) (w : World) : (Instr.field 106 (.agg #[p, q]) 0).run Tryd.prog w = .ok p w := rfl
set_option maxRecDepth 20000 in
set_option maxHeartbeats 4000000 in
theorem vdo_read (v : Vw.V) (x i : Nat) (b : Nat) (vs : Nat → Value) (w : World) (h : StAt w b v vs) (hI : Vw.Inv v) (hx : x < 5) (hi : i < 4) (hp : (Vw.tx v x).ph = 1) (hw : (Vw.tx v x).wrt.testBit i = false) :
    Calls Tryd.prog 25 #[.pointer (some ⟨b, 0, none⟩), dval (.int .i64 3) (nv x) (nv i) (.int .i64 0)] w fun e w' => e = .returned (.tuple #[iv (Vw.seen (Vw.verl v i) (Vw.tx v x).bg).1, .nilIface]) ∧
      StTo w b vs (Vw.put v x { Vw.tx v x with rds := (Vw.tx v x).rds ||| 2 ^ i, frm := (Vw.tx v x).frm.set i (Vw.seen (Vw.verl v i) (Vw.tx v x).bg).1 }) w' := by
  have h0 := h.alloc (dobj (.int .i64 3) (nv x) (nv i) (.int .i64 0))
  have h1 := h0.ph hx
  have h2 := h0.wrt hx
  have h3 := h0.rds hx
  have h4 := h0.1.frozen (1 + x * 9 + 3)
  have hb := h.1.lt
  have hw16 := hI.wlt x
  have hr16 := hI.rlt x
  have hfl := hI.frl x
  have hand := bits_and_shlV (Vw.tx v x).wrt i (by omega) (by omega)
  rw [and_powV, if_neg (by rw [hw]; simp)] at hand
  simp only [Int.natCast_zero] at hand
  have hor := bits_or_shl (Vw.tx v x).rds i (by omega) (by omega)
  obtain ⟨v1, hv1⟩ : ∃ v1, v1 = Vw.put v x { Vw.tx v x with rds := (Vw.tx v x).rds ||| 2 ^ i } := ⟨_, rfl⟩
  have htx1 : Vw.tx v1 x = { Vw.tx v x with rds := (Vw.tx v x).rds ||| 2 ^ i } := by rw [hv1, Vw.tx_put hI.ltx hx, if_pos rfl]
  have HW1 := Lib.hid (show ∀ n, StAt (((w.alloc (dobj (.int .i64 3) (nv x) (nv i) (.int .i64 0))).drewN n).setCell ⟨b, 1 + x * 9 + 3, none⟩ (nv ((Vw.tx v x).rds ||| 2 ^ i))) b v1 vs from fun n => by
    rw [hv1]
    exact (h0.drewN n).put hI.ltx hx (c := 3) (by decide) (nv ((Vw.tx v x).rds ||| 2 ^ i)) { Vw.tx v x with rds := (Vw.tx v x).rds ||| 2 ^ i } (fun d hd => by
      match d with
      | 0 => rfl
      | 1 => rfl
      | 2 => rfl
      | 3 => rfl
      | 4 => rfl
      | d + 5 => rfl))
  have hver : Vw.verl v1 i = Vw.verl v i := by rw [hv1]; rfl
  have hse := Lib.hid fun (w5 : World) (h5 : StAt w5 b v1 vs) => vseen_calls v1 b vs w5 h5 i (Vw.tx v x).bg hi (by rw [hver]; exact hI.hed i hi) (by rw [hver]; exact hI.few hi)
  rw [hver] at hse
  obtain ⟨sn, hsn⟩ : ∃ sn, sn = Vw.seen (Vw.verl v i) (Vw.tx v x).bg := ⟨_, rfl⟩
  rw [← hsn] at hse
  have HFIN := Lib.hid (show ∀ w2 : World, StAt w2 b v1 vs → StAt (w2.setCell ⟨b, 1 + x * 9 + 5 + i, none⟩ (iv sn.1)) b (Vw.put v x { Vw.tx v x with rds := (Vw.tx v x).rds ||| 2 ^ i, frm := (Vw.tx v x).frm.set i sn.1 }) vs from fun w2 h2 => by
    have g := h2.put (by rw [hv1, length_put]; exact hI.ltx) hx (c := 5 + i) (by omega) (iv sn.1) { Vw.tx v x with rds := (Vw.tx v x).rds ||| 2 ^ i, frm := (Vw.tx v x).frm.set i sn.1 } (fun d hd => by
      rw [htx1]
      by_cases e : d = 5 + i
      · subst e
        rw [if_pos rfl, show 5 + i = i + 5 by omega]
        show iv sn.1 = iv (((Vw.tx v x).frm.set i sn.1).getD i 0)
        rw [Sch.getD_set, if_pos ⟨rfl, by omega⟩]
      · rw [if_neg e]
        match d with
        | 0 => rfl
        | 1 => rfl
        | 2 => rfl
        | 3 => rfl
        | 4 => rfl
        | d + 5 =>
          show iv ((Vw.tx v x).frm.getD d 0) = iv (((Vw.tx v x).frm.set i sn.1).getD d 0)
          rw [Sch.getD_set, if_neg (by omega)])
    rw [hv1, put_put, show 1 + x * 9 + (5 + i) = 1 + x * 9 + 5 + i by omega] at g
    exact g)
  have HBG := Lib.hid (show ∀ w5 : World, StAt w5 b v1 vs → w5.cell? ⟨b, 1 + x * 9 + 1, none⟩ = some (nv (Vw.tx v x).bg) from fun w5 h5 => by
    have := h5.bg hx
    rw [htx1] at this
    exact this)
  have HFR := Lib.hid (show ∀ w5 : World, StAt w5 b v1 vs → w5.cell? ⟨b, 1 + x * 9 + 5 + i, none⟩ = some (iv ((Vw.tx v1 x).frm.getD i 0)) ∧ w5.frozen? ⟨b, 1 + x * 9 + 5 + i, none⟩ = false from fun w5 h5 => ⟨h5.frm hx hi, h5.1.frozen _⟩)
  rw [hp] at h1
  have HON := Lib.hid (show ∀ n, Only (FootV b vs) w (((w.alloc (dobj (.int .i64 3) (nv x) (nv i) (.int .i64 0))).drewN n).setCell ⟨b, 1 + x * 9 + 3, none⟩ (nv ((Vw.tx v x).rds ||| 2 ^ i))) from fun n => (((Only.refl _ _).alloc _).drewN n).setCell (.inl (.inl rfl)) _)
  have HDC := Lib.hid (show ∀ n, (((w.alloc (dobj (.int .i64 3) (nv x) (nv i) (.int .i64 0))).drewN n).setCell ⟨b, 1 + x * 9 + 3, none⟩ (nv ((Vw.tx v x).rds ||| 2 ^ i))).cell? ⟨w.heap.size, 2, none⟩ = some (nv i) from fun n => by
    rw [World.cell?_setCell_far _ _ _ _ (by simp; omega)]
    show (w.alloc (dobj (.int .i64 3) (nv x) (nv i) (.int .i64 0))).cell? ⟨w.heap.size, 2, none⟩ = _
    rw [World.cell?_alloc_new]; rfl)
  have HSZ := Lib.hid (show ∀ n, (((w.alloc (dobj (.int .i64 3) (nv x) (nv i) (.int .i64 0))).drewN n).setCell ⟨b, 1 + x * 9 + 3, none⟩ (nv ((Vw.tx v x).rds ||| 2 ^ i))).heap.size = w.heap.size + 1 from fun n => by simp)
  rw [show Vw.seen (Vw.verl v i) (Vw.tx v x).bg = sn from hsn.symm]
  have HVF := Lib.hid (show ∀ w5 : World, StAt w5 b v1 vs → ∀ k, FootV b vs k → b ≤ k ∧ k < w5.heap.size from fun w5 h5 => h5.foot)
  generalize Vw.put v x { Vw.tx v x with rds := (Vw.tx v x).rds ||| 2 ^ i, frm := (Vw.tx v x).frm.set i sn.1 } = v2 at *
  generalize (Vw.tx v x).rds ||| 2 ^ i = nr at *
  generalize (Vw.tx v x).rds = rd at *
  generalize (Vw.tx v x).wrt = wt at *
  generalize (Vw.tx v x).bg = bg at *
  generalize (Vw.tx v1 x).frm.getD i 0 = fo at *
  clear h h0 hI hp hw hv1 htx1 hver hsn hfl
  obtain ⟨s1, s2⟩ := sn
  simp only at hse HFIN ⊢
  go_enter Tryd.func25, Tryd.ntmps25
  go_wp2_with (go_at_call 57; refine (within_yes _ _ _ _ (by omega) (by omega)).mono ?_; rintro e w' ⟨rfl, rfl⟩)
  go_quiet (fail)
  go_wp2_with fail
  have a1 := HW1.out nq
  have a2 := HON.out nq
  have a3 := HDC.out nq
  have a4 := HSZ.out nq
  generalize ((w.alloc (dobj (.int .i64 3) (nv x) (nv i) (.int .i64 0))).drewN nq).setCell ⟨b, 1 + x * 9 + 3, none⟩ (nv nr) = W1 at *
  have a5 := HBG.out W1 a1
  have hbW : b < W1.heap.size := a1.1.lt
  have hdW : w.heap.size < W1.heap.size := by omega
  have A1 := Lib.hid a1
  have A2 := Lib.hid a2
  clear h1 h2 h3 h4 hand hor a1 a2 HW1 HON HDC HSZ HBG
  have hfd := run_vfield
  have i1 : (i : Int) < 4 := by omega
  have i2 : (0 : Int) ≤ (i : Int) := by omega
  have n1 : ∀ j, (⟨b, 1 + x * 9 + 5 + i, none⟩ : Addr) ≠ ⟨w.heap.size, j, none⟩ := fun j e => by
    have h1 : b = w.heap.size := congrArg Addr.block e
    omega
  have n2 : (⟨b, 1 + x * 9 + 5 + i, none⟩ : Addr) ≠ ⟨b, 1 + x * 9 + 1, none⟩ := fun e => by
    have h1 : 1 + x * 9 + 5 + i = 1 + x * 9 + 1 := congrArg Addr.off e
    omega
  go_region_held3 (fun w' => w'.cell? ⟨w.heap.size, 2, none⟩ = some (nv i) ∧ w'.cell? ⟨b, 1 + x * 9 + 1, none⟩ = some (nv bg))
    (first | exact ⟨a3, a5⟩ | exact ⟨(hbz.cell hdW).trans a3, (hbz.cell hbW).trans a5⟩ | exact ⟨(World.cell?_setCell_other _ _ _ _ (n1 2)).trans ((hbz.cell hdW).trans a3), (World.cell?_setCell_other _ _ _ _ n2).trans ((hbz.cell hbW).trans a5)⟩)
    (first | (go_at_call 63; refine (hse.out W1.drew (A1.out.drewN 1)).mono ?_; rintro e w1 ⟨rfl, hbl⟩; have hbz : Below W1.heap.size W1 w1 := (Below.refl _ _).drew.trans hbl; have hst1 := A1.out.below hbz; obtain ⟨z1, z2⟩ := HFR.out w1 hst1))
  have q1 := World.cell?_setCell_same w1 ⟨b, 1 + x * 9 + 5 + i, none⟩ (.int .i64 s1) z1
  have q2 := (World.cell?_setCell_other w1 ⟨b, 1 + x * 9 + 5 + i, none⟩ ⟨w.heap.size, 2, none⟩ (.int .i64 s1) (n1 2)).trans ((hbz.cell hdW).trans a3)
  have HT := Lib.hid (show StTo w b vs v2 (w1.setCell ⟨b, 1 + x * 9 + 5 + i, none⟩ (.int .i64 s1)) from ⟨vs, HFIN.out w1 hst1, ((A2.out.trans (Only.of_below hbz (Nat.le_refl _) (fun _ => False)) (fun _ h => h.elim)).setCell (.inl (.inl rfl)) _), fun _ hk => .inl hk⟩)
  generalize w1.setCell ⟨b, 1 + x * 9 + 5 + i, none⟩ (.int .i64 s1) = W2 at *
  clear z1 z2 hbz hbl hst1 a3 a5 hse
  go_wp2_with fail
  go_quiet (fail)
  go_wp2_with fail
  go_ret2
  obtain ⟨vs', t1, t2, t3⟩ := HT.out
  exact ⟨rfl, vs', t1.drewN _, t2.drewN _, t3⟩
end Go.Proofs.YtkindaadadggoaaDoor
