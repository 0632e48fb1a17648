/- Contract of the reference's lastOf over the deeds that were done. Conditions: the contract's own premises. -/
import Derived.Test.YtkindaadadggoaaDoorRWrote
import Derived.Deep.RegionHeld3
namespace Go.Proofs.YtkindaadadggoaaDoor
open Go.RowKit

set_option maxRecDepth 20000 in
set_option maxHeartbeats 2000000 in
theorem rlast_calls (l : List Deed4V) (S i m : Nat) (v : Value) (w : World) (hr : VDeeds w w.heap.size v l) (hok : ∀ d ∈ l, vokI d) (hl : l.length ≤ 1000) (hm : m ≤ l.length) :
    Calls Tryd.prog 78 #[.agg #[v, nv S], nv i, nv m] w fun e w' => e = .returned (iv (Vw.lastOf (nats l) i m)) ∧ Below w.heap.size w w' := by
  have HR := Lib.hid hr
  have HOK := Lib.hid hok
  obtain ⟨A, cap, rfl⟩ := Rd.val hr
  clear hr hok
  go_enter Tryd.func78, Tryd.ntmps78
  have hbw := (Below.refl w.heap.size w).alloc (Nat.le_refl _) (.cells #[.slice A l.length cap, nv S] 83)
  have HBW := Lib.hid hbw
  have c0 : (w.alloc (.cells #[.slice A l.length cap, nv S] 83)).cell? ⟨w.heap.size, 0, none⟩ = some (.slice A l.length cap) := by rw [World.cell?_alloc_new]; rfl
  have c1 : (w.alloc (.cells #[.slice A l.length cap, nv S] 83)).cell? ⟨w.heap.size, 1, none⟩ = some (nv S) := by rw [World.cell?_alloc_new]; rfl
  have hsz : w.heap.size < (w.alloc (.cells #[.slice A l.length cap, nv S] 83)).heap.size := by simp
  have HR1 := Lib.hid ((Rd.below HR.out hbw).more hbw.size)
  clear hbw HR
  go_wp2_with fail
  obtain ⟨W, hW⟩ : ∃ W, W = w.alloc (.cells #[.slice A l.length cap, nv S] 83) := ⟨_, rfl⟩
  rw [← hW] at HBW c0 c1 hsz HR1 ⊢
  clear hW
  obtain ⟨B, hB⟩ : ∃ B, B = w.heap.size := ⟨_, rfl⟩
  rw [← hB] at c0 c1 hsz ⊢
  have HC0 := Lib.hid c0
  have HC1 := Lib.hid c1
  have HSZ := Lib.hid hsz
  clear hB c0 c1 hsz
  go_loopw [7, 8] (fun ov jv wr => ∃ j : Nat, j ≤ m ∧ ov = iv (Vw.lastOf (nats l) i j) ∧ jv = nv j ∧ Hid (Below W.heap.size W wr)) (fun _ jv _ => m - (intOf jv).toNat)
  case atStart => exact ⟨0, Nat.zero_le _, rfl, rfl, Lib.hid (Below.refl _ _)⟩
  case round =>
    obtain ⟨j, hj, rfl, rfl, hbr⟩ := hrel
    have c0 : wr.cell? ⟨B, 0, none⟩ = some (.slice A l.length cap) := (hbr.out.cell (p := ⟨B, 0, none⟩) HSZ.out).trans HC0.out
    have c1 : wr.cell? ⟨B, 1, none⟩ = some (nv S) := (hbr.out.cell (p := ⟨B, 1, none⟩) HSZ.out).trans HC1.out
    have hBl : B < wr.heap.size := Nat.lt_of_lt_of_le HSZ.out hbr.out.size
    by_cases hjm : j < m
    · have hjl : j < l.length := by omega
      obtain ⟨b1, off, cap', he, hbb, K, X, z, u, hd, hK1, hK2, hX, -, d0, d1, -, -⟩ := VDeeds.nat_ (Rd.below HR1.out hbr.out) HOK.out hjl
      cases he
      have hb1 : b1 < wr.heap.size := Nat.lt_of_lt_of_le hbb hbr.out.size
      have hdat := dat_nats hjl
      rw [hd] at hdat
      have HST := Lib.hid (show Vw.lastOf (nats l) i (j + 1) = if (decide (K = 5) && Vw.wroteL (nats l) X i) = true then ((X : Nat) : Int) else Vw.lastOf (nats l) i j by
        rw [Vw.lastOf, Vw.comW, hdat])
      have hwr := Lib.hid fun (w5 : World) (h5 : Below wr.heap.size wr w5) => rwrote_calls l S X i (.slice (some ⟨b1, off, none⟩) l.length cap) w5 ((Rd.below HR1.out (hbr.out.trans (h5.mono hbr.out.size))).more (Nat.le_trans hbr.out.size h5.size)) HOK.out hl
      have ij : (j : Int) < (m : Int) := by omega
      have ijl : (j : Int) < (l.length : Int) := by omega
      have HBR := Lib.hid hbr.out
      clear hd hdat hbb hbr
      by_cases g : K = 5
      · subst g
        cases hwb : Vw.wroteL (nats l) X i with
        | false =>
          rw [hwb] at hwr HST
          have hS := Lib.hid (show Vw.lastOf (nats l) i (j + 1) = Vw.lastOf (nats l) i j by rw [HST.out]; rfl)
          clear HST hwb
          go_wp2_with fail
          go_region_held3 (fun w' => w'.cell? ⟨B, 0, none⟩ = some (.slice (some ⟨b1, off, none⟩) l.length cap) ∧ w'.cell? ⟨B, 1, none⟩ = some (nv S) ∧ w'.cell? ⟨b1, off + j * 4, none⟩ = some (nv 5) ∧ w'.cell? ⟨b1, off + j * 4 + 1, none⟩ = some (nv X) ∧ Below wr.heap.size wr w')
            (first | exact ⟨c0, c1, d0, d1, (Below.refl _ _).drew⟩ | (refine ⟨(Below.cell (w := wr) (B := wr.heap.size) ?_ hBl).trans c0, (Below.cell (w := wr) (B := wr.heap.size) ?_ hBl).trans c1, (Below.cell (w := wr) (B := wr.heap.size) ?_ hb1).trans d0, (Below.cell (w := wr) (B := wr.heap.size) ?_ hb1).trans d1, ?_⟩ <;> go_grown))
            (first | (go_at_call 77; refine (hwr.out wr.drew (Below.refl _ _).drew).mono ?_; rintro e w10 ⟨rfl, hbl⟩; have hb10 : Below wr.heap.size wr w10 := (Below.refl _ _).drew.trans hbl))
          have HB2 := Lib.hid (HBR.out.trans (hb10.mono HBR.out.size))
          clear hwr
          go_wp2_with fail
          go_roundw
          case rel => exact ⟨j + 1, by omega, by rw [hS.out], by go_num, HB2⟩
          case measure => simp [intOf]; omega
        | true =>
          rw [hwb] at hwr HST
          have hS := Lib.hid (show Vw.lastOf (nats l) i (j + 1) = (X : Int) by rw [HST.out]; rfl)
          clear HST hwb
          go_wp2_with fail
          go_region_held3 (fun w' => w'.cell? ⟨B, 0, none⟩ = some (.slice (some ⟨b1, off, none⟩) l.length cap) ∧ w'.cell? ⟨B, 1, none⟩ = some (nv S) ∧ w'.cell? ⟨b1, off + j * 4, none⟩ = some (nv 5) ∧ w'.cell? ⟨b1, off + j * 4 + 1, none⟩ = some (nv X) ∧ Below wr.heap.size wr w')
            (first | exact ⟨c0, c1, d0, d1, (Below.refl _ _).drew⟩ | (refine ⟨(Below.cell (w := wr) (B := wr.heap.size) ?_ hBl).trans c0, (Below.cell (w := wr) (B := wr.heap.size) ?_ hBl).trans c1, (Below.cell (w := wr) (B := wr.heap.size) ?_ hb1).trans d0, (Below.cell (w := wr) (B := wr.heap.size) ?_ hb1).trans d1, ?_⟩ <;> go_grown))
            (first | (go_at_call 77; refine (hwr.out wr.drew (Below.refl _ _).drew).mono ?_; rintro e w10 ⟨rfl, hbl⟩; have hb10 : Below wr.heap.size wr w10 := (Below.refl _ _).drew.trans hbl))
          have HB2 := Lib.hid (HBR.out.trans (hb10.mono HBR.out.size))
          have c0' := (hb10.cell (p := ⟨B, 0, none⟩) hBl).trans c0
          have d1' := (hb10.cell (p := ⟨b1, off + j * 4 + 1, none⟩) hb1).trans d1
          clear hwr hb10
          go_wp2_with fail
          go_roundw
          case rel => exact ⟨j + 1, by omega, by rw [hS.out], by go_num, HB2⟩
          case measure => simp [intOf]; omega
      · have t1 : ((K : Int) == 5) = false := by simp; omega
        have hS := Lib.hid (show Vw.lastOf (nats l) i (j + 1) = Vw.lastOf (nats l) i j by rw [HST.out, if_neg (by simp [g])])
        clear HST hwr
        go_wp2_with fail
        go_quiet (fail)
        go_wp2_with fail
        go_roundw
        case rel => exact ⟨j + 1, by omega, by rw [hS.out], by go_num, Lib.hid (drn HBR.out _)⟩
        case measure => simp [intOf]; omega
    · obtain rfl : j = m := by omega
      have HFB := Lib.hid (HBW.out.trans (hbr.out.mono HBW.out.size))
      go_wp2_with fail
      go_ret
      exact ⟨rfl, HFB.out⟩
end Go.Proofs.YtkindaadadggoaaDoor
