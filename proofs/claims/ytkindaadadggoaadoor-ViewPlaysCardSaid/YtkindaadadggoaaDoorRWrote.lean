/- Contracts of the reference's wrote and readFirst over the deeds that were done. Conditions: each contract's own premises. (Printed by wip/gen/rwrote.py.) -/
import Derived.Test.YtkindaadadggoaaDoorRWhen
namespace Go.Proofs.YtkindaadadggoaaDoor
open Go.RowKit

theorem wroteL_at {l : List Deed4V} {x i j : Nat} (hj : j < l.length) (h : Vw.isWr x i (Vw.dat (nats l) j) = true) : Vw.wroteL (nats l) x i = true := by
  unfold Vw.wroteL
  rw [List.any_eq_true]
  have hl := length_nats l
  exact ⟨_, by rw [Vw.dat_at (by rw [hl]; exact hj)]; exact List.getElem_mem _, h⟩
theorem wroteL_none {l : List Deed4V} {x i : Nat} (h : ∀ m, m < l.length → Vw.isWr x i (Vw.dat (nats l) m) = false) : Vw.wroteL (nats l) x i = false := by
  unfold Vw.wroteL
  rw [List.any_eq_false]
  intro d hd
  obtain ⟨m, hm, e⟩ := List.mem_iff_getElem.1 hd
  have hl := length_nats l
  have := h m (by omega)
  rw [Vw.dat_at hm, e] at this
  simp [this]
theorem firstL_at {l : List Deed4V} {x i j : Nat} (hj : j < l.length) (h1 : ∀ m, m < j → Vw.isDo x i (Vw.dat (nats l) m) = false) (h : Vw.isDo x i (Vw.dat (nats l) j) = true) : Vw.firstL (nats l) x i = decide ((Vw.dat (nats l) j).2.2.2 = 0) := by
  have hl := length_nats l
  have hjn : j < (nats l).length := by rw [hl]; exact hj
  have e : (nats l).find? (Vw.isDo x i) = some (Vw.dat (nats l) j) := by
    rw [Vw.dat_at hjn, List.find?_eq_some_iff_getElem]
    rw [Vw.dat_at hjn] at h
    refine ⟨h, j, hjn, rfl, fun m hm => ?_⟩
    have := h1 m hm
    rw [Vw.dat_at (show m < (nats l).length by omega)] at this
    simp [this]
  unfold Vw.firstL
  rw [e]
theorem firstL_none {l : List Deed4V} {x i : Nat} (h : ∀ m, m < l.length → Vw.isDo x i (Vw.dat (nats l) m) = false) : Vw.firstL (nats l) x i = false := by
  have hl := length_nats l
  have e : (nats l).find? (Vw.isDo x i) = none := by
    rw [List.find?_eq_none]
    intro d hd
    obtain ⟨m, hm, e⟩ := List.mem_iff_getElem.1 hd
    have := h m (by omega)
    rw [Vw.dat_at hm, e] at this
    simp [this]
  unfold Vw.firstL
  rw [e]
set_option maxRecDepth 20000 in
set_option maxHeartbeats 2000000 in
theorem rwrote_calls (l : List Deed4V) (S x i : Nat) (v : Value) (w : World) (hr : VDeeds w w.heap.size v l) (hok : ∀ d ∈ l, vokI d) (hl : l.length ≤ 1000) :
    Calls Tryd.prog 77 #[.agg #[v, nv S], nv x, nv i] w fun e w' => e = .returned (.bool (Vw.wroteL (nats l) x i)) ∧ Below w.heap.size w w' := by
  have HR := Lib.hid hr
  have HOK := Lib.hid hok
  obtain ⟨A, cap, rfl⟩ := Rd.val hr
  clear hr hok
  go_enter Tryd.func77, Tryd.ntmps77
  have hbw := (Below.refl w.heap.size w).alloc (Nat.le_refl _) (.cells #[.slice A l.length cap, nv S] 83)
  have HBW := Lib.hid hbw
  have c0 : (w.alloc (.cells #[.slice A l.length cap, nv S] 83)).cell? ⟨w.heap.size, 0, none⟩ = some (.slice A l.length cap) := by rw [World.cell?_alloc_new]; rfl
  have hsz : w.heap.size < (w.alloc (.cells #[.slice A l.length cap, nv S] 83)).heap.size := by simp
  have HR1 := Lib.hid ((Rd.below HR.out hbw).more hbw.size)
  clear hbw HR
  go_wp2_with fail
  obtain ⟨W, hW⟩ : ∃ W, W = w.alloc (.cells #[.slice A l.length cap, nv S] 83) := ⟨_, rfl⟩
  rw [← hW] at HBW c0 hsz HR1 ⊢
  clear hW
  obtain ⟨B, hB⟩ : ∃ B, B = w.heap.size := ⟨_, rfl⟩
  rw [← hB] at c0 hsz ⊢
  have HC0 := Lib.hid c0
  have HSZ := Lib.hid hsz
  clear hB c0 hsz
  go_loopw [7] (fun jv wr => ∃ j : Nat, j ≤ l.length ∧ jv = nv j ∧ Hid (Below W.heap.size W wr) ∧ Hid (∀ m, m < j → Vw.isWr x i (Vw.dat (nats l) m) = false)) (fun jv _ => l.length - (intOf jv).toNat)
  case atStart => exact ⟨0, Nat.zero_le _, rfl, Lib.hid (Below.refl _ _), Lib.hid fun m hm => absurd hm (Nat.not_lt_zero _)⟩
  case round =>
    obtain ⟨j, hj, rfl, hbr, hno⟩ := hrel
    have c0 : wr.cell? ⟨B, 0, none⟩ = some (.slice A l.length cap) := (hbr.out.cell (p := ⟨B, 0, none⟩) HSZ.out).trans HC0.out
    by_cases hjl : j < l.length
    · obtain ⟨b1, off, cap', he, -, K, X, z, u, hd, -, -, -, hK3, d0, d1, d2, d3⟩ := VDeeds.nat_ (Rd.below HR1.out hbr.out) HOK.out hjl
      cases he
      have hdat := dat_nats hjl
      rw [hd] at hdat
      have HAT := Lib.hid (show Vw.isDo x i (Vw.dat (nats l) j) = (decide (X = x) && decide (K = 3) && decide (z.toNat = i)) ∧ Vw.isWr x i (Vw.dat (nats l) j) = (decide (X = x) && decide (K = 3) && decide (z.toNat = i) && decide (u.toNat = 1)) ∧ decide ((Vw.dat (nats l) j).2.2.2 = 0) = decide (u.toNat = 0) by rw [hdat]; exact ⟨rfl, rfl, rfl⟩)
      have HN := Lib.hid fun (h : Vw.isWr x i (Vw.dat (nats l) j) = false) (m : Nat) (hm : m < j + 1) => show Vw.isWr x i (Vw.dat (nats l) m) = false by
        by_cases e : m = j
        · rw [e]; exact h
        · exact hno.out m (by omega)
      have HE := Lib.hid fun (h : Vw.isWr x i (Vw.dat (nats l) j) = true) => wroteL_at hjl h
      have HB2 := Lib.hid fun (o : Obj) => (hbr.out.alloc hbr.out.size o)
      have ij : (j : Int) < (l.length : Int) := by omega
      clear hd hdat hno
      have HFB := Lib.hid fun (o : Obj) => HBW.out.trans ((hbr.out.alloc hbr.out.size o).mono HBW.out.size)
      by_cases g1 : X = x
      · have t1 : ((X : Int) == (x : Int)) = true := by simp; omega
        by_cases g2 : K = 3
        · have t2 : ((K : Int) == 3) = true := by simp; omega
          have hz := hK3 g2
          by_cases g3 : z = (i : Int)
          · have t3 : (z == (i : Int)) = true := by simp; omega
            have hi : z.toNat = i := by omega
            have hu := hK3 g2
            obtain ⟨U, rfl⟩ : ∃ U : Nat, u = (U : Int) := ⟨u.toNat, by omega⟩
            have hU : U = 0 ∨ U = 1 := by omega
            rcases hU with rfl | rfl
            · have hn := Lib.hid (HN.out (by rw [HAT.out.2.1]; simp [g1, g2, hi]))
              clear HE HN HAT HFB
              go_wp2_with fail
              go_roundw
              case rel => exact ⟨j + 1, by omega, by go_num, Lib.hid (HB2.out _), hn⟩
              case measure => simp [intOf]; omega
            · have hw := Lib.hid (HE.out (by rw [HAT.out.2.1]; simp [g1, g2, hi]))
              clear HE HN HAT HB2
              go_wp2_with fail
              go_ret
              exact ⟨by rw [hw.out]; rfl, HFB.out _⟩
          · have t3 : (z == (i : Int)) = false := by simp; omega
            have hi : ¬ z.toNat = i := by omega
            have hn := Lib.hid (HN.out (by rw [HAT.out.2.1]; simp [hi]))
            clear HE HN HAT HFB
            go_wp2_with fail
            go_roundw
            case rel => exact ⟨j + 1, by omega, by go_num, Lib.hid (HB2.out _), hn⟩
            case measure => simp [intOf]; omega
        · have t2 : ((K : Int) == 3) = false := by simp; omega
          have hn := Lib.hid (HN.out (by rw [HAT.out.2.1]; simp [g2]))
          clear HE HN HAT HFB
          go_wp2_with fail
          go_roundw
          case rel => exact ⟨j + 1, by omega, by go_num, Lib.hid (HB2.out _), hn⟩
          case measure => simp [intOf]; omega
      · have t1 : ((X : Int) == (x : Int)) = false := by simp; omega
        have hn := Lib.hid (HN.out (by rw [HAT.out.2.1]; simp [g1]))
        clear HE HN HAT HFB
        go_wp2_with fail
        go_roundw
        case rel => exact ⟨j + 1, by omega, by go_num, Lib.hid (HB2.out _), hn⟩
        case measure => simp [intOf]; omega
    · obtain rfl : j = l.length := by omega
      have hw := Lib.hid (wroteL_none hno.out)
      have HFB := Lib.hid (HBW.out.trans (hbr.out.mono HBW.out.size))
      clear hno
      go_wp2_with fail
      go_ret
      exact ⟨by rw [hw.out]; rfl, HFB.out⟩
set_option maxRecDepth 20000 in
set_option maxHeartbeats 2000000 in
theorem rfirst_calls (l : List Deed4V) (S x i : Nat) (v : Value) (w : World) (hr : VDeeds w w.heap.size v l) (hok : ∀ d ∈ l, vokI d) (hl : l.length ≤ 1000) :
    Calls Tryd.prog 79 #[.agg #[v, nv S], nv x, nv i] w fun e w' => e = .returned (.bool (Vw.firstL (nats l) x i)) ∧ Below w.heap.size w w' := by
  have HR := Lib.hid hr
  have HOK := Lib.hid hok
  obtain ⟨A, cap, rfl⟩ := Rd.val hr
  clear hr hok
  go_enter Tryd.func79, Tryd.ntmps79
  have hbw := (Below.refl w.heap.size w).alloc (Nat.le_refl _) (.cells #[.slice A l.length cap, nv S] 83)
  have HBW := Lib.hid hbw
  have c0 : (w.alloc (.cells #[.slice A l.length cap, nv S] 83)).cell? ⟨w.heap.size, 0, none⟩ = some (.slice A l.length cap) := by rw [World.cell?_alloc_new]; rfl
  have hsz : w.heap.size < (w.alloc (.cells #[.slice A l.length cap, nv S] 83)).heap.size := by simp
  have HR1 := Lib.hid ((Rd.below HR.out hbw).more hbw.size)
  clear hbw HR
  go_wp2_with fail
  obtain ⟨W, hW⟩ : ∃ W, W = w.alloc (.cells #[.slice A l.length cap, nv S] 83) := ⟨_, rfl⟩
  rw [← hW] at HBW c0 hsz HR1 ⊢
  clear hW
  obtain ⟨B, hB⟩ : ∃ B, B = w.heap.size := ⟨_, rfl⟩
  rw [← hB] at c0 hsz ⊢
  have HC0 := Lib.hid c0
  have HSZ := Lib.hid hsz
  clear hB c0 hsz
  go_loopw [7] (fun jv wr => ∃ j : Nat, j ≤ l.length ∧ jv = nv j ∧ Hid (Below W.heap.size W wr) ∧ Hid (∀ m, m < j → Vw.isDo x i (Vw.dat (nats l) m) = false)) (fun jv _ => l.length - (intOf jv).toNat)
  case atStart => exact ⟨0, Nat.zero_le _, rfl, Lib.hid (Below.refl _ _), Lib.hid fun m hm => absurd hm (Nat.not_lt_zero _)⟩
  case round =>
    obtain ⟨j, hj, rfl, hbr, hno⟩ := hrel
    have c0 : wr.cell? ⟨B, 0, none⟩ = some (.slice A l.length cap) := (hbr.out.cell (p := ⟨B, 0, none⟩) HSZ.out).trans HC0.out
    by_cases hjl : j < l.length
    · obtain ⟨b1, off, cap', he, -, K, X, z, u, hd, -, -, -, hK3, d0, d1, d2, d3⟩ := VDeeds.nat_ (Rd.below HR1.out hbr.out) HOK.out hjl
      cases he
      have hdat := dat_nats hjl
      rw [hd] at hdat
      have HAT := Lib.hid (show Vw.isDo x i (Vw.dat (nats l) j) = (decide (X = x) && decide (K = 3) && decide (z.toNat = i)) ∧ Vw.isWr x i (Vw.dat (nats l) j) = (decide (X = x) && decide (K = 3) && decide (z.toNat = i) && decide (u.toNat = 1)) ∧ decide ((Vw.dat (nats l) j).2.2.2 = 0) = decide (u.toNat = 0) by rw [hdat]; exact ⟨rfl, rfl, rfl⟩)
      have HN := Lib.hid fun (h : Vw.isDo x i (Vw.dat (nats l) j) = false) (m : Nat) (hm : m < j + 1) => show Vw.isDo x i (Vw.dat (nats l) m) = false by
        by_cases e : m = j
        · rw [e]; exact h
        · exact hno.out m (by omega)
      have HE := Lib.hid fun (h : Vw.isDo x i (Vw.dat (nats l) j) = true) => firstL_at hjl hno.out h
      have HB2 := Lib.hid fun (o : Obj) => (hbr.out.alloc hbr.out.size o)
      have ij : (j : Int) < (l.length : Int) := by omega
      clear hd hdat hno
      have HFB := Lib.hid fun (o : Obj) => HBW.out.trans ((hbr.out.alloc hbr.out.size o).mono HBW.out.size)
      by_cases g1 : X = x
      · have t1 : ((X : Int) == (x : Int)) = true := by simp; omega
        by_cases g2 : K = 3
        · have t2 : ((K : Int) == 3) = true := by simp; omega
          have hz := hK3 g2
          by_cases g3 : z = (i : Int)
          · have t3 : (z == (i : Int)) = true := by simp; omega
            have hi : z.toNat = i := by omega
            have hw := Lib.hid (HE.out (by rw [HAT.out.1]; simp [g1, g2, hi]))
            rw [HAT.out.2.2] at hw
            have hu := hK3 g2
            obtain ⟨U, rfl⟩ : ∃ U : Nat, u = (U : Int) := ⟨u.toNat, by omega⟩
            have hU : U = 0 ∨ U = 1 := by omega
            clear HE HN HAT HB2
            rcases hU with rfl | rfl
            · go_wp2_with fail
              go_ret
              exact ⟨by rw [hw.out]; rfl, HFB.out _⟩
            · go_wp2_with fail
              go_ret
              exact ⟨by rw [hw.out]; rfl, HFB.out _⟩
          · have t3 : (z == (i : Int)) = false := by simp; omega
            have hi : ¬ z.toNat = i := by omega
            have hn := Lib.hid (HN.out (by rw [HAT.out.1]; simp [hi]))
            clear HE HN HAT HFB
            go_wp2_with fail
            go_roundw
            case rel => exact ⟨j + 1, by omega, by go_num, Lib.hid (HB2.out _), hn⟩
            case measure => simp [intOf]; omega
        · have t2 : ((K : Int) == 3) = false := by simp; omega
          have hn := Lib.hid (HN.out (by rw [HAT.out.1]; simp [g2]))
          clear HE HN HAT HFB
          go_wp2_with fail
          go_roundw
          case rel => exact ⟨j + 1, by omega, by go_num, Lib.hid (HB2.out _), hn⟩
          case measure => simp [intOf]; omega
      · have t1 : ((X : Int) == (x : Int)) = false := by simp; omega
        have hn := Lib.hid (HN.out (by rw [HAT.out.1]; simp [g1]))
        clear HE HN HAT HFB
        go_wp2_with fail
        go_roundw
        case rel => exact ⟨j + 1, by omega, by go_num, Lib.hid (HB2.out _), hn⟩
        case measure => simp [intOf]; omega
    · obtain rfl : j = l.length := by omega
      have hw := Lib.hid (firstL_none hno.out)
      have HFB := Lib.hid (HBW.out.trans (hbr.out.mono HBW.out.size))
      clear hno
      go_wp2_with fail
      go_ret
      exact ⟨by rw [hw.out]; rfl, HFB.out⟩
end Go.Proofs.YtkindaadadggoaaDoor
