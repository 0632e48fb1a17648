/- Contracts of the reference's when, wrote and readFirst over the deeds that were done. Conditions: each contract's own premises. -/
import Derived.Test.YtkindaadadggoaaDoorVPlayE
import Derived.Test.YtkindaadadggoaaDoorVFact
namespace Go.Proofs.YtkindaadadggoaaDoor
open Go.RowKit

/-- the deeds as plain numbers -/
def nats (l : List Deed4V) : List Vw.D4 := l.map natD
theorem length_nats (l : List Deed4V) : (nats l).length = l.length := by simp [nats]
theorem dat_nats {l : List Deed4V} {j : Nat} (h : j < l.length) : Vw.dat (nats l) j = natD l[j] := by
  rw [Vw.dat_at (by rw [length_nats]; exact h)]
  simp [nats]
def whenI (l : List Deed4V) (x k : Nat) : Int := if Vw.whenN (nats l) x k < l.length then ((Vw.whenN (nats l) x k : Nat) : Int) else -1
theorem whenI_at {l : List Deed4V} {x k j : Nat} (hj : j < l.length) (h1 : ∀ m, m < j → Vw.isAt x k (Vw.dat (nats l) m) = false) (h2 : Vw.isAt x k (Vw.dat (nats l) j) = true) : whenI l x k = (j : Int) := by
  have hl := length_nats l
  have e := Vw.isAt_iff.1 h2
  have h3 := Vw.when_le (L := nats l) (by rw [hl]; exact hj) e.1 e.2
  have h4 : Vw.whenN (nats l) x k = j := by
    rcases Nat.lt_or_ge (Vw.whenN (nats l) x k) j with g | g
    · exfalso
      have h5 := Vw.when_at (L := nats l) (x := x) (k := k) (by omega)
      have h6 := h1 _ g
      rw [Vw.isAt_iff.2 h5] at h6
      cases h6
    · omega
  unfold whenI
  rw [h4, if_pos hj]
theorem whenI_none {l : List Deed4V} {x k : Nat} (h1 : ∀ m, m < l.length → Vw.isAt x k (Vw.dat (nats l) m) = false) : whenI l x k = -1 := by
  have hl := length_nats l
  unfold whenI
  rw [if_neg]
  intro g
  have h5 := Vw.when_at (L := nats l) (x := x) (k := k) (by omega)
  have h6 := h1 _ g
  rw [Vw.isAt_iff.2 h5] at h6
  cases h6
/-- the cells of the deed j -/
theorem VDeeds.nat_ {w : World} {B : Nat} {v : Value} {l : List Deed4V} (h : VDeeds w B v l) (hok : ∀ d ∈ l, vokI d) {j : Nat} (hj : j < l.length) :
    ∃ b off cap, v = .slice (some ⟨b, off, none⟩) l.length cap ∧ b < B ∧ ∃ (K X : Nat) (z u : Int), natD l[j] = (K, X, z.toNat, u.toNat) ∧ 3 ≤ K ∧ K ≤ 5 ∧ X < 5 ∧ (K = 3 → (0 ≤ z ∧ z ≤ 3) ∧ 0 ≤ u ∧ u ≤ 1) ∧
      w.cell? ⟨b, off + j * 4, none⟩ = some (nv K) ∧ w.cell? ⟨b, off + j * 4 + 1, none⟩ = some (nv X) ∧ w.cell? ⟨b, off + j * 4 + 2, none⟩ = some (iv z) ∧ w.cell? ⟨b, off + j * 4 + 3, none⟩ = some (iv u) := by
  obtain ⟨b, off, cap, e, hb, d0, d1, d2, d3⟩ := VDeeds.at_ h hj
  refine ⟨b, off, cap, e, hb, ?_⟩
  obtain ⟨⟨o1, o2⟩, ⟨o3, o4⟩, o5⟩ := hok _ (List.getElem_mem hj)
  generalize l[j] = d at *
  obtain ⟨k, x, z, u⟩ := d
  simp only at *
  refine ⟨k.toNat, x.toNat, z, u, rfl, by omega, by omega, by omega, fun g => ?_, ?_, ?_, d2, d3⟩
  · exact o5 (by omega)
  · rw [d0]; show some (Value.int .i64 k) = some (Value.int .i64 ((k.toNat : Nat) : Int)); rw [Int.toNat_of_nonneg (by omega)]
  · rw [d1]; show some (Value.int .i64 x) = some (Value.int .i64 ((x.toNat : Nat) : Int)); rw [Int.toNat_of_nonneg (by omega)]
set_option maxRecDepth 20000 in
set_option maxHeartbeats 1000000 in
theorem when_calls (l : List Deed4V) (S x k : Nat) (v : Value) (w : World) (hr : VDeeds w w.heap.size v l) (hok : ∀ d ∈ l, vokI d) (hl : l.length ≤ 1000) :
    Calls Tryd.prog 76 #[.agg #[v, nv S], nv x, nv k] w fun e w' => e = .returned (iv (whenI l x k)) ∧ Below w.heap.size w w' := by
  have HR := Lib.hid hr
  have HOK := Lib.hid hok
  obtain ⟨A, cap, rfl⟩ := Rd.val hr
  clear hr hok
  go_enter Tryd.func76, Tryd.ntmps76
  have hbw := (Below.refl w.heap.size w).alloc (Nat.le_refl _) (.cells #[.slice A l.length cap, nv S] 83)
  have HBW := Lib.hid hbw
  have c0 : (w.alloc (.cells #[.slice A l.length cap, nv S] 83)).cell? ⟨w.heap.size, 0, none⟩ = some (.slice A l.length cap) := by rw [World.cell?_alloc_new]; rfl
  have HR1 := Lib.hid (Rd.below HR.out hbw)
  clear hbw HR
  go_wp2_with fail
  obtain ⟨W, hW⟩ : ∃ W, W = w.alloc (.cells #[.slice A l.length cap, nv S] 83) := ⟨_, rfl⟩
  rw [← hW] at HBW c0 HR1 ⊢
  clear hW
  go_loopw [7] (fun jv wr => ∃ j : Nat, j ≤ l.length ∧ jv = nv j ∧ wr = W ∧ Hid (∀ m, m < j → Vw.isAt x k (Vw.dat (nats l) m) = false)) (fun jv _ => l.length - (intOf jv).toNat)
  case atStart => exact ⟨0, Nat.zero_le _, rfl, rfl, Lib.hid fun m hm => absurd hm (Nat.not_lt_zero _)⟩
  case round =>
    obtain ⟨j, hj, rfl, rfl, hno⟩ := hrel
    by_cases hjl : j < l.length
    · obtain ⟨b1, off, cap', he, -, K, X, z, u, hd, -, -, -, -, d0, d1, -, -⟩ := VDeeds.nat_ HR1.out HOK.out hjl
      cases he
      have hdat := dat_nats hjl
      rw [hd] at hdat
      have HAT := Lib.hid (show Vw.isAt x k (Vw.dat (nats l) j) = (decide (X = x) && decide (K = k)) by rw [hdat]; rfl)
      have HN := Lib.hid fun (h : Vw.isAt x k (Vw.dat (nats l) j) = false) (m : Nat) (hm : m < j + 1) => show Vw.isAt x k (Vw.dat (nats l) m) = false by
        by_cases e : m = j
        · rw [e]; exact h
        · exact hno.out m (by omega)
      have HE := Lib.hid fun (h : Vw.isAt x k (Vw.dat (nats l) j) = true) => whenI_at hjl hno.out h
      have ij : (j : Int) < (l.length : Int) := by omega
      clear hd hdat hno
      by_cases g1 : X = x
      · have t1 : ((X : Int) == (x : Int)) = true := by simp; omega
        by_cases g2 : K = k
        · have t2 : ((K : Int) == (k : Int)) = true := by simp; omega
          have hw := Lib.hid (HE.out (by rw [HAT.out]; simp [g1, g2]))
          clear HE HN HAT g1 g2
          go_wp2_with fail
          go_ret
          exact ⟨by rw [hw.out]; rfl, HBW.out⟩
        · have t2 : ((K : Int) == (k : Int)) = false := by simp; omega
          have hn := Lib.hid (HN.out (by rw [HAT.out]; simp [g2]))
          clear HE HN HAT g1 g2
          go_wp2_with fail
          go_roundw
          case rel => exact ⟨j + 1, by omega, by go_num, by trivial, hn⟩
          case measure => simp [intOf]; omega
      · have t1 : ((X : Int) == (x : Int)) = false := by simp; omega
        have hn := Lib.hid (HN.out (by rw [HAT.out]; simp [g1]))
        clear HE HN HAT g1
        go_wp2_with fail
        go_roundw
        case rel => exact ⟨j + 1, by omega, by go_num, by trivial, hn⟩
        case measure => simp [intOf]; omega
    · obtain rfl : j = l.length := by omega
      have hw := Lib.hid (whenI_none hno.out)
      go_wp2_with fail
      go_ret
      exact ⟨by rw [hw.out]; rfl, HBW.out⟩
end Go.Proofs.YtkindaadadggoaaDoor
