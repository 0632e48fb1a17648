/- Contract of the reference's Edges. Conditions: the contract's own premises. -/
import Derived.Test.YtkindaadadggoaaDoorRPass
import Derived.Test.YtkindaadadggoaaDoorKeepS
import Derived.Test.YtkindaadadggoaaDoorMem
import Derived.Deep.QuietTactic
import Derived.StillTailTactics
namespace Go.Proofs.YtkindaadadggoaaDoor
open Go.RowKit
namespace Sch
open Odr
/-- the reference's order of the same steps -/
def rin (t : List N3) (i : Nat) : Nat → List Nat → List Nat
  | 0, l => l
  | m + 1, l => estep (t.getD i d3) (t.getD (i + 1 + m) d3) (rin t i m l)
def rout (t : List N3) : Nat → List Nat
  | 0 => List.replicate 5 0
  | i + 1 => rin t i (t.length - (i + 1)) (rout t i)
theorem length_rin (t : List N3) (i m : Nat) (l : List Nat) : (rin t i m l).length = l.length := by
  induction m with
  | zero => rfl
  | succ m ih => rw [rin, length_estep, ih]
theorem length_rout (t : List N3) (i : Nat) : (rout t i).length = 5 := by
  induction i with
  | zero => simp [rout]
  | succ i ih => rw [rout, length_rin, ih]
theorem Fits.rin {t : List N3} (ht : ∀ a ∈ t, Ok3 a) {l : List Nat} (h : Fits l) (hl : l.length = 5) (i m : Nat) : Fits (rin t i m l) := by
  induction m with
  | zero => exact h
  | succ m ih => exact Fits.estep ih (by rw [length_rin, hl]) (getD_ok ht _)
theorem fits_rout {t : List N3} (ht : ∀ a ∈ t, Ok3 a) (i : Nat) : Fits (rout t i) := by
  induction i with
  | zero =>
    intro x hx
    have := List.eq_of_mem_replicate hx
    subst this
    exact Nat.two_pow_pos _
  | succ i ih => exact Fits.rin ht ih (length_rout t i) i _
theorem rel_rin {t : List N3} (ht : ∀ a ∈ t, Ok3 a) {l : List Nat} (hl : l.length = 5) (i m x y : Nat) :
    rel (rin t i m l) x y = true ↔ rel l x y = true ∨ ∃ k, k < m ∧ clash (t.getD i d3) (t.getD (i + 1 + k) d3) = true ∧ (t.getD i d3).1 = x ∧ (t.getD (i + 1 + k) d3).1 = y := by
  induction m with
  | zero => simp [rin]
  | succ m ih =>
    rw [rin, rel_estep (by rw [length_rin, hl]) (getD_ok ht i)]
    simp only [Bool.or_eq_true, Bool.and_eq_true, decide_eq_true_eq, ih]
    constructor
    · rintro ((h | ⟨k, hk, h⟩) | ⟨⟨h1, h2⟩, h3⟩)
      · exact .inl h
      · exact .inr ⟨k, by omega, h⟩
      · exact .inr ⟨m, by omega, h1, h2.symm, h3.symm⟩
    · rintro (h | ⟨k, hk, h1, h2, h3⟩)
      · exact .inl (.inl h)
      · by_cases hki : k < m
        · exact .inl (.inr ⟨k, hki, h1, h2, h3⟩)
        · obtain rfl : k = m := by omega
          exact .inr ⟨⟨h1, h2.symm⟩, h3.symm⟩
theorem rel_rout {t : List N3} (ht : ∀ a ∈ t, Ok3 a) (n x y : Nat) :
    rel (rout t n) x y = true ↔ ∃ i, i < n ∧ ∃ k, k < t.length - (i + 1) ∧ clash (t.getD i d3) (t.getD (i + 1 + k) d3) = true ∧ (t.getD i d3).1 = x ∧ (t.getD (i + 1 + k) d3).1 = y := by
  induction n with
  | zero =>
    constructor
    · intro h
      exfalso
      unfold rel rout at h
      rw [List.getD_eq_getElem?_getD, List.getElem?_replicate] at h
      split at h <;> simp at h
    · rintro ⟨j, hj, _⟩; omega
  | succ n ih =>
    rw [rout, rel_rin ht (length_rout t n), ih]
    constructor
    · rintro (⟨j, hj, h⟩ | h)
      · exact ⟨j, by omega, h⟩
      · exact ⟨n, by omega, h⟩
    · rintro ⟨j, hj, h⟩
      by_cases hjm : j < n
      · exact .inl ⟨j, hjm, h⟩
      · obtain rfl : j = n := by omega
        exact .inr h
theorem rout_edges {t : List N3} (ht : ∀ a ∈ t, Ok3 a) : rout t t.length = edges t := by
  apply List.ext_getElem
  · rw [length_rout, length_edges]
  · intro x h1 h2
    have hg : ∀ (l : List Nat) (h : x < l.length), l[x] = l.getD x 0 := fun l h => by rw [List.getD_eq_getElem?_getD, List.getElem?_eq_getElem h]; rfl
    rw [hg _ h1, hg _ h2]
    apply Nat.eq_of_testBit_eq
    intro y
    have e1 := rel_rout ht t.length x y
    have e2 := rel_edges ht x y
    unfold rel at e1 e2
    rw [Bool.eq_iff_iff, e1, e2]
    constructor
    · rintro ⟨i, hi, k, hk, h⟩
      exact ⟨i + 1 + k, by omega, i, by omega, h⟩
    · rintro ⟨j, hj, i, hi, h⟩
      exact ⟨i, by omega, j - (i + 1), by omega, by rw [show i + 1 + (j - (i + 1)) = j by omega]; exact h⟩
end Sch
theorem with_same5 : ∀ s, s < 32 → ∀ i, i < 5 → s.testBit i = true → s ||| 2 ^ i = s := by decide
theorem with5 (s i : Nat) (w : World) (hs : s < 32) (hi : i < 5) : Calls Tryd.prog 28 #[nv s, nv i] w fun e w' => e = .returned (nv (s ||| 2 ^ i)) ∧ w = w' := by
  cases h : s.testBit i
  · exact with_calls s i w hs hi h
  · have c1 := Lib.hid fun w5 : World => bit_calls s i w5 (by omega) (by omega)
    rw [h] at c1
    rw [with_same5 s hs i hi h]
    clear h
    go_enter Tryd.func28, Tryd.ntmps28
    go_wp2_with (go_at_call 29; (with_reducible refine (c1.out _).mono ?_); rintro e w' ⟨rfl, rfl⟩)
    go_ret
    exact ⟨rfl, rfl⟩
set_option maxRecDepth 20000 in
set_option maxHeartbeats 8000000 in
theorem redges_calls (t : List Sch.N3) (v : Value) (w : World) (hr : Acts w w.heap.size v (Sch.zacts t)) (hlen : t.length ≤ 24) (hok : ∀ a ∈ t, Sch.Ok3 a) :
    Calls Tryd.prog 47 #[v] w fun e w' => ∃ v', e = .returned v' ∧ Own w' w.heap.size v' (zs (Sch.edges t)) ∧ Below w.heap.size w w' := by
  have HR := Lib.hid hr
  have HOK := Lib.hid hok
  have HEND := Lib.hid (Sch.rout_edges hok)
  obtain ⟨A, cap, rfl⟩ := Rd.val hr
  simp only [Sch.length_zacts] at *
  clear hr hok
  go_enter Tryd.func47, Tryd.ntmps47
  go_wp2_with (at_make; refine make_ints rfl _ _ rfl w.heap.size 5 rfl rfl (by omega) (Nat.le_refl _) ?_; intro w1 hown hb1)
  have hown0 : Own w1 w.heap.size (.slice (some ⟨w.heap.size, 0, none⟩) 5 5) (zs (Sch.rout t 0)) := hown
  have HO0 := Lib.hid hown0
  have HB0 := Lib.hid hb1
  clear hown hown0 hb1
  go_loopw [4] (fun iv wr => ∃ i : Nat, i ≤ t.length ∧ iv = nv i ∧ Hid (Own wr w.heap.size (.slice (some ⟨w.heap.size, 0, none⟩) 5 5) (zs (Sch.rout t i))) ∧ Hid (Below w.heap.size w wr)) (fun iv _ => t.length - (intOf iv).toNat)
  case atStart => exact ⟨0, Nat.zero_le _, rfl, HO0, HB0⟩
  case round =>
    clear HO0 HB0
    obtain ⟨i, hi, rfl, hown, hb⟩ := hrel
    by_cases hil : i < t.length
    · go_wp2_with fail
      go_loopw [5] (fun jv wj => ∃ m : Nat, m ≤ t.length - (i + 1) ∧ jv = nv (i + 1 + m) ∧ Hid (Own wj w.heap.size (.slice (some ⟨w.heap.size, 0, none⟩) 5 5) (zs (Sch.rin t i m (Sch.rout t i)))) ∧ Hid (Below w.heap.size w wj)) (fun jv _ => t.length - (intOf jv).toNat)
      case atStart => exact ⟨0, Nat.zero_le _, by go_num, hown, hb⟩
      case round =>
        clear hown hb
        obtain ⟨m, hm, rfl, hown, hb⟩ := hrel
        by_cases hml : i + 1 + m < t.length
        · obtain ⟨b1, o1, c1, he, _, _, hb1, d0, d1, d2⟩ := Acts.atN (Rd.below HR.out hb.out) hil
          cases he
          obtain ⟨b2, o2, c2, he, _, _, _, e0, e1, e2⟩ := Acts.atN (Rd.below HR.out hb.out) hml
          cases he
          have oa := Sch.getD_ok HOK.out i
          have ob := Sch.getD_ok HOK.out (i + 1 + m)
          have HRN := Lib.hid (show Sch.rin t i (m + 1) (Sch.rout t i) = Sch.estep (t.getD i Sch.d3) (t.getD (i + 1 + m) Sch.d3) (Sch.rin t i m (Sch.rout t i)) from rfl)
          have hll : (Sch.rin t i m (Sch.rout t i)).length = 5 := by rw [Sch.length_rin, Sch.length_rout]
          have hff := Sch.Fits.rin HOK.out (Sch.fits_rout HOK.out i) (Sch.length_rout t i) i m
          generalize hUU : Sch.rin t i m (Sch.rout t i) = U at *
          clear hUU
          generalize hjj : i + 1 + m = jj at *
          have HJ := Lib.hid hjj
          clear hjj
          generalize t.getD i Sch.d3 = a at *
          generalize t.getD jj Sch.d3 = b at *
          obtain ⟨ax, ai, aw⟩ := a
          obtain ⟨bx, bi, bw⟩ := b
          obtain ⟨oa1, oa2, oa3⟩ := oa
          obtain ⟨ob1, ob2, ob3⟩ := ob
          simp only at oa1 oa2 oa3 ob1 ob2 ob3 d0 d1 d2 e0 e1 e2 HRN
          have hcl : Sch.clash (ax, ai, aw) (bx, bi, bw) = (decide (ax ≠ bx) && (decide (ai = bi) && (decide (aw = 1) || decide (bw = 1)))) := by
            unfold Sch.clash
            rw [Bool.eq_iff_iff]
            simp
            omega
          have hw : ((ax : Int) != (bx : Int)) = false ∧ Sch.clash (ax, ai, aw) (bx, bi, bw) = false ∨ ((ax : Int) != (bx : Int)) = true ∧ ((ai : Int) == (bi : Int)) = false ∧ Sch.clash (ax, ai, aw) (bx, bi, bw) = false
              ∨ ((ax : Int) != (bx : Int)) = true ∧ ((ai : Int) == (bi : Int)) = true ∧ ((aw : Int) == 1) = false ∧ ((bw : Int) == 1) = false ∧ Sch.clash (ax, ai, aw) (bx, bi, bw) = false
              ∨ ((ax : Int) != (bx : Int)) = true ∧ ((ai : Int) == (bi : Int)) = true ∧ ((aw : Int) == 1) = false ∧ ((bw : Int) == 1) = true ∧ Sch.clash (ax, ai, aw) (bx, bi, bw) = true
              ∨ ((ax : Int) != (bx : Int)) = true ∧ ((ai : Int) == (bi : Int)) = true ∧ ((aw : Int) == 1) = true ∧ Sch.clash (ax, ai, aw) (bx, bi, bw) = true := by
            rw [hcl]
            simp
            omega
          clear hcl
          rcases hw with ⟨t1, hc⟩ | ⟨t1, t2, hc⟩ | ⟨t1, t2, t3, t4, hc⟩ | ⟨t1, t2, t3, t4, hc⟩ | ⟨t1, t2, t3, hc⟩
          · have HRX := Lib.hid (show Sch.rin t i (m + 1) (Sch.rout t i) = U by rw [HRN.out, Sch.estep, hc]; rfl)
            clear HRN hc
            go_wp2_with fail
            go_quiet (fail)
            go_wp2_with fail
            go_roundw
            case rel => exact ⟨m + 1, by have := HJ.out; omega, by rw [show i + 1 + (m + 1) = jj + 1 by have := HJ.out; omega]; go_num, Lib.hid (by rw [HRX.out]; exact hown.out), Lib.hid (drn hb.out _)⟩
            case measure => simp [intOf]; omega
          · have HRX := Lib.hid (show Sch.rin t i (m + 1) (Sch.rout t i) = U by rw [HRN.out, Sch.estep, hc]; rfl)
            clear HRN hc
            go_wp2_with fail
            go_quiet (fail)
            go_wp2_with fail
            go_roundw
            case rel => exact ⟨m + 1, by have := HJ.out; omega, by rw [show i + 1 + (m + 1) = jj + 1 by have := HJ.out; omega]; go_num, Lib.hid (by rw [HRX.out]; exact hown.out), Lib.hid (drn hb.out _)⟩
            case measure => simp [intOf]; omega
          · have HRX := Lib.hid (show Sch.rin t i (m + 1) (Sch.rout t i) = U by rw [HRN.out, Sch.estep, hc]; rfl)
            clear HRN hc
            go_wp2_with fail
            go_quiet (fail)
            go_wp2_with fail
            go_roundw
            case rel => exact ⟨m + 1, by have := HJ.out; omega, by rw [show i + 1 + (m + 1) = jj + 1 by have := HJ.out; omega]; go_num, Lib.hid (by rw [HRX.out]; exact hown.out), Lib.hid (drn hb.out _)⟩
            case measure => simp [intOf]; omega
          all_goals
            have HRX := Lib.hid (show Sch.rin t i (m + 1) (Sch.rout t i) = U.set ax (U.getD ax 0 ||| 2 ^ bx) by rw [HRN.out, Sch.estep, hc]; rfl)
            have hlt := Lib.hid (show (U.set ax (U.getD ax 0 ||| 2 ^ bx)) = U.set ax (U.getD ax 0 ||| 2 ^ bx) from rfl)
            have hub := hff.getD ax
            rw [hll] at hub
            have hwi := Lib.hid fun w5 : World => (with5 (U.getD ax 0) bx w5 (by omega) ob1).mono (R' := fun e w' => e = .returned (nv (U.getD ax 0 ||| 2 ^ bx)) ∧ w' = w5) fun _ _ ⟨a, b⟩ => ⟨a, b.symm⟩
            clear HRN hc hff
            have HZ := Lib.hid (show (zs U).set ax ((U.getD ax 0 ||| 2 ^ bx : Nat) : Int) = zs (U.set ax (U.getD ax 0 ||| 2 ^ bx)) by simp [zs])
            clear hlt
            generalize hun : U.getD ax 0 ||| 2 ^ bx = un at *
            clear hun
            go_wp2_with fail
            go_quiet (fail)
            go_wp2_with fail
            obtain ⟨gg, gs, gc, gf, gst⟩ := Own.lit (show Own (wr.drewN nq) w.heap.size (.slice (some ⟨w.heap.size, 0, none⟩) 5 5) (zs U) from hown.out)
            have gax := gc ax (by rw [length_zs]; omega)
            have gfx := gf ax
            have GST := Lib.hid (gst ax un)
            rw [show (zs U)[ax]'(by rw [length_zs]; omega) = ((U.getD ax 0 : Nat) : Int) by simp [zs, List.getD_eq_getElem?_getD, List.getElem?_eq_getElem (show ax < U.length by omega)]] at gax
            have D0 : (wr.drewN nq).cell? ⟨b1, o1 + i * 3, none⟩ = some (nv ax) := d0
            have E0 : (wr.drewN nq).cell? ⟨b1, o1 + jj * 3, none⟩ = some (nv bx) := e0
            have HBN := Lib.hid ((drn hb.out nq).setCell (p := ⟨w.heap.size, ax, none⟩) gg (.int .i64 un))
            clear gc gf gst hown hb d0 d1 d2 e0 e1 e2
            generalize U.getD ax 0 = ux at *
            generalize wr.drewN nq = w2 at *
            have i1 : (0 : Int) ≤ (ax : Int) := by omega
            have i2 : (ax : Int) < 5 := by omega
            have i3 : (0 : Int) ≤ (jj : Int) := by omega
            have i4 : (jj : Int) < (t.length : Int) := by omega
            refine wp_region_still_tail 21 (by kernel_rfl) (by kernel_rfl) ?_
            simp only [List.take_succ_cons, List.take_zero, List.drop_succ_cons, List.drop_zero]
            repeat (first | still_step | still_call (hwi.out _))
            refine wpStill_nil ?_
            go_wp2_with fail
            go_roundw
            case rel => exact ⟨m + 1, by have := HJ.out; omega, by rw [show i + 1 + (m + 1) = jj + 1 by have := HJ.out; omega]; go_num, Lib.hid (by rw [HRX.out, ← HZ.out]; exact Own.drew GST.out), Lib.hid HBN.out.drew⟩
            case measure => simp [intOf]; omega
        · obtain rfl : m = t.length - (i + 1) := by omega
          go_wp2_with fail
          go_roundw
          case rel => exact ⟨i + 1, by omega, by go_num, Lib.hid hown.out, hb⟩
          case measure => simp [intOf]; omega
    · obtain rfl : i = t.length := by omega
      go_wp2_with fail
      go_ret
      exact ⟨_, rfl, by rw [← HEND.out]; exact hown.out, hb.out⟩
end Go.Proofs.YtkindaadadggoaaDoor
