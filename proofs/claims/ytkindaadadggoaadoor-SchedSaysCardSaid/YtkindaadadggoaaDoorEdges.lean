/- The contract of package sched's Edges: of each transaction which others must come behind it. Conditions: the contract's own premises. -/
import Derived.Test.YtkindaadadggoaaDoorActs
import Derived.Test.YtkindaadadggoaaDoorSchedM
import Derived.Test.YtkindaadadggoaaDoorRow12
import Derived.Deep.QuietTactic
namespace Go.Proofs.YtkindaadadggoaaDoor
open Go.RowKit

theorem Acts.atN {w : World} {B : Nat} {v : Value} {t : List Sch.N3} (h : Acts w B v (Sch.zacts t)) {k : Nat} (hk : k < t.length) :
    ∃ b off cap, v = .slice (some ⟨b, off, none⟩) t.length cap ∧ t.length ≤ cap ∧ cap ≤ maxLen ∧ b < B ∧ w.cell? ⟨b, off + k * 3, none⟩ = some (nv (t.getD k Sch.d3).1) ∧
      w.cell? ⟨b, off + k * 3 + 1, none⟩ = some (nv (t.getD k Sch.d3).2.1) ∧ w.cell? ⟨b, off + k * 3 + 2, none⟩ = some (nv (t.getD k Sch.d3).2.2) := by
  obtain ⟨b, off, cap, e, h1, h2, hb, hc⟩ := Acts.at_ h (k := k) (by simpa using hk)
  have e' : (Sch.zacts t)[k]'(by simpa using hk) = Sch.z3 (t.getD k Sch.d3) := by
    simp [Sch.zacts, List.getD_eq_getElem?_getD, List.getElem?_eq_getElem hk]
  rw [e'] at hc
  rw [Sch.length_zacts] at e h1
  exact ⟨b, off, cap, e, h1, h2, hb, hc⟩

set_option maxHeartbeats 400000 in
/-- of two acts of two transactions: at one item, and one writes -/
theorem clash_calls (a b : Sch.N3) (w : World) (ha : Sch.Ok3 a) (hb : Sch.Ok3 b) (hne : a.1 ≠ b.1) :
    Calls Tryd.prog 74 #[.agg #[nv a.1, nv a.2.1, nv a.2.2], .agg #[nv b.1, nv b.2.1, nv b.2.2]] w fun e w' => e = .returned (.bool (Sch.clash a b)) ∧ Below w.heap.size w w' := by
  obtain ⟨a1, a2, a3⟩ := a
  obtain ⟨b1, b2, b3⟩ := b
  obtain ⟨_, _, ha3⟩ := ha
  obtain ⟨_, _, hb3⟩ := hb
  simp only at ha3 hb3 hne
  have h1' : ((a1 : Int) == (b1 : Int)) = false := by simp; omega
  by_cases h2 : a2 = b2
  · have h2' : ((a2 : Int) == (b2 : Int)) = true := by simp [h2]
    by_cases h3 : 0 < a3 + b3
    · have H' := Lib.hid (show Sch.clash (a1, a2, a3) (b1, b2, b3) = true by simp [Sch.clash, h2, h3, hne])
      clear h2 hne
      have h3' : decide ((0 : Int) < (a3 : Int) + (b3 : Int)) = true := by simp; omega
      go_enter Tryd.func74, Tryd.ntmps74
      go_wp2
      go_ret
      exact ⟨by rw [H'.out]; rfl, by go_grown⟩
    · have H' := Lib.hid (show Sch.clash (a1, a2, a3) (b1, b2, b3) = false by simp [Sch.clash, h3])
      clear h2 hne
      have h3' : decide ((0 : Int) < (a3 : Int) + (b3 : Int)) = false := by simp; omega
      go_enter Tryd.func74, Tryd.ntmps74
      go_wp2
      go_ret
      exact ⟨by rw [H'.out]; rfl, by go_grown⟩
  · have h2' : ((a2 : Int) == (b2 : Int)) = false := by simp; omega
    have H' := Lib.hid (show Sch.clash (a1, a2, a3) (b1, b2, b3) = false by simp [Sch.clash, h2])
    clear h2 hne
    go_enter Tryd.func74, Tryd.ntmps74
    go_wp2
    go_ret
    exact ⟨by rw [H'.out]; rfl, by go_grown⟩

theorem actsOk {t : List Sch.N3} (h : ∀ a ∈ t, Sch.Ok3 a) : ∀ a ∈ Sch.zacts t, actOk a := by
  intro a ha
  obtain ⟨b, hb, rfl⟩ := List.mem_map.1 ha
  obtain ⟨h1, h2, h3⟩ := h b hb
  refine ⟨⟨?_, ?_⟩, ⟨?_, ?_⟩, ?_, ?_⟩ <;> (simp only [Sch.z3]; omega)

set_option maxHeartbeats 1000000 in
theorem edges_ok (t : List Sch.N3) (v : Value) (w : World) (hr : Acts w w.heap.size v (Sch.zacts t)) (hlen : t.length ≤ 24) (hok : ∀ a ∈ t, Sch.Ok3 a) :
    Calls Tryd.prog 51 #[v] w fun e w' => ∃ v', e = .returned (.tuple #[v', .nilIface]) ∧ Own w' w.heap.size v' (zs (Sch.edges t)) ∧ Below w.heap.size w w' := by
  obtain ⟨i0, hi, hz0, hz1, hz2⟩ := info_parts Tryd.infoInt
  have hchk := Lib.hid (check_ok (Sch.zacts t) v w hr (by simpa using hlen) (actsOk hok))
  obtain ⟨A, cap, rfl⟩ := Rd.val hr
  simp only [Sch.length_zacts] at *
  have HI := Lib.hid hi
  have HZ0 := Lib.hid hz0
  have HZ1 := Lib.hid hz1
  have HZ2 := Lib.hid hz2
  have HOK := Lib.hid hok
  clear hi hz0 hz1 hz2 hok
  have hreg := hr
  go_enter Tryd.func51, Tryd.ntmps51
  go_wp2_with fail
  refine hchk.out.mono ?_
  rintro e w1 ⟨rfl, hb1⟩
  clear hchk
  go_wp2_with (at_make; refine wpList_make_full _ rfl _ _ 26 rfl w.heap.size 3 i0 (.int .i64 0) 1 Tryd.underlying26 HI.out HZ0.out HZ1.out .i64 .i64 5 5 5 rfl rfl rfl rfl (by rw [HZ2.out]; decide) (by decide) (hb1.size) ?_; intro w2 hown hg2)
  have hb2 : Below w.heap.size w w2 := hb1.grown hg2 hb1.size (fun _ h => by cases h)
  have hB1 := hb1.size
  have hown0 : Own w2 w.heap.size (.slice (some ⟨w1.heap.size, 0, none⟩) 5 5) (zs (Sch.eouter t 0)) := by
    have := toList_madeCells_one (.int .i64 0) 5
    simp only [Value.cells] at hown
    rw [show 5 * 1 = 5 from rfl, this] at hown
    exact hown
  clear hown hg2 hb1
  generalize w1.heap.size = g at *
  go_loopw [18] (fun i wr => ∃ k : Nat, k ≤ t.length ∧ i = .int .i64 k ∧ Own wr w.heap.size (.slice (some ⟨g, 0, none⟩) 5 5) (zs (Sch.eouter t k)) ∧ Below w.heap.size w wr) (fun i _ => t.length - (intOf i).toNat)
  case atStart => exact ⟨0, Nat.zero_le _, rfl, hown0, hb2⟩
  case round =>
    clear hown0 hb2 hB1
    obtain ⟨k, hk, rfl, hown, hb⟩ := hrel
    have hbs := hb.size
    by_cases hlt : k < t.length
    · obtain ⟨b, off, cap', he, hlc, hcm, hbB, d0, d1, d2⟩ := Acts.atN (Rd.below hr hb) hlt
      cases he
      obtain ⟨aj, haj⟩ : ∃ a, a = t.getD k Sch.d3 := ⟨_, rfl⟩
      have hj3 := Lib.hid (Sch.getD_ok HOK.out k)
      rw [← haj] at d0 d1 d2 hj3
      have HAJ := Lib.hid haj
      clear haj
      obtain ⟨tj, ij, wj⟩ := aj
      simp only at d0 d1 d2
      obtain ⟨wo, rfl⟩ : ∃ wo : World, wo = wr := ⟨_, rfl⟩
      go_wp2_with fail
      clear d0 d1 d2
      have hg := (Own.lit hown).2.1
      go_loopw [27] (fun i wr => ∃ m : Nat, m ≤ k ∧ i = .int .i64 m ∧ Own wr w.heap.size (.slice (some ⟨g, 0, none⟩) 5 5) (zs (Sch.einner t k m (Sch.eouter t k))) ∧ Below w.heap.size w wr ∧
          wo.heap.size < wr.heap.size ∧ wr.cell? ⟨wo.heap.size, 0, none⟩ = some (nv tj) ∧ wr.cell? ⟨wo.heap.size, 1, none⟩ = some (nv ij) ∧ wr.cell? ⟨wo.heap.size, 2, none⟩ = some (nv wj)) (fun i _ => k - (intOf i).toNat)
      case atStart => exact ⟨0, Nat.zero_le _, rfl, hown.alloc _, hb.alloc hbs _, by simp, by simp, by simp, by simp⟩
      case round =>
        obtain ⟨m, hm, rfl, hown', hb', hlt', e0, e1, e2⟩ := hrel
        have hbs' := hb'.size
        clear hown hb
        by_cases hmk : m < k
        · obtain ⟨b', off', cap'', he, _, _, _, d0, d1, d2⟩ := Acts.atN (Rd.below hr hb') (show m < t.length by omega)
          cases he
          obtain ⟨ai, hai⟩ : ∃ a, a = t.getD m Sch.d3 := ⟨_, rfl⟩
          have hi3 := Lib.hid (Sch.getD_ok HOK.out m)
          rw [← hai] at d0 d1 d2 hi3
          have HAI := Lib.hid hai
          clear hai
          obtain ⟨ti, ii, wi⟩ := ai
          simp only at d0 d1 d2
          by_cases htt : ti = tj
          · have hne : ((ti : Int) != (tj : Int)) = false := by simp [htt]
            have hcl := Lib.hid (show Sch.clash (ti, ii, wi) (tj, ij, wj) = false by simp [Sch.clash, htt])
            clear htt
            go_wp2
            go_roundw
            case rel => exact ⟨m + 1, by omega, by go_num, by
                rw [Sch.einner, ← HAI.out, ← HAJ.out, Sch.estep, hcl.out]; exact hown'.alloc _, hb'.alloc hbs' _, by simp; omega, by simp [World.cell?_alloc_past, hlt', e0], by simp [World.cell?_alloc_past, hlt', e1], by simp [World.cell?_alloc_past, hlt', e2]⟩
            case measure => simp [intOf]; omega
          · have hne : ((ti : Int) != (tj : Int)) = true := by simp; omega
            have HTT := Lib.hid htt
            clear htt
            by_cases hcl : Sch.clash (ti, ii, wi) (tj, ij, wj) = true
            · have hcall := Lib.hid (fun W => clash_calls (ti, ii, wi) (tj, ij, wj) W hi3.out hj3.out HTT.out)
              rw [hcl] at hcall
              have HCL := Lib.hid hcl
              clear hcl
              go_wp2_with fail
              refine (hcall.out _).mono ?_
              rintro e w3 ⟨rfl, hb3⟩
              have hs3 := hb3.size
              simp only [World.size_alloc] at hs3
              have hown3 := (hown'.alloc _).kept hb3
              have f0 : w3.cell? ⟨wr.heap.size, 0, none⟩ = some (nv ti) := by rw [hb3.cell (by simp)]; simp
              have f1 : w3.cell? ⟨wo.heap.size, 0, none⟩ = some (nv tj) := by rw [hb3.cell (by simp; omega)]; simp [World.cell?_alloc_past, hlt', e0]
              have f2 : w3.cell? ⟨wo.heap.size, 1, none⟩ = some (nv ij) := by rw [hb3.cell (by simp; omega)]; simp [World.cell?_alloc_past, hlt', e1]
              have f3 : w3.cell? ⟨wo.heap.size, 2, none⟩ = some (nv wj) := by rw [hb3.cell (by simp; omega)]; simp [World.cell?_alloc_past, hlt', e2]
              have hb3' : Below w.heap.size w w3 := (hb'.alloc hbs' _).trans (hb3.mono (by simp; omega))
              have hti := hi3.out.1
              have htj := hj3.out.1
              simp only at hti htj
              obtain ⟨gb, gs, gc, gf, gst⟩ := Own.lit hown3
              have gcell := gc ti (by simp [Sch.length_einner, Sch.length_eouter]; omega)
              rw [zs_getElem] at gcell
              have gfr := gf ti
              have GST := Lib.hid gst
              clear gc gf gst hcall hb3
              generalize hx : (Sch.einner t k m (Sch.eouter t k)).getD ti 0 = x at *
              have HX := Lib.hid hx
              clear hx
              have hxl : x < 2 ^ 63 := by
                have := (Sch.Fits.einner HOK.out (Sch.fits_eouter HOK.out k) (Sch.length_eouter t k) k m).getD ti
                rw [HX.out, Sch.length_einner, Sch.length_eouter] at this
                omega
              have HXL := Lib.hid hxl
              clear hxl
              go_wp2_with fail
              go_region
              go_wp2
              go_roundw
              case rel => exact ⟨m + 1, by omega, by go_num, by
                have := GST.out ti ((x ||| 2 ^ tj : Nat) : Int)
                rw [zs_set] at this
                rw [bits_or_shl _ _ HXL.out (by omega), Sch.einner, ← HAI.out, ← HAJ.out, Sch.estep, HCL.out, if_pos rfl]
                unfold Odr.more
                rw [HX.out]
                exact this.drew, by exact (hb3'.setCell (by simpa using gb) _).drew, by simp; omega, by simp [World.cell?_setCell_other, f1], by simp [World.cell?_setCell_other, f2], by simp [World.cell?_setCell_other, f3]⟩
              case measure => simp [intOf]; omega
            · have hcl' : Sch.clash (ti, ii, wi) (tj, ij, wj) = false := by simpa using hcl
              have hcall := Lib.hid (fun W => clash_calls (ti, ii, wi) (tj, ij, wj) W hi3.out hj3.out HTT.out)
              rw [hcl'] at hcall
              have HCL := Lib.hid hcl'
              clear hcl hcl'
              go_wp2_with fail
              refine (hcall.out _).mono ?_
              rintro e w3 ⟨rfl, hb3⟩
              have hs3 := hb3.size
              simp only [World.size_alloc] at hs3
              have hown3 := (hown'.alloc _).kept hb3
              have f1 : w3.cell? ⟨wo.heap.size, 0, none⟩ = some (nv tj) := by rw [hb3.cell (by simp; omega)]; simp [World.cell?_alloc_past, hlt', e0]
              have f2 : w3.cell? ⟨wo.heap.size, 1, none⟩ = some (nv ij) := by rw [hb3.cell (by simp; omega)]; simp [World.cell?_alloc_past, hlt', e1]
              have f3 : w3.cell? ⟨wo.heap.size, 2, none⟩ = some (nv wj) := by rw [hb3.cell (by simp; omega)]; simp [World.cell?_alloc_past, hlt', e2]
              have hb3' : Below w.heap.size w w3 := (hb'.alloc hbs' _).trans (hb3.mono (by simp; omega))
              clear hcall hb3
              go_wp2_with fail
              go_roundw
              case rel => exact ⟨m + 1, by omega, by go_num, by
                rw [Sch.einner, ← HAI.out, ← HAJ.out, Sch.estep, HCL.out]
                exact hown3, hb3', by omega, f1, f2, f3⟩
              case measure => simp [intOf]; omega
        · obtain rfl : m = k := by omega
          clear hmk e0 e1 e2 hlt'
          go_wp2_with fail
          go_roundw
          case rel => exact ⟨m + 1, by omega, by go_num, by rw [Sch.eouter]; exact hown', hb'⟩
          case measure => simp [intOf]; omega
    · obtain rfl : k = t.length := by omega
      clear hlt
      go_wp2_with fail
      go_ret2
      exact ⟨_, rfl, hown, hb⟩
end Go.Proofs.YtkindaadadggoaaDoor
