/- Contracts of package fold: Steps, Same. Conditions: each contract's own premises. -/
import Derived.Test.YtoedgncbgkdmoaaDoorFoldW
namespace Go.Proofs.YtoedgncbgkdmoaaDoor
open Go.RowKit

theorem Fld.step_lt {n : Nat} {free out : List Nat} {a : Nat} (h : ∀ x ∈ out, x < 2 ^ n) (ha : a < n) : ∀ x ∈ Fld.step free out a, x < 2 ^ n := by
  have hp : 2 ^ a < 2 ^ n := Nat.pow_lt_pow_right (by omega) ha
  intro x hx
  unfold Fld.step Fld.put at hx
  split at hx
  · rcases List.mem_append.1 hx with hx | hx
    · exact h x hx
    · simp at hx; omega
  · rcases List.mem_or_eq_of_mem_set hx with hx | rfl
    · exact h x hx
    · refine Nat.or_lt_two_pow ?_ hp
      rw [List.getD_eq_getElem?_getD]
      cases e : out[Fld.pos free out a out.length]? with
      | none => exact Nat.two_pow_pos n
      | some y => exact h y (List.mem_of_getElem? e)
theorem Fld.getD_lt {n : Nat} {out : List Nat} (h : ∀ x ∈ out, x < 2 ^ n) (k : Nat) : out.getD k 0 < 2 ^ n := by
  rw [List.getD_eq_getElem?_getD]
  cases e : out[k]? with
  | none => exact Nat.two_pow_pos n
  | some y => exact h y (List.mem_of_getElem? e)

theorem Fld.step_app {free out : List Nat} {a : Nat} (h : Fld.pos free out a out.length = out.length) : Fld.step free out a = (out ++ [0]).set out.length (0 ||| 2 ^ a) := by
  unfold Fld.step Fld.put
  rw [h, if_pos rfl, List.set_append_right _ _ (Nat.le_refl _), Nat.sub_self, Nat.zero_or]
  rfl
theorem Fld.step_set {free out : List Nat} {a j : Nat} (h : Fld.pos free out a out.length = j) (hj : j ≠ out.length) : Fld.step free out a = out.set j (out.getD j 0 ||| 2 ^ a) := by
  unfold Fld.step Fld.put
  rw [h, if_neg hj]
theorem Own.drewN {w : World} {base : Nat} {v : Value} {l : List Int} (h : Own w base v l) (n : Nat) : Own (w.drewN n) base v l := h

set_option maxHeartbeats 4000000 in
theorem fsteps_ok (m t : List Nat) (v u : Value) (w : World) (hv : Ints w w.heap.size v (zs m)) (hu : Ints w w.heap.size u (zs t)) (hg : Fld.Good m) (hl : t.length ≤ 24) (ht : ∀ x ∈ t, x < m.length) (hT : Tab w) :
    Calls Tryd.prog 13 #[v, u] w fun e w' => ∃ v', e = .returned (.tuple #[v', .nilIface]) ∧ Own w' w.heap.size v' (zs (Fld.steps m t)) ∧ Below w.heap.size w w' := by
  have hchk := Lib.hid (word_ok m t v u w hv hu hg hl ht hT)
  have HT := Lib.hid ht
  have HG := Lib.hid hg
  have hn := hg.1
  obtain ⟨A, cap, rfl⟩ := Rd.val hv
  obtain ⟨A', cap', rfl⟩ := Rd.val hu
  simp only [length_zs] at *
  clear ht hg
  go_enter Tryd.func13, Tryd.ntmps13
  go_wp2_with fail
  refine hchk.out.mono ?_
  rintro e w1 ⟨rfl, hb1⟩
  clear hchk
  have HU := Lib.hid hu
  have HV := Lib.hid hv
  clear hu hv
  go_wp2_with fail
  go_loopw [7, 19] (fun o i wr => ∃ (k : Nat) (out : List Nat), k ≤ t.length ∧ i = nv k ∧ Hid (out = Fld.steps m (t.take k)) ∧ out.length ≤ k ∧ Hid (∀ x ∈ out, x < 2 ^ m.length) ∧ Own wr w.heap.size o (zs out) ∧ Below w.heap.size w wr) (fun _ i _ => t.length - (intOf i).toNat)
  case atStart => exact ⟨0, [], Nat.zero_le _, rfl, Lib.hid rfl, Nat.le_refl _, Lib.hid (by simp), Own.nil _ _, hb1⟩
  case round =>
    obtain ⟨k, out, hk, rfl, hout, hol, hlt, hown, hb⟩ := hrel
    have hbs := hb.size
    obtain ⟨wo, rfl⟩ : ∃ wo : World, wo = wr := ⟨_, rfl⟩
    by_cases hkl : k < t.length
    · obtain ⟨b0, off, c0, he, _, hc⟩ := Ints.atN (Rd.below HU.out hb) hkl
      cases he
      have hx := HT.out (t.getD k 0) (by rw [List.getD_eq_getElem?_getD, List.getElem?_eq_getElem hkl]; exact List.getElem_mem hkl)
      have htk : (t.take k).length = k := by rw [List.length_take]; omega
      have hstep := Lib.hid (show Fld.steps m (t.take (k + 1)) = Fld.step m out (t.getD k 0) by rw [hout.out, Fld.steps_take m t hkl])
      obtain ⟨x, hxe⟩ : ∃ x, x = t.getD k 0 := ⟨_, rfl⟩
      rw [← hxe] at hc hx hstep
      clear hxe
      have hf64 : m.getD x 0 < 64 := by
        have h1 := HG.out.2.1.getD x
        have h2 : 2 ^ m.length ≤ 2 ^ 6 := Nat.pow_le_pow_right (by omega) hn
        omega
      obtain ⟨fx, hfx⟩ : ∃ fx, fx = m.getD x 0 := ⟨_, rfl⟩
      rw [← hfx] at hf64
      have HFX := Lib.hid hfx
      clear hfx
      obtain ⟨Ao, capo, rfl⟩ := Rd.val hown.ints
      rw [length_zs] at hown ⊢
      go_wp2_with fail
      go_loopw [10] (fun i wr => ∃ j : Nat, j ≤ out.length ∧ i = nv j ∧ Hid (Fld.pos m out x out.length = Fld.pos m out x j) ∧ Own wr w.heap.size (.slice Ao out.length capo) (zs out) ∧ Below w.heap.size w wr) (fun i _ => (intOf i).toNat)
      case atStart => exact ⟨out.length, Nat.le_refl _, rfl, Lib.hid rfl, hown, hb⟩
      case round =>
        clear hown hb hbs
        obtain ⟨j, hj, rfl, hpos, hown, hb⟩ := hrel
        have hbs := hb.size
        obtain ⟨b1, off1, c1, he, _, hcx⟩ := Ints.atN (Rd.below HV.out hb) hx
        cases he
        rw [← HFX.out] at hcx
        by_cases hcont : 0 < j ∧ Odr.diff (out.getD (j - 1) 0) fx = 0
        · obtain ⟨h0, hd0⟩ := hcont
          have HOWN := Lib.hid hown
          obtain ⟨g, cap2, he, gb, gs, _, gc, gf, gst⟩ := Own.shape hown (by rw [length_zs]; omega)
          rw [length_zs] at he
          cases he
          have gj := gc (j - 1) (by rw [length_zs]; omega)
          rw [zs_getElem] at gj
          have hy64 : out.getD (j - 1) 0 < 64 := by
            have h1 := Fld.getD_lt hlt.out (j - 1)
            have h2 : 2 ^ m.length ≤ 2 ^ 6 := Nat.pow_le_pow_right (by omega) hn
            omega
          have hp1 := Lib.hid (show Fld.pos m out x j = Fld.pos m out x (j - 1) by
            rw [show j = (j - 1) + 1 by omega, Fld.pos, if_pos (by rw [← HFX.out]; exact hd0)]
            simp)
          generalize out.getD (j - 1) 0 = y at *
          have hdf := bits_andNot y fx (by omega) (by omega)
          rw [hd0] at hdf
          have hd : decide ((0 : Int) < (j : Int)) = true := by simp; omega
          have e1 : IntKind.i64.wrap ((j : Int) - 1) = (j : Int) - 1 := IntWalk.i64_in _ (by constructor <;> omega)
          have e2 : (0 : Int) ≤ (j : Int) - 1 := by omega
          have e2' : (1 : Int) ≤ (j : Int) := by omega
          have e3 : ((j : Int) - 1).toNat = j - 1 := by omega
          have e4 : (j : Int) - 1 < (out.length : Int) := by omega
          have hpp := Lib.hid (hpos.out.trans hp1.out)
          have HB := Lib.hid hb
          clear gc gf gst hp1 hpos hown hd0 hb
          go_wp2_with fail
          go_quiet (fail)
          clear e1
          go_wp2_with fail
          go_roundw
          case rel => exact ⟨j - 1, by omega, congrArg (Value.int .i64) (by omega), hpp, HOWN.out, drn HB.out _⟩
          case measure => simp [intOf]; omega
        · have hpj := Lib.hid (show Fld.pos m out x out.length = j by
            rw [hpos.out]
            rcases j with _ | j
            · rfl
            · rw [Fld.pos, if_neg (fun h => hcont ⟨by omega, by rw [HFX.out]; exact h⟩)])
          by_cases h0 : 0 < j
          · have hd0 : Odr.diff (out.getD (j - 1) 0) fx ≠ 0 := fun h => hcont ⟨h0, h⟩
            obtain ⟨g, cap2, he, gb, gs, _, gc, gf, gst⟩ := Own.shape hown (by rw [length_zs]; omega)
            rw [length_zs] at he
            cases he
            have gj := gc (j - 1) (by rw [length_zs]; omega)
            rw [zs_getElem] at gj
            have hy64 : out.getD (j - 1) 0 < 64 := by
              have h1 := Fld.getD_lt hlt.out (j - 1)
              have h2 : 2 ^ m.length ≤ 2 ^ 6 := Nat.pow_le_pow_right (by omega) hn
              omega
            generalize out.getD (j - 1) 0 = y at *
            have hdf := bits_andNot y fx (by omega) (by omega)
            have hdn : (bits .andNot .i64 (y : Int) (fx : Int) == 0) = false := by rw [hdf]; simp; omega
            have hd : decide ((0 : Int) < (j : Int)) = true := by simp; omega
            have e1 : IntKind.i64.wrap ((j : Int) - 1) = (j : Int) - 1 := IntWalk.i64_in _ (by constructor <;> omega)
            have e2 : (0 : Int) ≤ (j : Int) - 1 := by omega
            have e2' : (1 : Int) ≤ (j : Int) := by omega
            have e3 : ((j : Int) - 1).toNat = j - 1 := by omega
            have e4 : (j : Int) - 1 < (out.length : Int) := by omega
            have HOWN := Lib.hid hown
            have HB := Lib.hid hb
            clear gc gf gst hpos hd0 hb hcont hdf hown
            go_wp2_with fail
            go_quiet (fail)
            clear e1 gj hdn hcx
            obtain ⟨W, hW⟩ : ∃ W, W = wr.drewN nq := ⟨_, rfl⟩
            have hown : Own W w.heap.size (.slice (some ⟨g, 0, none⟩) out.length capo) (zs out) := by rw [hW]; exact HOWN.out
            have hb : Below w.heap.size w W := by rw [hW]; exact drn HB.out _
            rw [← hW]
            clear hW HOWN HB e2 e2' e3 e4 gb gs hd h0 hy64 hbs
            have hbs := hb.size
            have hlt' := Lib.hid (Fld.step_lt (free := m) hlt.out hx)
            have hle' : (Fld.step m out x).length ≤ k + 1 := by
              rw [Fld.length_step]
              have := Fld.pos_le m out x out.length
              omega
            by_cases hjl : j = out.length
            · have hje : ((j : Int) == (out.length : Int)) = true := by simp; omega
              have HST := Lib.hid (show Fld.step m out x = (out ++ [0]).set j (0 ||| 2 ^ x) by rw [hjl]; exact Fld.step_app (hpj.out.trans hjl))
              have HJ := Lib.hid hjl
              have hjlt : j < out.length + 1 := by omega
              clear hjl
              go_wp2_with (at_builtin; refine append_int rfl _ _ rfl w.heap.size _ (zs out) rfl (Own.alloc hown _) W.heap.size rfl 0 (by simp) (by rw [length_zs]; omega) (by simp; omega) ?_; intro v' w1 hown1 hb1 _)
              have hown2 : Own w1 w.heap.size v' (zs (out ++ [0])) := by simpa [zs] using hown1
              have hb2 : Below w.heap.size w w1 := (hb.alloc hbs _).trans hb1
              have HL := Lib.hid (show (zs (out ++ [0])).length = out.length + 1 by simp)
              clear hown1 hb1 hown hb
              obtain ⟨g', cap', he, gb', gs', _, gc', gf', gst'⟩ := Own.shape hown2 (by rw [HL.out]; omega)
              rw [HL.out] at he
              subst he
              have gj' := gc' j (by rw [HL.out]; exact hjlt)
              rw [zs_getElem, HJ.out] at gj'
              rw [show (out ++ [0] : List Nat).getD out.length 0 = 0 by simp [List.getD_eq_getElem?_getD], ← HJ.out] at gj'
              have gfj' := gf' j
              have GST := Lib.hid gst'
              clear gc' gf' gst' hown2
              have hx6 : x < 62 := by omega
              go_wp2_with fail
              go_region
              go_wp2_with fail
              go_roundw
              case rel => exact ⟨k + 1, Fld.step m out x, by omega, by go_num, Lib.hid hstep.out.symm, hle', hlt', by
                have h := GST.out j ((0 ||| 2 ^ x : Nat) : Int)
                rw [zs_set, ← HST.out] at h
                have e := bits_or_shl 0 x (by omega) hx6
                rw [HST.out] at h ⊢
                rw [← e] at h
                exact h.drew, (hb2.setCell (p := ⟨_, _, none⟩) gb' _).drew⟩
              case measure => simp [intOf]; omega
            · have hje : ((j : Int) == (out.length : Int)) = false := by simp; omega
              have HST := Lib.hid (show Fld.step m out x = out.set j (out.getD j 0 ||| 2 ^ x) from Fld.step_set hpj.out hjl)
              have hjlt : j < out.length := by omega
              clear hjl
              obtain ⟨g', cap', he, gb', gs', _, gc', gf', gst'⟩ := Own.shape hown (by rw [length_zs]; omega)
              rw [length_zs] at he
              cases he
              have gj' := gc' j (by rw [length_zs]; exact hjlt)
              rw [zs_getElem] at gj'
              have hz64 : out.getD j 0 < 64 := by
                have h1 := Fld.getD_lt hlt.out j
                have h2 : 2 ^ m.length ≤ 2 ^ 6 := Nat.pow_le_pow_right (by omega) hn
                omega
              generalize out.getD j 0 = z at *
              have gfj' := gf' j
              have GST := Lib.hid gst'
              clear gc' gf' gst' hown
              have hx6 : x < 62 := by omega
              go_wp2_with fail
              go_region
              go_wp2_with fail
              go_roundw
              case rel => exact ⟨k + 1, Fld.step m out x, by omega, by go_num, Lib.hid hstep.out.symm, hle', hlt', by
                have h := GST.out j ((z ||| 2 ^ x : Nat) : Int)
                rw [zs_set, ← HST.out] at h
                have e := bits_or_shl z x (by omega) hx6
                rw [← e] at h
                exact h.drew, (hb.setCell (p := ⟨_, _, none⟩) gb' _).drew⟩
              case measure => simp [intOf]; omega
          · obtain rfl : j = 0 := by omega
            have hd : decide ((0 : Int) < ((0 : Nat) : Int)) = false := by simp
            have HOWN := Lib.hid hown
            have HB := Lib.hid hb
            clear hown hb hcont h0 hpos hcx
            go_wp2_with fail
            go_quiet (fail)
            obtain ⟨W, hW⟩ : ∃ W, W = wr.drewN nq := ⟨_, rfl⟩
            have hown : Own W w.heap.size (.slice Ao out.length capo) (zs out) := by rw [hW]; exact HOWN.out
            have hb : Below w.heap.size w W := by rw [hW]; exact drn HB.out _
            rw [← hW]
            clear hW HOWN HB hd hbs
            have hbs := hb.size
            have hlt' := Lib.hid (Fld.step_lt (free := m) hlt.out hx)
            have hle' : (Fld.step m out x).length ≤ k + 1 := by
              rw [Fld.length_step]
              have := Fld.pos_le m out x out.length
              omega
            by_cases hjl : 0 = out.length
            · have hje : (((0 : Nat) : Int) == (out.length : Int)) = true := by simp; omega
              have HST := Lib.hid (show Fld.step m out x = (out ++ [0]).set 0 (0 ||| 2 ^ x) by
                have e := Fld.step_app (hpj.out.trans hjl)
                have e2 : out.length = 0 := hjl.symm
                rw [e2] at e
                exact e)
              have HJ := Lib.hid hjl
              have hjlt : 0 < out.length + 1 := by omega
              clear hjl
              go_wp2_with (at_builtin; refine append_int rfl _ _ rfl w.heap.size _ (zs out) rfl (Own.alloc hown _) W.heap.size rfl 0 (by simp) (by rw [length_zs]; omega) (by simp; omega) ?_; intro v' w1 hown1 hb1 _)
              have hown2 : Own w1 w.heap.size v' (zs (out ++ [0])) := by simpa [zs] using hown1
              have hb2 : Below w.heap.size w w1 := (hb.alloc hbs _).trans hb1
              have HL := Lib.hid (show (zs (out ++ [0])).length = out.length + 1 by simp)
              clear hown1 hb1 hown hb
              obtain ⟨g', cap', he, gb', gs', _, gc', gf', gst'⟩ := Own.shape hown2 (by rw [HL.out]; omega)
              rw [HL.out] at he
              subst he
              have gj' := gc' 0 (by rw [HL.out]; exact hjlt)
              rw [zs_getElem, show (out ++ [0] : List Nat).getD 0 0 = 0 by
                have e : out = [] := List.length_eq_zero_iff.1 HJ.out.symm
                rw [e]; rfl] at gj'
              have gfj' := gf' 0
              have GST := Lib.hid gst'
              clear gc' gf' gst' hown2
              have hx6 : x < 62 := by omega
              go_wp2_with fail
              go_region
              go_wp2_with fail
              go_roundw
              case rel => exact ⟨k + 1, Fld.step m out x, by omega, by go_num, Lib.hid hstep.out.symm, hle', hlt', by
                have h := GST.out 0 ((0 ||| 2 ^ x : Nat) : Int)
                rw [zs_set, ← HST.out] at h
                have e := bits_or_shl 0 x (by omega) hx6
                rw [HST.out] at h ⊢
                rw [← e] at h
                exact h.drew, (hb2.setCell (p := ⟨_, _, none⟩) gb' _).drew⟩
              case measure => simp [intOf]; omega
            · have hje : (((0 : Nat) : Int) == (out.length : Int)) = false := by simp; omega
              have HST := Lib.hid (show Fld.step m out x = out.set 0 (out.getD 0 0 ||| 2 ^ x) from Fld.step_set hpj.out hjl)
              have hjlt : 0 < out.length := by omega
              clear hjl
              obtain ⟨g', cap', he, gb', gs', _, gc', gf', gst'⟩ := Own.shape hown (by rw [length_zs]; omega)
              rw [length_zs] at he
              cases he
              have gj' := gc' 0 (by rw [length_zs]; exact hjlt)
              rw [zs_getElem] at gj'
              have hz64 : out.getD 0 0 < 64 := by
                have h1 := Fld.getD_lt hlt.out 0
                have h2 : 2 ^ m.length ≤ 2 ^ 6 := Nat.pow_le_pow_right (by omega) hn
                omega
              generalize out.getD 0 0 = z at *
              have gfj' := gf' 0
              have GST := Lib.hid gst'
              clear gc' gf' gst' hown
              have hx6 : x < 62 := by omega
              go_wp2_with fail
              go_region
              go_wp2_with fail
              go_roundw
              case rel => exact ⟨k + 1, Fld.step m out x, by omega, by go_num, Lib.hid hstep.out.symm, hle', hlt', by
                have h := GST.out 0 ((z ||| 2 ^ x : Nat) : Int)
                rw [zs_set, ← HST.out] at h
                have e := bits_or_shl z x (by omega) hx6
                rw [← e] at h
                exact h.drew, (hb.setCell (p := ⟨_, _, none⟩) gb' _).drew⟩
              case measure => simp [intOf]; omega
    · obtain rfl : k = t.length := by omega
      rw [List.take_length] at hout
      clear hkl
      have h1 := hout.out
      subst h1
      clear hout
      go_wp2_with fail
      go_ret2
      exact ⟨_, rfl, hown, hb⟩
end Go.Proofs.YtoedgncbgkdmoaaDoor
