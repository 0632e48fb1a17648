/- Contracts of package hist's row, Atomic and Weak. Conditions: each contract's own premises. (Printed by wip/gen/hrow.py.) -/
import Derived.Test.YtjmjifcaobkobaaDoorHLoop2
import Derived.Test.YtjmjifcaobkobaaDoorSlc
namespace Go.Proofs.YtjmjifcaobkobaaDoor
open Go.RowKit Go.Maps His

/-- a call of 'from', whole -/
theorem from_ok (h : List N6) (hh : Hok h) (pre : List Nat) (hv pv : Value) (bd B : Nat) : ∀ d, FromOk h pre hv pv bd B d := by
  intro d
  induction d with
  | zero => exact from_full h hh pre hv pv bd B
  | succ d ih =>
    intro l done v0 v1 v2 n ov I w hl hd hc h0 h1 h2 hn hs hst
    have hd12 : done < 4096 := Nat.lt_of_lt_of_le hd (Nat.le_trans (Nat.pow_le_pow_right (by omega) hh.len) (by decide))
    cases hI : I done with
    | none =>
      refine from_loop h hh pre hv pv bd B d ih l done v0 v1 v2 n ov I w hl hd hc h0 h1 h2 hn hs hst (fun w' _ => ?_)
      rw [hI]
      exact look_nilMap w' h0 h1 h2
    | some b =>
      obtain ⟨g1, g2, g3⟩ := hs.inn done b hI
      obtain ⟨r, hr, hG⟩ := g2.lookAll h0 h1 h2
      cases r with
      | true =>
        have hnone := (Gd_of (h := h) (pre := pre) (v := [v0, v1, v2]) hl hc).1 (hG rfl)
        refine (from_dead h hh pre hv pv bd B d l done v0 v1 v2 n ov I w hl hd12 hs hst hI (fun w' hw => hr w' hw)).mono ?_
        rintro e w' ⟨rfl, hto⟩
        refine ⟨by rw [hnone]; rfl, ?_⟩
        rw [hnone]
        obtain ⟨ov', I', n', q1, q2, q3, q4⟩ := hto
        exact ⟨ov', I', n', by simpa using q1, Nat.le_trans q2 (Nat.le_add_right _ _), q3, q4⟩
      | false =>
        refine from_loop h hh pre hv pv bd B d ih l done v0 v1 v2 n ov I w hl hd hc h0 h1 h2 hn hs hst (fun w' hw => ?_)
        rw [hI]
        exact hr w' (hw b hI)

/-- what Check lets by, as natural numbers -/
theorem ops_ok {h' : List Z6} (h0 : histCode h' = 0) : ∃ h : List N6, h' = zops h ∧ Hok h := by
  have hlen : ¬ 10 < h'.length := fun hl => by unfold histCode at h0; rw [if_pos hl] at h0; cases h0
  have hc : hcode h' h'.length = 0 := by unfold histCode at h0; rwa [if_neg hlen] at h0
  have hall := fun k hk => codeAt_zero (hcode_zero h'.length (Nat.le_refl _) hc k hk)
  have hz : ∀ o : Z6, rngs o → zop (o.1.toNat, o.2.1.toNat, o.2.2.1.toNat, o.2.2.2.1.toNat, o.2.2.2.2.1.toNat, o.2.2.2.2.2.toNat) = o := by
    rintro ⟨a, b, c, d, e, f⟩ ⟨⟨h0, _⟩, ⟨h1, _⟩, ⟨h2, _⟩, ⟨h3, _⟩, ⟨h4, _⟩, h5, _⟩
    simp only [zop, Prod.mk.injEq] at *
    omega
  have hin : ∀ o ∈ h', rngs o ∧ o.2.2.2.2.1 < o.2.2.2.2.2 := by
    intro o ho
    obtain ⟨k, hk, rfl⟩ := List.mem_iff_getElem.1 ho
    have := hall k hk
    rw [getD_z6 hk] at this
    exact ⟨this.1, this.2.1⟩
  let cv : Z6 → N6 := fun o => (o.1.toNat, o.2.1.toNat, o.2.2.1.toNat, o.2.2.2.1.toNat, o.2.2.2.2.1.toNat, o.2.2.2.2.2.toNat)
  refine ⟨h'.map cv, ?_, ?_, ?_, ?_⟩
  · unfold zops
    rw [List.map_map]
    conv => lhs; rw [← List.map_id h']
    refine List.map_congr_left fun o ho => ?_
    exact (hz o (hin o ho).1).symm
  · rw [List.length_map]; omega
  · intro a ha
    obtain ⟨o, ho, rfl⟩ := List.mem_map.1 ha
    obtain ⟨⟨⟨a0, b0⟩, ⟨a1, b1⟩, ⟨a2, b2⟩, ⟨a3, b3⟩, ⟨a4, b4⟩, a5, b5⟩, hlt⟩ := hin o ho
    simp only [cv, pr, ob, wr, vl, fr, tt]
    omega
  · rw [List.pairwise_map, List.pairwise_iff_getElem]
    intro i j hi hj hij hcl
    have h2 := (hall j hj).2.2 (h'[i]) (by
      rw [List.mem_take_iff_getElem]
      exact ⟨i, by omega, rfl⟩)
    rw [getD_z6 hj] at h2
    obtain ⟨⟨⟨a0, b0⟩, ⟨a1, b1⟩, ⟨a2, b2⟩, ⟨a3, b3⟩, ⟨a4, b4⟩, a5, b5⟩, _⟩ := hin _ (List.getElem_mem hi)
    obtain ⟨⟨⟨c0, d0⟩, ⟨c1, d1⟩, ⟨c2, d2⟩, ⟨c3, d3⟩, ⟨c4, d4⟩, c5, d5⟩, _⟩ := hin _ (List.getElem_mem hj)
    refine h2 ?_
    simp only [cv, pr, fr, tt] at hcl
    unfold clash6
    omega

theorem mk_next {k : Nat} {p : Nat → Bool} (h : p k = true) : Odr.mk k p ||| 2 ^ k = Odr.mk (k + 1) p := by
  apply Nat.eq_of_testBit_eq
  intro i
  rw [Nat.testBit_or, Odr.testBit_mk, Nat.testBit_two_pow, Odr.testBit_mk]
  by_cases e : k = i
  · subst e; simp [h]
  · have e1 : decide (k = i) = false := by simpa using e
    have e2 : decide (i < k + 1) = decide (i < k) := by rw [decide_eq_decide]; omega
    rw [e1, e2]; simp
theorem mk_skip {k : Nat} {p : Nat → Bool} (h : p k = false) : Odr.mk (k + 1) p = Odr.mk k p := by rw [Odr.mk, h]; rfl
/-- the table of what must stand ahead, after i rows and m more -/
def preP (all : Bool) (h : List N6) (i m : Nat) : List Nat := (List.range h.length).map fun j => Odr.mk (if j < m then i + 1 else i) fun a => aheadB all (opAt h a) (opAt h j)
@[simp] theorem length_preP (all : Bool) (h : List N6) (i m : Nat) : (preP all h i m).length = h.length := by simp [preP]
theorem preP_zero (all : Bool) (h : List N6) : preP all h 0 0 = List.replicate h.length 0 := by
  apply List.ext_getElem (by simp)
  intro j h1 h2
  simp [preP, Odr.mk]
theorem preP_next (all : Bool) (h : List N6) (i : Nat) : preP all h i h.length = preP all h (i + 1) 0 := by
  apply List.ext_getElem (by simp)
  intro j h1 h2
  have : j < h.length := by simpa using h1
  simp [preP, this]
theorem preP_all (all : Bool) (h : List N6) : preP all h h.length 0 = pres all h := by simp [preP, pres]
theorem getD_preP (all : Bool) (h : List N6) (i m j : Nat) (hj : j < h.length) : (preP all h i m).getD j 0 = Odr.mk (if j < m then i + 1 else i) fun a => aheadB all (opAt h a) (opAt h j) := by
  unfold preP
  rw [List.getD_eq_getElem?_getD, List.getElem?_map, List.getElem?_range hj]; rfl
theorem preP_step (all : Bool) (h : List N6) (i m : Nat) (hm : m < h.length) : preP all h i (m + 1) = if aheadB all (opAt h i) (opAt h m) = true then (preP all h i m).set m ((preP all h i m).getD m 0 ||| 2 ^ i) else preP all h i m := by
  rw [getD_preP _ _ _ _ _ hm, if_neg (Nat.lt_irrefl m)]
  split
  · rename_i ha
    rw [mk_next (p := fun a => aheadB all (opAt h a) (opAt h m)) ha]
    apply List.ext_getElem (by simp)
    intro j h1 h2
    rw [List.getElem_set]
    by_cases e : m = j
    · subst e
      simp [preP]
    · have e1 : j < m + 1 ↔ j < m := by omega
      simp [preP, e, e1]
  · rename_i ha
    have ha' : aheadB all (opAt h i) (opAt h m) = false := by simpa using ha
    apply List.ext_getElem (by simp)
    intro j h1 h2
    by_cases e : m = j
    · subst e
      simp [preP, mk_skip (p := fun a => aheadB all (opAt h a) (opAt h m)) ha']
    · have e1 : j < m + 1 ↔ j < m := by omega
      simp [preP, e1]
theorem preP_lt (all : Bool) (h : List N6) (i m j : Nat) (hj : j < h.length) (hm : i < 10) : (preP all h i m).getD j 0 < 4096 := by
  rw [getD_preP _ _ _ _ _ hj]
  exact Nat.lt_of_lt_of_le (Odr.mk_lt _ _) (Nat.le_trans (Nat.pow_le_pow_right (by decide) (show _ ≤ 12 by split <;> omega)) (by decide))
theorem pres_lt (all : Bool) (h : List N6) (hl : h.length ≤ 10) (i : Nat) : (pres all h).getD i 0 < 4096 := by
  by_cases hi : i < h.length
  · unfold pres
    rw [List.getD_eq_getElem?_getD, List.getElem?_map, List.getElem?_range hi]
    exact Nat.lt_of_lt_of_le (Odr.mk_lt _ _) (Nat.le_trans (Nat.pow_le_pow_right (by decide) (show _ ≤ 12 by omega)) (by decide))
  · rw [List.getD_eq_getElem?_getD, List.getElem?_eq_none (by simp [pres]; omega)]; decide

theorem SrchAt.made (w : World) (G : Nat → List Nat → Prop) (hv pv : Value) :
    SrchAt ((w.alloc (.map #[] 0)).alloc (.cells #[hv, pv, .map (some w.heap.size), .slice none 0 0] 57)) w.heap.size (w.heap.size + 1) 0 G hv pv (.slice none 0 0) (fun _ => none) [] := by
  refine ⟨⟨#[hv, pv, .map (some w.heap.size), .slice none 0 0], ?_, rfl, fun i hi => ?_⟩, Own.nil _ _, (SM.made w).of_block (Below.heap_alloc _ _ _ (by simp)), fun d b h => (by cases h), fun d d' b h => (by cases h), Nat.lt_succ_self _⟩
  · have := (MapKept.heap_alloc (w.alloc (.map #[] 0)) (.cells #[hv, pv, .map (some w.heap.size), .slice none 0 0] 57)).1
    rwa [World.size_alloc] at this
  · match i, hi with
    | 0, _ => rfl
    | 1, _ => rfl
    | 2, _ => rfl
    | 3, _ => rfl

theorem Own.intsB {w : World} {base B g n c : Nat} {l : List Int} (h : Own w base (.slice (some ⟨g, 0, none⟩) n c) l) (hg : 0 < l.length → g < B) : Ints w B (.slice (some ⟨g, 0, none⟩) n c) l := by
  obtain ⟨h1, A', cap, e, h3, h4, h5⟩ := h.ints
  refine ⟨h1, A', cap, e, h3, h4, fun hn => ?_⟩
  obtain ⟨b, off, e2, hb, hc⟩ := h5 hn
  rw [e2] at e
  injection e with e _ _
  injection e with e
  injection e with e eo
  refine ⟨b, off, e2, by rw [← e]; exact hg hn, hc⟩

abbrev opv (o : N6) : Value := .agg #[nv (pr o), nv (ob o), nv (wr o), nv (vl o), nv (fr o), nv (tt o)]
theorem byTime_calls (a b : N6) (w : World) : Calls Tryd.prog 17 #[opv a, opv b] w fun e w' => e = .returned (.bool (aheadB true a b)) ∧ Below w.heap.size w w' := by
  obtain ⟨a0, a1, a2, a3, a4, a5⟩ := a
  obtain ⟨b0, b1, b2, b3, b4, b5⟩ := b
  have H := Lib.hid (show aheadB true (a0, a1, a2, a3, a4, a5) (b0, b1, b2, b3, b4, b5) = decide (a5 ≤ b4) by simp [aheadB])
  rw [H.out]
  simp only [opv, pr, ob, wr, vl, fr, tt]
  go_enter Tryd.func17, Tryd.ntmps17
  go_wp2_with fail
  go_ret
  exact ⟨rfl, by go_grown⟩
theorem byProc_calls (a b : N6) (w : World) : Calls Tryd.prog 18 #[opv a, opv b] w fun e w' => e = .returned (.bool (aheadB false a b)) ∧ Below w.heap.size w w' := by
  obtain ⟨a0, a1, a2, a3, a4, a5⟩ := a
  obtain ⟨b0, b1, b2, b3, b4, b5⟩ := b
  simp only [opv, pr, ob, wr, vl, fr, tt]
  by_cases hp : a0 = b0
  · have H := Lib.hid (show aheadB false (a0, a1, a2, a3, a4, a5) (b0, b1, b2, b3, b4, b5) = decide (a5 ≤ b4) by simp [aheadB, hp])
    rw [H.out]
    have hp' : ((a0 : Int) == (b0 : Int)) = true := by simp [hp]
    clear hp
    go_enter Tryd.func18, Tryd.ntmps18
    go_wp2_with fail
    go_ret
    exact ⟨rfl, by go_grown⟩
  · have H := Lib.hid (show aheadB false (a0, a1, a2, a3, a4, a5) (b0, b1, b2, b3, b4, b5) = false by simp [aheadB, hp])
    rw [H.out]
    have hp' : ((a0 : Int) == (b0 : Int)) = false := by simp; omega
    clear hp
    go_enter Tryd.func18, Tryd.ntmps18
    go_wp2_with fail
    go_ret
    exact ⟨rfl, by go_grown⟩

theorem row_bad_time (h' : List Z6) (v : Value) (w : World) (hr : Ops w w.heap.size v h') (hc : histCode h' ≠ 0) :
    Calls Tryd.prog 16 #[v, .func (.func 17) #[] #[]] w fun e w' => e = .returned (.tuple #[.bool false, .slice none 0 0, errv (histCode h')]) ∧ Below w.heap.size w w' := by
  have hchk := Lib.hid (hcheck_calls h' v w hr)
  have HE : errv (histCode h') = .iface 38 (nv (histCode h')) := by unfold errv; rw [if_neg hc]
  rw [HE] at hchk ⊢
  obtain ⟨A, cap, rfl⟩ := Rd.val hr
  generalize histCode h' = c at *
  clear hr HE hc
  go_enter Tryd.func16, Tryd.ntmps16
  go_wp2_with fail
  (with_reducible refine hchk.out.mono ?_)
  rintro e w1 ⟨rfl, hb1⟩
  clear hchk
  go_wp2_with fail
  go_ret3
  exact ⟨rfl, hb1⟩

set_option maxRecDepth 20000 in
set_option maxHeartbeats 4000000 in
theorem row_time (h : List N6) (hh : Hok h) (v : Value) (w : World) (hr : Ops w w.heap.size v (zops h)) (hc : histCode (zops h) = 0) :
    Calls Tryd.prog 16 #[v, .func (.func 17) #[] #[]] w fun e w' => ∃ v', e = .returned (.tuple #[.bool (rowOf true h).isSome, v', .nilIface]) ∧ Own w' w.heap.size v' (zs ((rowOf true h).getD [])) ∧ Below w.heap.size w w' := by
  have hchk := Lib.hid (hcheck_calls (zops h) v w hr)
  rw [hc] at hchk
  have hchk := Lib.hid (show Calls Tryd.prog 6 #[v] w fun e w' => e = .returned .nilIface ∧ Below w.heap.size w w' from hchk.out)
  obtain ⟨A, cap, rfl⟩ := Rd.val hr
  have HR := Lib.hid hr
  have HH := Lib.hid hh
  have HL := Lib.hid hh.len
  rw [length_zops] at *
  have hmm := @run_makeMap Tryd.prog
  clear hr hc hh
  go_enter Tryd.func16, Tryd.ntmps16
  go_wp2_with fail
  (with_reducible refine hchk.out.mono ?_)
  rintro e w1 ⟨rfl, hb1⟩
  clear hchk
  have hw1 := hb1.size
  have hl10 := HL.out
  go_wp2_with (at_make; refine make_ints rfl _ _ rfl w.heap.size h.length rfl rfl (by omega) hw1 ?_; intro w2 hown2 hb2)
  have hmade := SrchAt.made w2 (Gd h (pres true h)) (.slice A h.length cap) (.slice (some ⟨w1.heap.size, 0, none⟩) h.length h.length)
  have HB3 := Lib.hid (((hb1.trans (hb2.mono hw1)).alloc (o := .map #[] 0) (by have := hb2.size; omega)).alloc (o := .cells #[.slice A h.length cap, .slice (some ⟨w1.heap.size, 0, none⟩) h.length h.length, .map (some w2.heap.size), .slice none 0 0] 57) (by have := hb2.size; simp; omega))
  have hs2 := hb2.size
  have HG := Lib.hid (show 0 < h.length → w1.heap.size < w2.heap.size from fun hl => by
    obtain ⟨g', c', he, h1, h2, _⟩ := Own.shape hown2 (by rw [List.length_replicate]; exact hl)
    injection he with he _ _
    injection he with he
    injection he with he
    rw [he]; exact h2)
  have hown3 : Own ((w2.alloc (.map #[] 0)).alloc (.cells #[.slice A h.length cap, .slice (some ⟨w1.heap.size, 0, none⟩) h.length h.length, .map (some w2.heap.size), .slice none 0 0] 57)) w.heap.size (.slice (some ⟨w1.heap.size, 0, none⟩) h.length h.length) (zs (preP true h 0 0)) := by
    have e : zs (preP true h 0 0) = List.replicate h.length 0 := by rw [preP_zero]; simp [zs]
    rw [e]
    exact (hown2.alloc _).alloc _
  clear hown2 hb2 hb1
  generalize ((w2.alloc (.map #[] 0)).alloc (.cells #[.slice A h.length cap, .slice (some ⟨w1.heap.size, 0, none⟩) h.length h.length, .map (some w2.heap.size), .slice none 0 0] 57)) = w3 at *
  generalize w1.heap.size = g at *
  generalize w2.heap.size = bd at *
  go_loopw [26] (fun i wr => ∃ k : Nat, k ≤ h.length ∧ i = nv k ∧ Hid (Own wr w.heap.size (.slice (some ⟨g, 0, none⟩) h.length h.length) (zs (preP true h k 0))) ∧
      Hid (SrchAt wr bd (bd + 1) 0 (Gd h (pres true h)) (.slice A h.length cap) (.slice (some ⟨g, 0, none⟩) h.length h.length) (.slice none 0 0) (fun _ => none) []) ∧ Hid (Below w.heap.size w wr)) (fun i _ => h.length - (intOf i).toNat)
  case atStart => exact ⟨0, Nat.zero_le _, rfl, Lib.hid hown3, Lib.hid hmade, Lib.hid HB3.out⟩
  case round =>
    clear hown3 hmade HB3
    obtain ⟨k, hk, rfl, hown, hsr, hb⟩ := hrel
    by_cases hkl : k < h.length
    · obtain ⟨b, off, cap2, he, hbb, d0, d1, d2, d3, d4, d5⟩ := Ops.atN (Rd.below HR.out hb.out) hkl
      cases he
      have hsz := hb.out.size
      have HGL := Lib.hid (HG.out (by omega))
      have HST := Lib.hid fun m hm => preP_step true h k m hm
      have HBT := Lib.hid (show ∀ (b' : N6) (w' : World), Calls Tryd.prog 17 #[opv (opAt h k), opv b'] w' fun e w'' => e = .returned (.bool (aheadB true (opAt h k) b')) ∧ Below w'.heap.size w' w'' from fun b' w' => byTime_calls (opAt h k) b' w')
      generalize opAt h k = oi at *
      obtain ⟨i0, i1, i2, i3, i4, i5⟩ := oi
      simp only [pr, ob, His.wr, vl, fr, tt, opv] at d0 d1 d2 d3 d4 d5 HBT
      obtain ⟨wo, rfl⟩ : ∃ wo : World, wo = wr := ⟨_, rfl⟩
      have HSR := Lib.hid (hsr.out.alloc (.cells #[nv i0, nv i1, nv i2, nv i3, nv i4, nv i5] 36))
      have HOW := Lib.hid (hown.out.alloc (.cells #[nv i0, nv i1, nv i2, nv i3, nv i4, nv i5] 36))
      have HBW := Lib.hid (hb.out.alloc (o := .cells #[nv i0, nv i1, nv i2, nv i3, nv i4, nv i5] 36) hsz)
      have hBo := (hsr.out.foot (bd + 1) (.inl rfl)).2
      have hgo : g < wo.heap.size := by have := HGL.out; omega
      go_wp2_with fail
      clear d0 d1 d2 d3 d4 d5
      go_loopw [33] (fun i wr => ∃ m : Nat, m ≤ h.length ∧ i = nv m ∧ Hid (Own wr w.heap.size (.slice (some ⟨g, 0, none⟩) h.length h.length) (zs (preP true h k m))) ∧
          Hid (SrchAt wr bd (bd + 1) 0 (Gd h (pres true h)) (.slice (some ⟨b, off, none⟩) h.length cap) (.slice (some ⟨g, 0, none⟩) h.length h.length) (.slice none 0 0) (fun _ => none) []) ∧ Hid (Below w.heap.size w wr) ∧
          wo.heap.size < wr.heap.size ∧ wr.cell? ⟨wo.heap.size, 0, none⟩ = some (nv i0) ∧ wr.cell? ⟨wo.heap.size, 1, none⟩ = some (nv i1) ∧ wr.cell? ⟨wo.heap.size, 2, none⟩ = some (nv i2) ∧ wr.cell? ⟨wo.heap.size, 3, none⟩ = some (nv i3) ∧ wr.cell? ⟨wo.heap.size, 4, none⟩ = some (nv i4) ∧ wr.cell? ⟨wo.heap.size, 5, none⟩ = some (nv i5)) (fun i _ => h.length - (intOf i).toNat)
      case atStart => exact ⟨0, Nat.zero_le _, rfl, Lib.hid HOW.out, Lib.hid HSR.out, Lib.hid HBW.out, by simp, by simp, by simp, by simp, by simp, by simp, by simp⟩
      case round =>
        clear hown hsr HOW HSR HBW
        obtain ⟨m, hm, rfl, hown, hsr, hb', hlt, c0, c1, c2, c3, c4, c5⟩ := hrel
        have hsz' := hb'.out.size
        by_cases hml : m < h.length
        · obtain ⟨b2, off2, cap3, he, hbb2, d0, d1, d2, d3, d4, d5⟩ := Ops.atN (Rd.below HR.out hb'.out) hml
          cases he
          have HS1 := Lib.hid (HST.out m hml)
          have HC := Lib.hid (HBT.out (opAt h m))
          generalize opAt h m = oj at *
          obtain ⟨j0, j1, j2, j3, j4, j5⟩ := oj
          simp only [pr, ob, His.wr, vl, fr, tt] at d0 d1 d2 d3 d4 d5 HC
          have hx12 := preP_lt true h k m m hml (by omega)
          generalize aheadB true (i0, i1, i2, i3, i4, i5) (j0, j1, j2, j3, j4, j5) = ab at *
          have HSR := Lib.hid (hsr.out.alloc (.cells #[nv j0, nv j1, nv j2, nv j3, nv j4, nv j5] 36))
          have HOW := Lib.hid (hown.out.alloc (.cells #[nv j0, nv j1, nv j2, nv j3, nv j4, nv j5] 36))
          have HBW := Lib.hid (hb'.out.alloc (o := .cells #[nv j0, nv j1, nv j2, nv j3, nv j4, nv j5] 36) hsz')
          clear hown hsr hb'
          go_wp2_with fail
          (with_reducible refine (HC.out _).mono ?_)
          rintro e w6 ⟨rfl, hb6⟩
          have hz6 := hb6.size
          simp only [World.size_alloc] at hz6
          have k0 : w6.cell? ⟨wo.heap.size, 0, none⟩ = some (nv i0) := (hb6.cell (by simp; omega)).trans ((World.cell?_alloc_past _ _ _ hlt).trans c0)
          have k1 : w6.cell? ⟨wo.heap.size, 1, none⟩ = some (nv i1) := (hb6.cell (by simp; omega)).trans ((World.cell?_alloc_past _ _ _ hlt).trans c1)
          have k2 : w6.cell? ⟨wo.heap.size, 2, none⟩ = some (nv i2) := (hb6.cell (by simp; omega)).trans ((World.cell?_alloc_past _ _ _ hlt).trans c2)
          have k3 : w6.cell? ⟨wo.heap.size, 3, none⟩ = some (nv i3) := (hb6.cell (by simp; omega)).trans ((World.cell?_alloc_past _ _ _ hlt).trans c3)
          have k4 : w6.cell? ⟨wo.heap.size, 4, none⟩ = some (nv i4) := (hb6.cell (by simp; omega)).trans ((World.cell?_alloc_past _ _ _ hlt).trans c4)
          have k5 : w6.cell? ⟨wo.heap.size, 5, none⟩ = some (nv i5) := (hb6.cell (by simp; omega)).trans ((World.cell?_alloc_past _ _ _ hlt).trans c5)
          have HO6 := Lib.hid (HOW.out.kept hb6)
          have HS6 := Lib.hid (HSR.out.only (Only.of_below hb6 (Nat.le_refl _) (fun _ => False)) (fun _ _ h => h))
          have HB6 := Lib.hid (HBW.out.trans (hb6.mono HBW.out.size))
          clear hb6 HC HOW HSR HBW c0 c1 c2 c3 c4 c5 d0 d1 d2 d3 d4 d5
          cases ab with
          | false =>
            have HS1 := Lib.hid (show preP true h k (m + 1) = preP true h k m from HS1.out)
            rw [← HS1.out] at HO6
            go_wp2_with fail
            go_roundw
            case rel => exact ⟨m + 1, by omega, by go_num, Lib.hid HO6.out, Lib.hid HS6.out, Lib.hid HB6.out, by omega, k0, k1, k2, k3, k4, k5⟩
            case measure => simp [intOf]; omega
          | true =>
            have HS1 := Lib.hid (show preP true h k (m + 1) = (preP true h k m).set m ((preP true h k m).getD m 0 ||| 2 ^ k) from HS1.out)
            obtain ⟨g1, g2, g3, g4, g5⟩ := HO6.out.lit
            have g3 := g3 m (by rw [length_zs, length_preP]; exact hml)
            have ge : (zs (preP true h k m))[m]'(by rw [length_zs, length_preP]; exact hml) = (((preP true h k m).getD m 0 : Nat) : Int) := by
              simp [zs, List.getD_eq_getElem?_getD, List.getElem?_eq_getElem (show m < (preP true h k m).length by rw [length_preP]; exact hml)]
            rw [ge] at g3
            have g4 := g4 m
            have g5 := g5 m (((preP true h k m).getD m 0 ||| 2 ^ k : Nat) : Int)
            have gz : (zs (preP true h k m)).set m (((preP true h k m).getD m 0 ||| 2 ^ k : Nat) : Int) = zs (preP true h k (m + 1)) := by rw [HS1.out]; simp [zs]
            rw [gz] at g5
            have hor := bits_or_shl ((preP true h k m).getD m 0) k (by omega) (by omega)
            generalize (preP true h k m).getD m 0 = x at *
            generalize x ||| 2 ^ k = y at *
            have s1 := HS6.out.c1
            have hB6 := (HS6.out.foot (bd + 1) (.inl rfl)).2
            have HG5 := Lib.hid g5
            have HS7 := Lib.hid (HS6.out.setCell ⟨g, m, none⟩ (nv y) (fun hF => by have := (HS6.out.foot g hF).1; have := HGL.out; omega))
            have HB7 := Lib.hid (HB6.out.setCell (p := ⟨g, m, none⟩) g1 (nv y))
            have hgw : g ≠ wo.heap.size := by omega
            have k0' : (w6.setCell ⟨g, m, none⟩ (nv y)).cell? ⟨wo.heap.size, 0, none⟩ = some (nv i0) := (World.cell?_setCell_other _ _ _ _ (fun e => hgw (congrArg Addr.block e))).trans k0
            have k1' : (w6.setCell ⟨g, m, none⟩ (nv y)).cell? ⟨wo.heap.size, 1, none⟩ = some (nv i1) := (World.cell?_setCell_other _ _ _ _ (fun e => hgw (congrArg Addr.block e))).trans k1
            have k2' : (w6.setCell ⟨g, m, none⟩ (nv y)).cell? ⟨wo.heap.size, 2, none⟩ = some (nv i2) := (World.cell?_setCell_other _ _ _ _ (fun e => hgw (congrArg Addr.block e))).trans k2
            have k3' : (w6.setCell ⟨g, m, none⟩ (nv y)).cell? ⟨wo.heap.size, 3, none⟩ = some (nv i3) := (World.cell?_setCell_other _ _ _ _ (fun e => hgw (congrArg Addr.block e))).trans k3
            have k4' : (w6.setCell ⟨g, m, none⟩ (nv y)).cell? ⟨wo.heap.size, 4, none⟩ = some (nv i4) := (World.cell?_setCell_other _ _ _ _ (fun e => hgw (congrArg Addr.block e))).trans k4
            have k5' : (w6.setCell ⟨g, m, none⟩ (nv y)).cell? ⟨wo.heap.size, 5, none⟩ = some (nv i5) := (World.cell?_setCell_other _ _ _ _ (fun e => hgw (congrArg Addr.block e))).trans k5
            have K := Lib.hid (And.intro k0' (And.intro k1' (And.intro k2' (And.intro k3' (And.intro k4' k5')))))
            clear k0 k1 k2 k3 k4 k5 k0' k1' k2' k3' k4' k5' g5 HS6 HB6 HO6
            go_wp2_with fail
            go_region
            go_wp2_with fail
            go_roundw
            case rel => exact ⟨m + 1, by omega, by go_num, Lib.hid HG5.out.drew, Lib.hid (HS7.out.drewN 1), Lib.hid HB7.out.drew, by simp; omega, K.out.1, K.out.2.1, K.out.2.2.1, K.out.2.2.2.1, K.out.2.2.2.2.1, K.out.2.2.2.2.2⟩
            case measure => simp [intOf]; omega
        · obtain rfl : m = h.length := by omega
          have HN := Lib.hid (show preP true h k h.length = preP true h (k + 1) 0 from preP_next true h k)
          rw [HN.out] at hown
          clear hml
          go_wp2_with fail
          go_roundw
          case rel => exact ⟨k + 1, by omega, by go_num, Lib.hid hown.out, Lib.hid hsr.out, Lib.hid hb'.out⟩
          case measure => simp [intOf]; omega
    · obtain rfl : k = h.length := by omega
      have hsz := hb.out.size
      rw [preP_all] at hown
      have hsB := hsr.out.foot
      have hbdB := (hsB bd (.inr (.inl rfl))).2
      have hst : Stand h (pres true h) (.slice A h.length cap) (.slice (some ⟨g, 0, none⟩) h.length h.length) bd wr :=
        ⟨(Rd.below HR.out hb.out).more (by omega), hown.out.intsB (fun hl => HG.out (by rw [length_zs] at hl; simpa [pres] using hl)), by simp [pres], pres_lt true h HL.out⟩
      have hcall := Lib.hid (show Calls Tryd.prog 23 #[.pointer (some ⟨bd + 1, 0, none⟩), .int .i64 0, .agg #[.int .i64 0, .int .i64 0, .int .i64 0]] wr fun e w' =>
          e = .returned (.bool (rowOf true h).isSome) ∧ STo wr h (pres true h) (.slice A h.length cap) (.slice (some ⟨g, 0, none⟩) h.length h.length) bd (bd + 1) (.slice none 0 0) (fun _ => none) ([] ++ (rowOf true h).getD []) (0 + 11 ^ (h.length + 1)) w' from
        from_ok h HH.out (pres true h) _ _ bd (bd + 1) h.length [] 0 0 0 0 0 (.slice none 0 0) (fun _ => none) wr (by simp) (Nat.two_pow_pos _) (by
          rw [show (0 : Nat).testBit = fun _ => false from funext fun i => Nat.zero_testBit i, Odr.cnt_false]; rfl) (by omega) (by omega) (by omega) (by
          have : 11 ^ (h.length + 1) ≤ 11 ^ 11 := Nat.pow_le_pow_right (by decide) (by have := HL.out; omega)
          have e : (11 : Nat) ^ 11 ≤ 2 ^ 50 := by decide
          omega) hsr.out hst)
      have HRL := Lib.hid (show ∀ r, rowOf true h = some r → r.length = h.length from fun r hr => (from_some _ _ _ _ hr).1)
      clear hst hown hkl
      generalize hR : rowOf true h = R at *
      have HEQ := Lib.hid hR
      clear hR
      go_wp2_with fail
      (with_reducible refine hcall.out.mono ?_)
      rintro e w7 ⟨rfl, ov7, I7, n7, q1, q2, q3, q4⟩
      clear hcall
      have hb7 := Lib.hid (hb.out.trans (q3.below hsz (fun y hy => by
        have := (hsB y hy).1; omega)))
      cases R with
      | none =>
        clear q1 q2 q3 q4 hsr hb
        go_wp2_with fail
        go_ret3
        rw [HEQ.out]
        exact ⟨_, rfl, Own.nil _ _, hb7.out⟩
      | some r =>
        have hrl := HRL.out r rfl
        have c73 := q1.c3
        have hq1 := q1.out
        simp only [List.nil_append, Option.getD_some] at hq1
        have hcl := Lib.hid (clone_calls (zs r) ov7 w7 hq1.ints (by rw [length_zs, hrl]; omega))
        have HB7 := Lib.hid (q1.foot (bd + 1) (.inl rfl)).2
        have hB7 := HB7.out
        clear q1 q2 q3 q4 hsr hb hq1 hrl
        go_wp2_with fail
        (with_reducible refine hcl.out.mono ?_)
        rintro e w8 ⟨v8, rfl, hown8, hb8⟩
        clear hcl c73
        go_wp2_with fail
        go_ret3
        rw [HEQ.out]
        exact ⟨_, rfl, hown8.lower hb7.out.size, hb7.out.trans (hb8.mono hb7.out.size)⟩

theorem row_bad_proc (h' : List Z6) (v : Value) (w : World) (hr : Ops w w.heap.size v h') (hc : histCode h' ≠ 0) :
    Calls Tryd.prog 16 #[v, .func (.func 18) #[] #[]] w fun e w' => e = .returned (.tuple #[.bool false, .slice none 0 0, errv (histCode h')]) ∧ Below w.heap.size w w' := by
  have hchk := Lib.hid (hcheck_calls h' v w hr)
  have HE : errv (histCode h') = .iface 38 (nv (histCode h')) := by unfold errv; rw [if_neg hc]
  rw [HE] at hchk ⊢
  obtain ⟨A, cap, rfl⟩ := Rd.val hr
  generalize histCode h' = c at *
  clear hr HE hc
  go_enter Tryd.func16, Tryd.ntmps16
  go_wp2_with fail
  (with_reducible refine hchk.out.mono ?_)
  rintro e w1 ⟨rfl, hb1⟩
  clear hchk
  go_wp2_with fail
  go_ret3
  exact ⟨rfl, hb1⟩

set_option maxRecDepth 20000 in
set_option maxHeartbeats 4000000 in
theorem row_proc (h : List N6) (hh : Hok h) (v : Value) (w : World) (hr : Ops w w.heap.size v (zops h)) (hc : histCode (zops h) = 0) :
    Calls Tryd.prog 16 #[v, .func (.func 18) #[] #[]] w fun e w' => ∃ v', e = .returned (.tuple #[.bool (rowOf false h).isSome, v', .nilIface]) ∧ Own w' w.heap.size v' (zs ((rowOf false h).getD [])) ∧ Below w.heap.size w w' := by
  have hchk := Lib.hid (hcheck_calls (zops h) v w hr)
  rw [hc] at hchk
  have hchk := Lib.hid (show Calls Tryd.prog 6 #[v] w fun e w' => e = .returned .nilIface ∧ Below w.heap.size w w' from hchk.out)
  obtain ⟨A, cap, rfl⟩ := Rd.val hr
  have HR := Lib.hid hr
  have HH := Lib.hid hh
  have HL := Lib.hid hh.len
  rw [length_zops] at *
  have hmm := @run_makeMap Tryd.prog
  clear hr hc hh
  go_enter Tryd.func16, Tryd.ntmps16
  go_wp2_with fail
  (with_reducible refine hchk.out.mono ?_)
  rintro e w1 ⟨rfl, hb1⟩
  clear hchk
  have hw1 := hb1.size
  have hl10 := HL.out
  go_wp2_with (at_make; refine make_ints rfl _ _ rfl w.heap.size h.length rfl rfl (by omega) hw1 ?_; intro w2 hown2 hb2)
  have hmade := SrchAt.made w2 (Gd h (pres false h)) (.slice A h.length cap) (.slice (some ⟨w1.heap.size, 0, none⟩) h.length h.length)
  have HB3 := Lib.hid (((hb1.trans (hb2.mono hw1)).alloc (o := .map #[] 0) (by have := hb2.size; omega)).alloc (o := .cells #[.slice A h.length cap, .slice (some ⟨w1.heap.size, 0, none⟩) h.length h.length, .map (some w2.heap.size), .slice none 0 0] 57) (by have := hb2.size; simp; omega))
  have hs2 := hb2.size
  have HG := Lib.hid (show 0 < h.length → w1.heap.size < w2.heap.size from fun hl => by
    obtain ⟨g', c', he, h1, h2, _⟩ := Own.shape hown2 (by rw [List.length_replicate]; exact hl)
    injection he with he _ _
    injection he with he
    injection he with he
    rw [he]; exact h2)
  have hown3 : Own ((w2.alloc (.map #[] 0)).alloc (.cells #[.slice A h.length cap, .slice (some ⟨w1.heap.size, 0, none⟩) h.length h.length, .map (some w2.heap.size), .slice none 0 0] 57)) w.heap.size (.slice (some ⟨w1.heap.size, 0, none⟩) h.length h.length) (zs (preP false h 0 0)) := by
    have e : zs (preP false h 0 0) = List.replicate h.length 0 := by rw [preP_zero]; simp [zs]
    rw [e]
    exact (hown2.alloc _).alloc _
  clear hown2 hb2 hb1
  generalize ((w2.alloc (.map #[] 0)).alloc (.cells #[.slice A h.length cap, .slice (some ⟨w1.heap.size, 0, none⟩) h.length h.length, .map (some w2.heap.size), .slice none 0 0] 57)) = w3 at *
  generalize w1.heap.size = g at *
  generalize w2.heap.size = bd at *
  go_loopw [26] (fun i wr => ∃ k : Nat, k ≤ h.length ∧ i = nv k ∧ Hid (Own wr w.heap.size (.slice (some ⟨g, 0, none⟩) h.length h.length) (zs (preP false h k 0))) ∧
      Hid (SrchAt wr bd (bd + 1) 0 (Gd h (pres false h)) (.slice A h.length cap) (.slice (some ⟨g, 0, none⟩) h.length h.length) (.slice none 0 0) (fun _ => none) []) ∧ Hid (Below w.heap.size w wr)) (fun i _ => h.length - (intOf i).toNat)
  case atStart => exact ⟨0, Nat.zero_le _, rfl, Lib.hid hown3, Lib.hid hmade, Lib.hid HB3.out⟩
  case round =>
    clear hown3 hmade HB3
    obtain ⟨k, hk, rfl, hown, hsr, hb⟩ := hrel
    by_cases hkl : k < h.length
    · obtain ⟨b, off, cap2, he, hbb, d0, d1, d2, d3, d4, d5⟩ := Ops.atN (Rd.below HR.out hb.out) hkl
      cases he
      have hsz := hb.out.size
      have HGL := Lib.hid (HG.out (by omega))
      have HST := Lib.hid fun m hm => preP_step false h k m hm
      have HBT := Lib.hid (show ∀ (b' : N6) (w' : World), Calls Tryd.prog 18 #[opv (opAt h k), opv b'] w' fun e w'' => e = .returned (.bool (aheadB false (opAt h k) b')) ∧ Below w'.heap.size w' w'' from fun b' w' => byProc_calls (opAt h k) b' w')
      generalize opAt h k = oi at *
      obtain ⟨i0, i1, i2, i3, i4, i5⟩ := oi
      simp only [pr, ob, His.wr, vl, fr, tt, opv] at d0 d1 d2 d3 d4 d5 HBT
      obtain ⟨wo, rfl⟩ : ∃ wo : World, wo = wr := ⟨_, rfl⟩
      have HSR := Lib.hid (hsr.out.alloc (.cells #[nv i0, nv i1, nv i2, nv i3, nv i4, nv i5] 36))
      have HOW := Lib.hid (hown.out.alloc (.cells #[nv i0, nv i1, nv i2, nv i3, nv i4, nv i5] 36))
      have HBW := Lib.hid (hb.out.alloc (o := .cells #[nv i0, nv i1, nv i2, nv i3, nv i4, nv i5] 36) hsz)
      have hBo := (hsr.out.foot (bd + 1) (.inl rfl)).2
      have hgo : g < wo.heap.size := by have := HGL.out; omega
      go_wp2_with fail
      clear d0 d1 d2 d3 d4 d5
      go_loopw [33] (fun i wr => ∃ m : Nat, m ≤ h.length ∧ i = nv m ∧ Hid (Own wr w.heap.size (.slice (some ⟨g, 0, none⟩) h.length h.length) (zs (preP false h k m))) ∧
          Hid (SrchAt wr bd (bd + 1) 0 (Gd h (pres false h)) (.slice (some ⟨b, off, none⟩) h.length cap) (.slice (some ⟨g, 0, none⟩) h.length h.length) (.slice none 0 0) (fun _ => none) []) ∧ Hid (Below w.heap.size w wr) ∧
          wo.heap.size < wr.heap.size ∧ wr.cell? ⟨wo.heap.size, 0, none⟩ = some (nv i0) ∧ wr.cell? ⟨wo.heap.size, 1, none⟩ = some (nv i1) ∧ wr.cell? ⟨wo.heap.size, 2, none⟩ = some (nv i2) ∧ wr.cell? ⟨wo.heap.size, 3, none⟩ = some (nv i3) ∧ wr.cell? ⟨wo.heap.size, 4, none⟩ = some (nv i4) ∧ wr.cell? ⟨wo.heap.size, 5, none⟩ = some (nv i5)) (fun i _ => h.length - (intOf i).toNat)
      case atStart => exact ⟨0, Nat.zero_le _, rfl, Lib.hid HOW.out, Lib.hid HSR.out, Lib.hid HBW.out, by simp, by simp, by simp, by simp, by simp, by simp, by simp⟩
      case round =>
        clear hown hsr HOW HSR HBW
        obtain ⟨m, hm, rfl, hown, hsr, hb', hlt, c0, c1, c2, c3, c4, c5⟩ := hrel
        have hsz' := hb'.out.size
        by_cases hml : m < h.length
        · obtain ⟨b2, off2, cap3, he, hbb2, d0, d1, d2, d3, d4, d5⟩ := Ops.atN (Rd.below HR.out hb'.out) hml
          cases he
          have HS1 := Lib.hid (HST.out m hml)
          have HC := Lib.hid (HBT.out (opAt h m))
          generalize opAt h m = oj at *
          obtain ⟨j0, j1, j2, j3, j4, j5⟩ := oj
          simp only [pr, ob, His.wr, vl, fr, tt] at d0 d1 d2 d3 d4 d5 HC
          have hx12 := preP_lt false h k m m hml (by omega)
          generalize aheadB false (i0, i1, i2, i3, i4, i5) (j0, j1, j2, j3, j4, j5) = ab at *
          have HSR := Lib.hid (hsr.out.alloc (.cells #[nv j0, nv j1, nv j2, nv j3, nv j4, nv j5] 36))
          have HOW := Lib.hid (hown.out.alloc (.cells #[nv j0, nv j1, nv j2, nv j3, nv j4, nv j5] 36))
          have HBW := Lib.hid (hb'.out.alloc (o := .cells #[nv j0, nv j1, nv j2, nv j3, nv j4, nv j5] 36) hsz')
          clear hown hsr hb'
          go_wp2_with fail
          (with_reducible refine (HC.out _).mono ?_)
          rintro e w6 ⟨rfl, hb6⟩
          have hz6 := hb6.size
          simp only [World.size_alloc] at hz6
          have k0 : w6.cell? ⟨wo.heap.size, 0, none⟩ = some (nv i0) := (hb6.cell (by simp; omega)).trans ((World.cell?_alloc_past _ _ _ hlt).trans c0)
          have k1 : w6.cell? ⟨wo.heap.size, 1, none⟩ = some (nv i1) := (hb6.cell (by simp; omega)).trans ((World.cell?_alloc_past _ _ _ hlt).trans c1)
          have k2 : w6.cell? ⟨wo.heap.size, 2, none⟩ = some (nv i2) := (hb6.cell (by simp; omega)).trans ((World.cell?_alloc_past _ _ _ hlt).trans c2)
          have k3 : w6.cell? ⟨wo.heap.size, 3, none⟩ = some (nv i3) := (hb6.cell (by simp; omega)).trans ((World.cell?_alloc_past _ _ _ hlt).trans c3)
          have k4 : w6.cell? ⟨wo.heap.size, 4, none⟩ = some (nv i4) := (hb6.cell (by simp; omega)).trans ((World.cell?_alloc_past _ _ _ hlt).trans c4)
          have k5 : w6.cell? ⟨wo.heap.size, 5, none⟩ = some (nv i5) := (hb6.cell (by simp; omega)).trans ((World.cell?_alloc_past _ _ _ hlt).trans c5)
          have HO6 := Lib.hid (HOW.out.kept hb6)
          have HS6 := Lib.hid (HSR.out.only (Only.of_below hb6 (Nat.le_refl _) (fun _ => False)) (fun _ _ h => h))
          have HB6 := Lib.hid (HBW.out.trans (hb6.mono HBW.out.size))
          clear hb6 HC HOW HSR HBW c0 c1 c2 c3 c4 c5 d0 d1 d2 d3 d4 d5
          cases ab with
          | false =>
            have HS1 := Lib.hid (show preP false h k (m + 1) = preP false h k m from HS1.out)
            rw [← HS1.out] at HO6
            go_wp2_with fail
            go_roundw
            case rel => exact ⟨m + 1, by omega, by go_num, Lib.hid HO6.out, Lib.hid HS6.out, Lib.hid HB6.out, by omega, k0, k1, k2, k3, k4, k5⟩
            case measure => simp [intOf]; omega
          | true =>
            have HS1 := Lib.hid (show preP false h k (m + 1) = (preP false h k m).set m ((preP false h k m).getD m 0 ||| 2 ^ k) from HS1.out)
            obtain ⟨g1, g2, g3, g4, g5⟩ := HO6.out.lit
            have g3 := g3 m (by rw [length_zs, length_preP]; exact hml)
            have ge : (zs (preP false h k m))[m]'(by rw [length_zs, length_preP]; exact hml) = (((preP false h k m).getD m 0 : Nat) : Int) := by
              simp [zs, List.getD_eq_getElem?_getD, List.getElem?_eq_getElem (show m < (preP false h k m).length by rw [length_preP]; exact hml)]
            rw [ge] at g3
            have g4 := g4 m
            have g5 := g5 m (((preP false h k m).getD m 0 ||| 2 ^ k : Nat) : Int)
            have gz : (zs (preP false h k m)).set m (((preP false h k m).getD m 0 ||| 2 ^ k : Nat) : Int) = zs (preP false h k (m + 1)) := by rw [HS1.out]; simp [zs]
            rw [gz] at g5
            have hor := bits_or_shl ((preP false h k m).getD m 0) k (by omega) (by omega)
            generalize (preP false h k m).getD m 0 = x at *
            generalize x ||| 2 ^ k = y at *
            have s1 := HS6.out.c1
            have hB6 := (HS6.out.foot (bd + 1) (.inl rfl)).2
            have HG5 := Lib.hid g5
            have HS7 := Lib.hid (HS6.out.setCell ⟨g, m, none⟩ (nv y) (fun hF => by have := (HS6.out.foot g hF).1; have := HGL.out; omega))
            have HB7 := Lib.hid (HB6.out.setCell (p := ⟨g, m, none⟩) g1 (nv y))
            have hgw : g ≠ wo.heap.size := by omega
            have k0' : (w6.setCell ⟨g, m, none⟩ (nv y)).cell? ⟨wo.heap.size, 0, none⟩ = some (nv i0) := (World.cell?_setCell_other _ _ _ _ (fun e => hgw (congrArg Addr.block e))).trans k0
            have k1' : (w6.setCell ⟨g, m, none⟩ (nv y)).cell? ⟨wo.heap.size, 1, none⟩ = some (nv i1) := (World.cell?_setCell_other _ _ _ _ (fun e => hgw (congrArg Addr.block e))).trans k1
            have k2' : (w6.setCell ⟨g, m, none⟩ (nv y)).cell? ⟨wo.heap.size, 2, none⟩ = some (nv i2) := (World.cell?_setCell_other _ _ _ _ (fun e => hgw (congrArg Addr.block e))).trans k2
            have k3' : (w6.setCell ⟨g, m, none⟩ (nv y)).cell? ⟨wo.heap.size, 3, none⟩ = some (nv i3) := (World.cell?_setCell_other _ _ _ _ (fun e => hgw (congrArg Addr.block e))).trans k3
            have k4' : (w6.setCell ⟨g, m, none⟩ (nv y)).cell? ⟨wo.heap.size, 4, none⟩ = some (nv i4) := (World.cell?_setCell_other _ _ _ _ (fun e => hgw (congrArg Addr.block e))).trans k4
            have k5' : (w6.setCell ⟨g, m, none⟩ (nv y)).cell? ⟨wo.heap.size, 5, none⟩ = some (nv i5) := (World.cell?_setCell_other _ _ _ _ (fun e => hgw (congrArg Addr.block e))).trans k5
            have K := Lib.hid (And.intro k0' (And.intro k1' (And.intro k2' (And.intro k3' (And.intro k4' k5')))))
            clear k0 k1 k2 k3 k4 k5 k0' k1' k2' k3' k4' k5' g5 HS6 HB6 HO6
            go_wp2_with fail
            go_region
            go_wp2_with fail
            go_roundw
            case rel => exact ⟨m + 1, by omega, by go_num, Lib.hid HG5.out.drew, Lib.hid (HS7.out.drewN 1), Lib.hid HB7.out.drew, by simp; omega, K.out.1, K.out.2.1, K.out.2.2.1, K.out.2.2.2.1, K.out.2.2.2.2.1, K.out.2.2.2.2.2⟩
            case measure => simp [intOf]; omega
        · obtain rfl : m = h.length := by omega
          have HN := Lib.hid (show preP false h k h.length = preP false h (k + 1) 0 from preP_next false h k)
          rw [HN.out] at hown
          clear hml
          go_wp2_with fail
          go_roundw
          case rel => exact ⟨k + 1, by omega, by go_num, Lib.hid hown.out, Lib.hid hsr.out, Lib.hid hb'.out⟩
          case measure => simp [intOf]; omega
    · obtain rfl : k = h.length := by omega
      have hsz := hb.out.size
      rw [preP_all] at hown
      have hsB := hsr.out.foot
      have hbdB := (hsB bd (.inr (.inl rfl))).2
      have hst : Stand h (pres false h) (.slice A h.length cap) (.slice (some ⟨g, 0, none⟩) h.length h.length) bd wr :=
        ⟨(Rd.below HR.out hb.out).more (by omega), hown.out.intsB (fun hl => HG.out (by rw [length_zs] at hl; simpa [pres] using hl)), by simp [pres], pres_lt false h HL.out⟩
      have hcall := Lib.hid (show Calls Tryd.prog 23 #[.pointer (some ⟨bd + 1, 0, none⟩), .int .i64 0, .agg #[.int .i64 0, .int .i64 0, .int .i64 0]] wr fun e w' =>
          e = .returned (.bool (rowOf false h).isSome) ∧ STo wr h (pres false h) (.slice A h.length cap) (.slice (some ⟨g, 0, none⟩) h.length h.length) bd (bd + 1) (.slice none 0 0) (fun _ => none) ([] ++ (rowOf false h).getD []) (0 + 11 ^ (h.length + 1)) w' from
        from_ok h HH.out (pres false h) _ _ bd (bd + 1) h.length [] 0 0 0 0 0 (.slice none 0 0) (fun _ => none) wr (by simp) (Nat.two_pow_pos _) (by
          rw [show (0 : Nat).testBit = fun _ => false from funext fun i => Nat.zero_testBit i, Odr.cnt_false]; rfl) (by omega) (by omega) (by omega) (by
          have : 11 ^ (h.length + 1) ≤ 11 ^ 11 := Nat.pow_le_pow_right (by decide) (by have := HL.out; omega)
          have e : (11 : Nat) ^ 11 ≤ 2 ^ 50 := by decide
          omega) hsr.out hst)
      have HRL := Lib.hid (show ∀ r, rowOf false h = some r → r.length = h.length from fun r hr => (from_some _ _ _ _ hr).1)
      clear hst hown hkl
      generalize hR : rowOf false h = R at *
      have HEQ := Lib.hid hR
      clear hR
      go_wp2_with fail
      (with_reducible refine hcall.out.mono ?_)
      rintro e w7 ⟨rfl, ov7, I7, n7, q1, q2, q3, q4⟩
      clear hcall
      have hb7 := Lib.hid (hb.out.trans (q3.below hsz (fun y hy => by
        have := (hsB y hy).1; omega)))
      cases R with
      | none =>
        clear q1 q2 q3 q4 hsr hb
        go_wp2_with fail
        go_ret3
        rw [HEQ.out]
        exact ⟨_, rfl, Own.nil _ _, hb7.out⟩
      | some r =>
        have hrl := HRL.out r rfl
        have c73 := q1.c3
        have hq1 := q1.out
        simp only [List.nil_append, Option.getD_some] at hq1
        have hcl := Lib.hid (clone_calls (zs r) ov7 w7 hq1.ints (by rw [length_zs, hrl]; omega))
        have HB7 := Lib.hid (q1.foot (bd + 1) (.inl rfl)).2
        have hB7 := HB7.out
        clear q1 q2 q3 q4 hsr hb hq1 hrl
        go_wp2_with fail
        (with_reducible refine hcl.out.mono ?_)
        rintro e w8 ⟨v8, rfl, hown8, hb8⟩
        clear hcl c73
        go_wp2_with fail
        go_ret3
        rw [HEQ.out]
        exact ⟨_, rfl, hown8.lower hb7.out.size, hb7.out.trans (hb8.mono hb7.out.size)⟩

theorem atomic_bad (h' : List Z6) (v : Value) (w : World) (hr : Ops w w.heap.size v h') (hc : histCode h' ≠ 0) :
    Calls Tryd.prog 8 #[v] w fun e w' => e = .returned (.tuple #[.bool false, .slice none 0 0, errv (histCode h')]) ∧ Below w.heap.size w w' := by
  have hrow := Lib.hid (row_bad_time h' v w hr hc)
  generalize errv (histCode h') = ev at *
  go_enter Tryd.func8, Tryd.ntmps8
  go_wp2_with fail
  (with_reducible refine hrow.out.mono ?_)
  rintro e w1 ⟨rfl, hb1⟩
  clear hrow
  go_wp2_with fail
  go_ret3
  exact ⟨rfl, hb1⟩
theorem atomic_ok (h : List N6) (hh : Hok h) (v : Value) (w : World) (hr : Ops w w.heap.size v (zops h)) (hc : histCode (zops h) = 0) :
    Calls Tryd.prog 8 #[v] w fun e w' => ∃ v', e = .returned (.tuple #[.bool (rowOf true h).isSome, v', .nilIface]) ∧ Own w' w.heap.size v' (zs ((rowOf true h).getD [])) ∧ Below w.heap.size w w' := by
  have hrow := Lib.hid (row_time h hh v w hr hc)
  generalize rowOf true h = R at *
  go_enter Tryd.func8, Tryd.ntmps8
  go_wp2_with fail
  (with_reducible refine hrow.out.mono ?_)
  rintro e w1 ⟨v1, rfl, hown, hb1⟩
  clear hrow
  go_wp2_with fail
  go_ret3
  exact ⟨_, rfl, hown, hb1⟩

theorem weak_bad (h' : List Z6) (v : Value) (w : World) (hr : Ops w w.heap.size v h') (hc : histCode h' ≠ 0) :
    Calls Tryd.prog 10 #[v] w fun e w' => e = .returned (.tuple #[.bool false, .slice none 0 0, errv (histCode h')]) ∧ Below w.heap.size w w' := by
  have hrow := Lib.hid (row_bad_proc h' v w hr hc)
  generalize errv (histCode h') = ev at *
  go_enter Tryd.func10, Tryd.ntmps10
  go_wp2_with fail
  (with_reducible refine hrow.out.mono ?_)
  rintro e w1 ⟨rfl, hb1⟩
  clear hrow
  go_wp2_with fail
  go_ret3
  exact ⟨rfl, hb1⟩
theorem weak_ok (h : List N6) (hh : Hok h) (v : Value) (w : World) (hr : Ops w w.heap.size v (zops h)) (hc : histCode (zops h) = 0) :
    Calls Tryd.prog 10 #[v] w fun e w' => ∃ v', e = .returned (.tuple #[.bool (rowOf false h).isSome, v', .nilIface]) ∧ Own w' w.heap.size v' (zs ((rowOf false h).getD [])) ∧ Below w.heap.size w w' := by
  have hrow := Lib.hid (row_proc h hh v w hr hc)
  generalize rowOf false h = R at *
  go_enter Tryd.func10, Tryd.ntmps10
  go_wp2_with fail
  (with_reducible refine hrow.out.mono ?_)
  rintro e w1 ⟨v1, rfl, hown, hb1⟩
  clear hrow
  go_wp2_with fail
  go_ret3
  exact ⟨_, rfl, hown, hb1⟩
end Go.Proofs.YtjmjifcaobkobaaDoor
