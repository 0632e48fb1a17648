/- Contract of the reference's Least. Conditions: the contract's own premises. -/
import Derived.Test.YtoedgncbgkdmoaaDoorRSteps
namespace Go.Proofs.YtoedgncbgkdmoaaDoor
open Go.RowKit

theorem Tryd.infoBool : (Tryd.prog.info? 4).map (fun i => (i.zero, i.size, i.bytes)) = some (some (.bool false), 1, 1) := by kernel_rfl
/-- a slice of bools that the call itself made -/
def OwnB (w : World) (base : Nat) (v : Value) (l : List Bool) : Prop := w.ownsRow base 4 1 v l.length (l.map Value.bool)
theorem OwnB.lit {w : World} {base g n cap : Nat} {l : List Bool} (h : OwnB w base (.slice (some ⟨g, 0, none⟩) n cap) l) :
    base ≤ g ∧ g < w.heap.size ∧ (∀ i, i < l.length → w.cell? ⟨g, i, none⟩ = some (.bool (l.getD i false))) ∧ (∀ i, w.frozen? ⟨g, i, none⟩ = false) ∧
      (∀ i u, OwnB (w.setCell ⟨g, i, none⟩ (.bool u)) base (.slice (some ⟨g, 0, none⟩) n cap) (l.set i u)) := by
  have hn : n = l.length := by
    rcases h.2 with ⟨h2, _⟩ | ⟨g', cap', cur, h2, _⟩
    · cases h2
    · injection h2
  subst hn
  have hlt := h.lt g rfl
  refine ⟨hlt.1, hlt.2, fun i hi => ?_, fun i => h.frozenAt i, fun i u => ?_⟩
  · rw [h.cellAt i (by omega), List.getElem?_map, List.getD_eq_getElem?_getD, List.getElem?_eq_getElem hi]; rfl
  · have := (h.stored i (.bool u)).1
    unfold OwnB
    rw [List.length_set, List.map_set]
    exact this
theorem OwnB.under {w w' : World} {base B g n cap : Nat} {l : List Bool} (h : OwnB w base (.slice (some ⟨g, 0, none⟩) n cap) l) (hB : g < B) (hb : Below B w w') : OwnB w' base (.slice (some ⟨g, 0, none⟩) n cap) l := by
  refine ⟨h.1, ?_⟩
  rcases h.2 with hn | ⟨b, cap, cur, he, h1, hgg, rest⟩
  · exact .inl hn
  · cases he
    exact .inr ⟨g, _, cur, rfl, h1, (hb.block g hB).trans hgg, rest⟩
section
variable {ops : Array Oper} {rest : List Oper} {o : Oper} {a : Act} {Q : Exit → Act → World → Prop} {w : World}
theorem make_bools (hgd : o.guard = none) (l c : Operand) (hop : o.op = Op.makeSlice 51 l c) (base n : Nat) (hl : a.eval l = nv n) (hc : a.eval c = nv n) (hn : n ≤ 1000000) (hbase : base ≤ w.heap.size)
    (h : ∀ w', OwnB w' base (.slice (some ⟨w.heap.size, 0, none⟩) n n) (List.replicate n false) → Below w.heap.size w w' → wpList Tryd.prog ops Q rest (a.put o.dst (.slice (some ⟨w.heap.size, 0, none⟩) n n)) w') :
    wpList Tryd.prog ops Q (o :: rest) a w := by
  obtain ⟨i0, hi, hz0, hz1, hz2⟩ := info_parts Tryd.infoBool
  refine wpList_make_full w hgd l c 51 hop base 4 i0 (.bool false) 1 Tryd.underlying51 hi hz0 hz1 .i64 .i64 (n : Int) (n : Int) n hl hc rfl rfl (by rw [hz2]; omega) (by unfold maxLen; omega) hbase ?_
  intro w' hrow hg
  refine h w' ?_ ((Below.refl w.heap.size w).grown hg (Nat.le_refl _) (fun _ h => by cases h))
  unfold OwnB
  have e := toList_madeCells_one (.bool false) n
  simp only [Value.cells, Nat.mul_one] at hrow
  rw [e] at hrow
  simpa using hrow
end
namespace Fld
open Odr
theorem rokTo_stay {m t : List Nat} {d : List Bool} {j i i' : Nat} (h : rokTo m t d j i = false) (hi : i ≤ i') : rokTo m t d j i' = false := by
  induction i' with
  | zero =>
    obtain rfl : i = 0 := by omega
    exact h
  | succ i' ih =>
    by_cases e : i = i' + 1
    · subst e; exact h
    · rw [rokTo_succ, ih (by omega)]; rfl
theorem rokTo_zero (m t : List Nat) (d : List Bool) (j : Nat) : rokTo m t d j 0 = !d.getD j false := by
  unfold rokTo
  simp
/-- the place that is best so far, as the reference has it -/
def rbestV (m t : List Nat) (d : List Bool) (j : Nat) : Int := match rbest m t d j with | none => -1 | some b => (b : Int)
theorem rbestV_take {m t : List Nat} {d : List Bool} {j : Nat} (h1 : rok m t d j = true) (h2 : ∀ b, rbest m t d j = some b → t.getD j 0 < t.getD b 0) : rbestV m t d (j + 1) = (j : Int) := by
  unfold rbestV
  rw [rbest, if_pos ⟨h1, h2⟩]
theorem rbestV_keep {m t : List Nat} {d : List Bool} {j : Nat} (h : ¬ (rok m t d j = true ∧ ∀ b, rbest m t d j = some b → t.getD j 0 < t.getD b 0)) : rbestV m t d (j + 1) = rbestV m t d j := by
  unfold rbestV
  rw [rbest, if_neg h]
end Fld

set_option maxRecDepth 20000 in
set_option maxHeartbeats 4000000 in
theorem rleast_calls (m t : List Nat) (v u : Value) (w : World) (hv : Ints w w.heap.size v (zs m)) (hu : Ints w w.heap.size u (zs t)) (hg : Fld.Good m) (hl : t.length ≤ 24) (ht : ∀ x ∈ t, x < m.length) :
    Calls Tryd.prog 21 #[v, u] w fun e w' => ∃ v', e = .returned v' ∧ Own w' w.heap.size v' (zs (Fld.least m t)) ∧ Below w.heap.size w w' := by
  have HF := Lib.hid hv
  have HV := Lib.hid hu
  have HG := Lib.hid hg
  have HT := Lib.hid ht
  have hn := hg.1
  obtain ⟨Av, cv, rfl⟩ := Rd.val hu
  have hlz : (zs t).length = t.length := length_zs t
  rw [hlz] at HV ⊢
  clear hv hu hg ht hlz
  go_enter Tryd.func21, Tryd.ntmps21
  go_wp2_with (at_make; refine make_bools rfl _ _ rfl w.heap.size t.length rfl rfl (by omega) (Nat.le_refl _) ?_; intro w1 hown1 hb1)
  have HS1 := Lib.hid (show w.heap.size + 1 ≤ w1.heap.size by have := hown1.lit.2.1; omega)
  obtain ⟨g, hgg⟩ : ∃ g, g = w.heap.size := ⟨_, rfl⟩
  have HD1 := Lib.hid (show OwnB w1 w.heap.size (.slice (some ⟨g, 0, none⟩) t.length t.length) (List.replicate t.length false) by rw [hgg]; exact hown1)
  have HB1 := Lib.hid hb1
  have HE1 := Lib.hid (show ([] : List Nat) ++ Fld.least m (Fld.left t (List.replicate t.length false)) = Fld.least m t by rw [Fld.left_start]; rfl)
  have HL1 := Lib.hid (show ([] : List Nat).length + (Fld.left t (List.replicate t.length false)).length = t.length by rw [Fld.left_start]; simp)
  have HGG := Lib.hid hgg
  rw [← hgg]
  clear hown1 hb1 hgg
  go_wp2_with fail
  go_loopw [6] (fun o wr => ∃ (d : List Bool) (o' : List Nat), Hid (d.length = t.length) ∧ Hid (OwnB wr w.heap.size (.slice (some ⟨g, 0, none⟩) t.length t.length) d) ∧ Own wr (w.heap.size + 1) o (zs o') ∧ Hid (o' ++ Fld.least m (Fld.left t d) = Fld.least m t) ∧ Hid (o'.length + (Fld.left t d).length = t.length) ∧ Hid (Below w.heap.size w wr) ∧ Hid (w.heap.size + 1 ≤ wr.heap.size)) (fun o _ => t.length - lenOf o)
  case atStart => exact ⟨_, [], Lib.hid (by simp), HD1, Own.nil _ _, HE1, HL1, HB1, HS1⟩
  case round =>
    clear HS1 HD1 HB1 HE1 HL1
    obtain ⟨d, o', hdl, HD, ho, HE, HL, HB, HS⟩ := hrel
    obtain ⟨wo, rfl⟩ : ∃ wo : World, wo = wr := ⟨_, rfl⟩
    obtain ⟨Ao, co, rfl⟩ := Rd.val ho.ints
    have HO := Lib.hid ho
    rw [length_zs] at HO ⊢
    clear ho
    by_cases hol : o'.length < t.length
    · obtain ⟨b, hb1, hb2, hb3, hb4⟩ := Fld.least_left HG.out HT.out hdl.out (d := d) (fun e => by have := HL.out; rw [e] at this; simp at this; omega)
      have HBE := Lib.hid (show Fld.rbestV m t d t.length = (b : Int) by unfold Fld.rbestV; rw [hb1])
      have HE2 := Lib.hid (show (o' ++ [t.getD b 0]) ++ Fld.least m (Fld.left t (d.set b true)) = Fld.least m t by rw [← HE.out, hb4]; simp)
      have HL2 := Lib.hid (show (o' ++ [t.getD b 0]).length + (Fld.left t (d.set b true)).length = t.length by
        have h1 := Fld.length_left_set hdl.out hb2 hb3
        have h2 := HL.out
        simp; omega)
      clear hb1 hb3 hb4 HE HL
      go_wp2_with fail
      go_loopw [7, 8] (fun bv jv wr => ∃ j k : Nat, j ≤ t.length ∧ jv = nv j ∧ bv = .int .i64 (Fld.rbestV m t d j) ∧ wr = wo.drewN k) (fun _ jv _ => t.length - (intOf jv).toNat)
      case atStart => exact ⟨0, 0, Nat.zero_le _, rfl, rfl, rfl⟩
      case round =>
        obtain ⟨j, k, hj, rfl, rfl, rfl⟩ := hrel
        by_cases hjl : j < t.length
        · obtain ⟨gb, gs, gc, gf, gst⟩ := HD.out.lit
          have gcj : (wo.drewN k).cell? ⟨g, j, none⟩ = some (.bool (d.getD j false)) := gc j (by rw [hdl.out]; exact hjl)
          have GC := Lib.hid gc
          have hz := Lib.hid (Fld.rokTo_zero m t d j)
          generalize hdj : d.getD j false = dj at *
          clear gc gf gst gs
          go_wp2_with fail
          go_loopw [9, 10] (fun ok iv wr => ∃ i k : Nat, i ≤ j ∧ iv = nv i ∧ ok = .bool (Fld.rokTo m t d j i) ∧ wr = wo.drewN k) (fun _ iv _ => j - (intOf iv).toNat)
          case atStart => exact ⟨0, k, Nat.zero_le _, rfl, by rw [hz.out], rfl⟩
          case round =>
            clear gcj
            obtain ⟨i, k, hi, rfl, rfl, rfl⟩ := hrel
            by_cases hgo : i < j ∧ Fld.rokTo m t d j i = true
            · obtain ⟨hij, hok⟩ := hgo
              have gci : (wo.drewN k).cell? ⟨g, i, none⟩ = some (.bool (d.getD i false)) := GC.out i (by rw [hdl.out]; omega)
              have hsc := Lib.hid (Fld.rokTo_succ m t d j i)
              have hS := Lib.hid (rstays_calls m t v _ i j w.heap.size (wo.drewN k) (Rd.below HF.out (drn HB.out k)) (Rd.below HV.out (drn HB.out k)) HG.out HT.out hij hjl)
              generalize d.getD i false = di at *
              generalize Fld.stay m t i j = si at *
              generalize hq : Fld.rokTo m t d j i = q at *
              subst hok
              cases di with
              | true =>
                have hsc' := Lib.hid (show Fld.rokTo m t d j (i + 1) = true by rw [hsc.out]; rfl)
                clear hq hsc
                go_wp2_with fail
                go_roundw
                case rel => exact ⟨i + 1, _, by omega, by go_num, by rw [hsc'.out], rfl⟩
                case measure => simp [intOf]; omega
              | false =>
                have hsc' := Lib.hid (show Fld.rokTo m t d j (i + 1) = !si by rw [hsc.out]; simp)
                clear hq hsc
                go_wp2_with fail
                (with_reducible refine hS.out.mono ?_)
                rintro e w5 ⟨rfl, n2, rfl⟩
                clear hS
                go_wp2_with fail
                go_roundw
                case rel => exact ⟨i + 1, _, by omega, by go_num, by rw [hsc'.out], rfl⟩
                case measure => simp [intOf]; omega
            · have hend : Fld.rokTo m t d j i = Fld.rok m t d j := by
                by_cases hij : i < j
                · have h0 : Fld.rokTo m t d j i = false := by
                    cases h : Fld.rokTo m t d j i
                    · rfl
                    · exact absurd ⟨hij, h⟩ hgo
                  rw [h0]
                  exact (Fld.rokTo_stay h0 hi).symm
                · obtain rfl : i = j := by omega
                  rfl
              have hgo' : (decide (i < j) && Fld.rok m t d j) = false := by
                rw [← hend]
                cases h : Fld.rokTo m t d j i
                · simp
                · have : ¬ i < j := fun h' => hgo ⟨h', h⟩
                  simp [this]
              rw [hend]
              clear hend hgo
              have hbt : ∀ b', Fld.rbest m t d j = some b' → b' < j := fun b' h => ((Fld.rbest_spec m t d j).1 b' h).1
              have hc : (Fld.rok m t d j = false ∧ Fld.rbestV m t d (j + 1) = Fld.rbestV m t d j) ∨ (Fld.rok m t d j = true ∧ decide (Fld.rbestV m t d j < 0) = true ∧ Fld.rbestV m t d (j + 1) = (j : Int)) ∨
                  (∃ b', Fld.rok m t d j = true ∧ b' < j ∧ Fld.rbestV m t d j = (b' : Int) ∧ t.getD j 0 < t.getD b' 0 ∧ Fld.rbestV m t d (j + 1) = (j : Int)) ∨
                  (∃ b', Fld.rok m t d j = true ∧ b' < j ∧ Fld.rbestV m t d j = (b' : Int) ∧ ¬ t.getD j 0 < t.getD b' 0 ∧ Fld.rbestV m t d (j + 1) = Fld.rbestV m t d j) := by
                cases hk : Fld.rok m t d j
                · exact .inl ⟨rfl, Fld.rbestV_keep fun h => by rw [hk] at h; cases h.1⟩
                · cases hr : Fld.rbest m t d j with
                  | none => exact .inr (.inl ⟨rfl, by unfold Fld.rbestV; rw [hr]; rfl, Fld.rbestV_take hk fun b' h => by rw [hr] at h; cases h⟩)
                  | some b' =>
                    have hv' : Fld.rbestV m t d j = (b' : Int) := by unfold Fld.rbestV; rw [hr]
                    by_cases hlt : t.getD j 0 < t.getD b' 0
                    · exact .inr (.inr (.inl ⟨b', rfl, hbt b' hr, hv', hlt, Fld.rbestV_take hk fun c h => by rw [hr] at h; cases h; exact hlt⟩))
                    · exact .inr (.inr (.inr ⟨b', rfl, hbt b' hr, hv', hlt, Fld.rbestV_keep fun h => hlt (h.2 b' hr)⟩))
              clear hbt
              obtain ⟨b1, o1, d1, he, hbl, g1⟩ := Ints.atN (Rd.below HV.out HB.out) hjl
              cases he
              have i1 : (j : Int) < (t.length : Int) := by omega
              have i2 : (0 : Int) ≤ (j : Int) := by omega
              generalize hrk : Fld.rok m t d j = rk at *
              clear hrk hz hdj
              rcases hc with ⟨rfl, h2⟩ | ⟨rfl, h1, h2⟩ | ⟨b', rfl, h1, h2, h3, h4⟩ | ⟨b', rfl, h1, h2, h3, h4⟩
              · have H2 := Lib.hid h2
                generalize Fld.rbestV m t d j = bv at *
                clear h2 hgo'
                by_cases hij : i < j
                all_goals
                  go_wp2_with fail
                  go_quiet (fail)
                  go_wp2_with fail
                  go_roundw
                  case rel => exact ⟨j + 1, _, by omega, by go_num, by rw [H2.out], rfl⟩
                  case measure => simp [intOf]; omega
              · have H2 := Lib.hid h2
                have hij : ¬ i < j := by simpa using hgo'
                generalize Fld.rbestV m t d j = bv at *
                clear h2 hgo'
                go_wp2_with fail
                go_quiet (fail)
                go_wp2_with fail
                go_roundw
                case rel => exact ⟨j + 1, _, by omega, by go_num, by rw [H2.out], rfl⟩
                case measure => simp [intOf]; omega
              · obtain ⟨b2, o2, d2, he, hbl2, g2⟩ := Ints.atN (Rd.below HV.out HB.out) (k := b') (by omega)
                cases he
                have hij : ¬ i < j := by simpa using hgo'
                have j1 : (b' : Int) < (t.length : Int) := by omega
                have j2 : (0 : Int) ≤ (b' : Int) := by omega
                have j3 : decide ((b' : Int) < 0) = false := by simp
                generalize t.getD j 0 = x at *
                generalize t.getD b' 0 = y at *
                have j4 : decide (x < y) = true := by simpa using h3
                have H4 := Lib.hid h4
                rw [h2]
                clear h2 h3 h4 hgo'
                go_wp2_with fail
                go_quiet (fail)
                go_wp2_with fail
                go_roundw
                case rel => exact ⟨j + 1, _, by omega, by go_num, by rw [H4.out], rfl⟩
                case measure => simp [intOf]; omega
              · obtain ⟨b2, o2, d2, he, hbl2, g2⟩ := Ints.atN (Rd.below HV.out HB.out) (k := b') (by omega)
                cases he
                have hij : ¬ i < j := by simpa using hgo'
                have j1 : (b' : Int) < (t.length : Int) := by omega
                have j2 : (0 : Int) ≤ (b' : Int) := by omega
                have j3 : decide ((b' : Int) < 0) = false := by simp
                generalize t.getD j 0 = x at *
                generalize t.getD b' 0 = y at *
                have j4 : decide (x < y) = false := by simpa using h3
                have H4 := Lib.hid (h4.trans h2)
                rw [h2]
                clear h2 h3 h4 hgo'
                go_wp2_with fail
                go_quiet (fail)
                go_wp2_with fail
                go_roundw
                case rel => exact ⟨j + 1, _, by omega, by go_num, by rw [H4.out], rfl⟩
                case measure => simp [intOf]; omega
        · obtain rfl : j = t.length := by omega
          rw [HBE.out]
          have HDX := Lib.hid (show OwnB (wo.drewN k) w.heap.size (.slice (some ⟨g, 0, none⟩) t.length t.length) d from HD.out)
          have HOX := Lib.hid (HO.out.drewN k)
          have HBX := Lib.hid (drn HB.out k)
          have HSX := Lib.hid (show w.heap.size + 1 ≤ (wo.drewN k).heap.size from HS.out)
          clear HBE HD HO HB HS hjl hj
          generalize wo.drewN k = wX at *
          obtain ⟨gb, gs, gc, gf, gst⟩ := HDX.out.lit
          have gcb := gc b (by rw [hdl.out]; exact hb2)
          have gfb := gf b
          have GST := Lib.hid (gst b true)
          obtain ⟨b1, o1, d1, he, hbl, g1⟩ := Ints.atN (Rd.below HV.out HBX.out) hb2
          cases he
          have hgn : b1 ≠ g := by have := HGG.out; omega
          have g2 : (wX.setCell ⟨g, b, none⟩ (.bool true)).cell? ⟨b1, o1 + b, none⟩ = some (nv (t.getD b 0)) := (cell_other _ _ _ (by simp; omega)).trans g1
          have HD2 := Lib.hid (show OwnB (wX.setCell ⟨g, b, none⟩ (.bool true)) w.heap.size (.slice (some ⟨g, 0, none⟩) t.length t.length) (d.set b true) from GST.out)
          have HO2 := Lib.hid (show Own (wX.setCell ⟨g, b, none⟩ (.bool true)) (w.heap.size + 1) (.slice Ao o'.length co) (zs o') from HOX.out.awayFrom fun k hk => by have := (HOX.out.lt k hk).1; have := HGG.out; omega)
          have HB2 := Lib.hid (show Below w.heap.size w (wX.setCell ⟨g, b, none⟩ (.bool true)) from HBX.out.setCell (p := ⟨g, b, none⟩) gb _)
          have HS2 := Lib.hid (show w.heap.size + 1 ≤ (wX.setCell ⟨g, b, none⟩ (.bool true)).heap.size by have := HSX.out; simp; omega)
          have hdl2 := Lib.hid (show (d.set b true).length = t.length by rw [List.length_set]; exact hdl.out)
          have i1 : (b : Int) < (t.length : Int) := by omega
          have i2 : (0 : Int) ≤ (b : Int) := by omega
          clear gc gf gst HDX HOX HBX HSX GST g1 hdl
          generalize t.getD b 0 = x at *
          go_wp2_with (at_builtin; refine append_int_at rfl _ _ rfl (w.heap.size + 1) _ (zs o') rfl (Own.alloc HO2.out _) wX.heap.size rfl (x : Int) (by rw [show wX.heap.size = (wX.setCell ⟨g, b, none⟩ (.bool true)).heap.size by simp, World.cell?_alloc_new]; rfl) (by rw [length_zs]; omega) (by have := HS2.out; simp at this ⊢; omega) ?_; intro v6 w6 hown6 hg6 hat6)
          generalize wX.setCell ⟨g, b, none⟩ (.bool true) = w2 at *
          have HO6 := Lib.hid (show Own w6 (w.heap.size + 1) v6 (zs (o' ++ [x])) by simpa [zs] using hown6)
          have hb6 : Below (w.heap.size + 1) w2 w6 := ((Below.refl _ _).alloc HS2.out _).grown hg6 (by have := HS2.out; simp; omega) (fun k hk => Own.blockLe HO2.out k hk)
          have HD6 := Lib.hid (HD2.out.under (by have := HGG.out; omega) hb6)
          have HB6 := Lib.hid (show Below w.heap.size w w6 from HB2.out.trans (hb6.mono (by omega)))
          have HS6 := Lib.hid (show w.heap.size + 1 ≤ w6.heap.size by have := HS2.out; have := hb6.size; omega)
          clear hown6 hg6 hat6 hb6
          obtain ⟨A6, c6, rfl⟩ := Rd.val HO6.out.ints
          go_roundw
          case rel => exact ⟨_, o' ++ [x], hdl2, HD6, HO6.out, HE2, HL2, HB6, HS6⟩
          case measure => simp [lenOf]; omega
    · have hlz0 : Fld.left t d = [] := List.length_eq_zero_iff.1 (by have := HL.out; omega)
      have hfin := HE.out
      rw [hlz0, Fld.least_nil, List.append_nil] at hfin
      have HFIN := Lib.hid hfin
      have hol2 : ¬ ((o'.length : Int) < (t.length : Int)) := by omega
      clear hlz0 hfin HL HE hol
      go_wp2_with fail
      go_ret
      exact ⟨_, rfl, by rw [← HFIN.out]; exact HO.out.lower (by omega), HB.out⟩
end Go.Proofs.YtoedgncbgkdmoaaDoor
