/- ExtendKeeps at every input: a row keeps the order, and the first row comes first. Conditions: the row's own. -/
import Derived.Test.YtpicjikjinkkpaaDoorExtI
import Derived.Test.YtpicjikjinkkpaaDoorParts
import Derived.Deep.RegionHeld3
namespace Go.Proofs.YtpicjikjinkkpaaDoor
open Go.RowKit

theorem Odr.idxOf_getD {q : List Nat} (hn : q.Nodup) {i : Nat} (hi : i < q.length) : q.idxOf (q.getD i 0) = i := by
  have e : q.getD i 0 = q[i] := by rw [List.getD_eq_getElem?_getD, List.getElem?_eq_getElem hi]; rfl
  rw [e]
  have h1 := List.idxOf_lt_length_iff.2 (List.getElem_mem hi)
  have h2 := List.getElem_idxOf h1
  have hp := List.pairwise_iff_getElem.1 hn
  rcases Nat.lt_trichotomy (q.idxOf q[i]) i with h | h | h
  · exact absurd h2 (hp _ _ h1 hi h)
  · exact h
  · exact absurd h2.symm (hp _ _ hi h1 h)
theorem Odr.row_pair {m q : List Nat} (h : Odr.isRow (Odr.closed m) m.length q) {i j : Nat} (hij : j < i) (hi : i < q.length) :
    Odr.rel (Odr.closed m) (q.getD i 0) (q.getD j 0) = false ∧ q.getD i 0 ≠ q.getD j 0 := by
  have e1 := Odr.idxOf_getD h.1 hi
  have e2 := Odr.idxOf_getD h.1 (show j < q.length by omega)
  constructor
  · cases hr : Odr.rel (Odr.closed m) (q.getD i 0) (q.getD j 0) with
    | false => rfl
    | true => have := h.2.2 _ _ hr; omega
  · intro e; rw [e] at e1; omega
theorem Odr.row_lt {m q : List Nat} (h : Odr.isRow (Odr.closed m) m.length q) {i : Nat} (hi : i < q.length) : q.getD i 0 < m.length := by
  have e : q.getD i 0 = q[i] := by rw [List.getD_eq_getElem?_getD, List.getElem?_eq_getElem hi]; rfl
  rw [e]
  exact (h.2.1 _).1 (List.getElem_mem hi)

theorem keeps_err (l : List Int) (v u : Value) (w : World) (hr : Ints w w.heap.size v l) (hne : orderCode l ≠ 0) (hT : Tab w) :
    Calls Tryd.prog 8 #[v, u] w fun e w' => e = .returned (.bool true) ∧ Below w.heap.size w w' := by
  go_enter Tryd.func8, Tryd.ntmps8
  go_wp2_with fail
  refine (extendFact_calls w hT).mono ?_
  rintro e w1 ⟨rfl, hb1⟩
  have hbe := Lib.hid (first_err l v w1 ((Rd.below hr hb1).more hb1.size) hne)
  clear hr
  go_wp2_with fail
  refine hbe.out.mono ?_
  rintro e w2 ⟨rfl, hb2⟩
  clear hbe
  go_wp2_with fail
  go_ret
  exact ⟨rfl, hb1.trans (hb2.mono hb1.size)⟩

set_option maxRecDepth 20000 in
set_option maxHeartbeats 4000000 in
theorem keeps_ok (m : List Nat) (l : List Int) (v u : Value) (w : World) (hr : Ints w w.heap.size v (zs m)) (hu : Ints w w.heap.size u l) (hv : Odr.Valid m) (hT : Tab w) :
    Calls Tryd.prog 8 #[v, u] w fun e w' => e = .returned (.bool true) ∧ Below w.heap.size w w' := by
  have hfew := hv.few
  obtain ⟨hfr, hfl⟩ := Odr.firstRow_row hv
  have hfi : Odr.isRes m (zs (Odr.firstRow m)) = (true, 0) := by
    have h1 : (Odr.isRes m (zs (Odr.firstRow m))).1 = true := (Odr.isRes_true hv _).2 ⟨_, rfl, hfl, hfr⟩
    exact Prod.ext h1 (Odr.isRes_err h1)
  have c1 := Lib.hid fun (w1 : World) (hb : Below w.heap.size w w1) => first_ok m v w1 ((Rd.below hr hb).more hb.size) hv (hT.below hb)
  have c2 := Lib.hid fun (x : Value) (w1 : World) (hb : Below w.heap.size w w1) (hx : Ints w1 w1.heap.size x (zs (Odr.firstRow m))) => eis_ok m (zs (Odr.firstRow m)) v x w1 ((Rd.below hr hb).more hb.size) hx hv (hT.below hb)
  rw [hfi] at c2
  have c3 := Lib.hid fun (w1 : World) (hb : Below w.heap.size w w1) => eis_ok m l v u w1 ((Rd.below hr hb).more hb.size) ((Rd.below hu hb).more hb.size) hv (hT.below hb)
  by_cases hres : (Odr.isRes m l).1 = true
  · have hc := Odr.isRes_err hres
    obtain ⟨q, hq, hql, hrow⟩ := (Odr.isRes_true hv l).1 hres
    rw [hres, hc] at c3
    change l = zs q at hq
    subst hq
    have c4 := Lib.hid fun (a b : Nat) (w1 : World) (hb : Below w.heap.size w w1) => less_ok m v a b w1 ((Rd.below hr hb).more hb.size) hv
    have HP := Lib.hid fun (i j : Nat) (hij : j < i) (hi : i < q.length) => Odr.row_pair hrow hij hi
    have HL := Lib.hid fun (i : Nat) (hi : i < q.length) => Odr.row_lt hrow hi
    have HM := Lib.hid fun (k : Nat) (hk : k < m.length) h => Odr.firstRow_least hv hrow hql hk h
    obtain ⟨Au, cu, rfl⟩ := Rd.val hu
    have hlz : (zs q).length = m.length := by simp [hql]
    rw [hlz] at hu c3 ⊢
    have HU := Lib.hid fun (w1 : World) (hb : Below w.heap.size w w1) => Rd.below hu hb
    have HQ := Lib.hid hql
    have HFL := Lib.hid hfl
    clear hr hu hv hfr hfi hres hc hrow hlz hql hfl
    go_enter Tryd.func8, Tryd.ntmps8
    go_wp2_with fail
    refine (extendFact_calls w hT).mono ?_
    rintro e w1 ⟨rfl, hb1⟩
    clear hT
    go_wp2_with fail
    refine (c1.out w1 hb1).mono ?_
    rintro e w2 ⟨x, rfl, ho2, hb2⟩
    have hb12 := hb1.trans (hb2.mono hb1.size)
    clear hb1 hb2 c1
    obtain ⟨Ax, cx, rfl⟩ := Rd.val ho2.ints
    have hlf : (zs (Odr.firstRow m)).length = m.length := by simp [HFL.out]
    rw [hlf] at ho2 ⊢
    have hX := Lib.hid ho2.ints
    clear hlf ho2
    go_wp2_with fail
    refine (c2.out _ w2 hb12 hX.out).mono ?_
    rintro e w3 ⟨rfl, hb3⟩
    have hX3 := Lib.hid (Rd.below hX.out hb3)
    have hb13 := hb12.trans (hb3.mono hb12.size)
    clear c2 hX
    simp only [errv, if_pos]
    go_wp2_with fail
    refine (c3.out w3 hb13).mono ?_
    rintro e w4 ⟨rfl, hb4⟩
    have hX4 := Lib.hid (Rd.below hX3.out (hb4.mono hb3.size))
    have hb14 := hb13.trans (hb4.mono hb13.size)
    have h24 := Lib.hid (hb3.trans (hb4.mono hb3.size)).size
    clear c3 hX3 hb3 hb4 hb12 hb13
    simp only [errv, if_pos]
    go_wp2_with fail
    go_loopw [12] (fun i wr => ∃ k : Nat, k ≤ m.length ∧ i = nv k ∧ Below w4.heap.size w4 wr) (fun i _ => m.length - (intOf i).toNat)
    case atStart => exact ⟨0, Nat.zero_le _, rfl, Below.refl _ _⟩
    case round =>
      obtain ⟨k, hk, rfl, hb⟩ := hrel
      by_cases hkm : k < m.length
      · go_wp2_with fail
        go_loopw [13] (fun i wr => ∃ j : Nat, j ≤ k ∧ i = nv j ∧ Below w4.heap.size w4 wr) (fun i _ => k - (intOf i).toNat)
        case atStart => exact ⟨0, Nat.zero_le _, rfl, hb⟩
        case round =>
          clear hb
          obtain ⟨j, hj, rfl, hb⟩ := hrel
          by_cases hjk : j < k
          · have hbw := hb14.trans (hb.mono hb14.size)
            obtain ⟨bu, ou, cu', he, hbu, gi⟩ := Ints.atN (HU.out _ hbw) (k := k) (by rw [HQ.out]; exact hkm)
            rw [HQ.out] at he
            injection he with he1 he2 he3
            subst he1 he3
            clear he2
            obtain ⟨bu', ou', cu', he, _, gj⟩ := Ints.atN (HU.out _ hbw) (k := j) (by rw [HQ.out]; omega)
            injection he with he1 he2 he3
            injection he1 with he1
            injection he1 with he4 he5
            subst he4 he5
            clear he2 he3
            obtain ⟨hf, hn⟩ := HP.out k j hjk (by rw [HQ.out]; exact hkm)
            have hcl := Lib.hid fun (w1 : World) (hb : Below w.heap.size w w1) => c4.out (q.getD k 0) (q.getD j 0) w1 hb (HL.out _ (by rw [HQ.out]; exact hkm)) (HL.out _ (by rw [HQ.out]; omega))
            rw [hf] at hcl
            have hbws := hbw.size
            have i1 : (0 : Int) ≤ (k : Int) := by omega
            have i2 : (0 : Int) ≤ (j : Int) := by omega
            have i3 : (k : Int) < (m.length : Int) := by omega
            have i4 : (j : Int) < (m.length : Int) := by omega
            generalize q.getD k 0 = y at *
            generalize q.getD j 0 = z at *
            have hne : ((y : Int) == (z : Int)) = false := by simp; omega
            have HB := Lib.hid hb
            have HBW := Lib.hid hbw
            clear hf hn hb hbw
            go_wp2_with fail
            go_region_held3 (fun w' => w'.cell? ⟨bu, ou + k, none⟩ = some (nv y) ∧ w'.cell? ⟨bu, ou + j, none⟩ = some (nv z) ∧ Below wr.heap.size wr w')
              (first | exact ⟨gi, gj, (Below.refl _ _).drew⟩ | (go_split_ands; exact ⟨(hbl.cell (p := ⟨bu, ou + k, none⟩) (by simp; omega)).trans gi, (hbl.cell (p := ⟨bu, ou + j, none⟩) (by simp; omega)).trans gj, ((Below.refl _ wr).drew).trans hbl⟩))
              (first | (go_at_call 23; refine (hcl.out _ (HBW.out.drew)).mono ?_; rintro e w' ⟨rfl, hbl⟩))
            have hb' := HB.out.drew.trans (hbl.mono HB.out.size)
            have gi' := (hbl.cell (p := ⟨bu, ou + k, none⟩) (by simp; omega)).trans gi
            have gj' := (hbl.cell (p := ⟨bu, ou + j, none⟩) (by simp; omega)).trans gj
            have HB' := Lib.hid hb'
            clear hcl gi gj hb' hbl HBW HB hbws
            go_wp2_with fail
            go_quiet (fail)
            go_wp2_with fail
            go_roundw
            case rel => exact ⟨j + 1, by omega, by go_num, drn HB'.out _⟩
            case measure => simp [intOf]; omega
          · obtain rfl : j = k := by omega
            go_wp2_with fail
            go_roundw
            case rel => exact ⟨j + 1, by omega, by go_num, hb⟩
            case measure => simp [intOf]; omega
      · obtain rfl : k = m.length := by omega
        have hbw := hb14.trans (hb.mono hb14.size)
        have hX5 := Lib.hid (Rd.below hX4.out (hb.mono h24.out))
        have h25 := Lib.hid (Nat.le_trans h24.out hb.size)
        have hU5 := Lib.hid (HU.out _ hbw)
        have HB5 := Lib.hid hbw
        clear hX4 h24 hb hbw hb14 HU
        go_wp2_with fail
        go_loopw [16] (fun i wx => ∃ k : Nat, k ≤ m.length ∧ i = nv k ∧ (∃ n, wx = wr.drewN n) ∧ Hid (∀ j, j < k → q.getD j 0 = (Odr.firstRow m).getD j 0)) (fun i _ => m.length - (intOf i).toNat)
        case atStart => exact ⟨0, Nat.zero_le _, rfl, ⟨0, rfl⟩, Lib.hid fun j hj => absurd hj (by omega)⟩
        case round =>
          obtain ⟨k, hk, rfl, ⟨n, rfl⟩, heq⟩ := hrel
          by_cases hkl : k < m.length
          · obtain ⟨bu, ou, cu', he, hbu, gi⟩ := Ints.atN hU5.out (k := k) (by rw [HQ.out]; exact hkl)
            rw [HQ.out] at he
            injection he with he1 he2 he3
            subst he1 he3
            clear he2
            obtain ⟨bx, ox, cx', he, _, gj⟩ := Ints.atN hX5.out (k := k) (by rw [HFL.out]; exact hkl)
            rw [HFL.out] at he
            injection he with he1 he2 he3
            subst he1 he3
            clear he2
            have hle := HM.out k hkl heq.out
            have hnx := fun (h : q.getD k 0 = (Odr.firstRow m).getD k 0) => Lib.hid (show ∀ j, j < k + 1 → q.getD j 0 = (Odr.firstRow m).getD j 0 from fun j hj => by
              rcases Nat.lt_or_ge j k with h' | h'
              · exact heq.out j h'
              · obtain rfl : j = k := by omega
                exact h)
            have HNX := Lib.hid hnx
            clear hnx
            generalize q.getD k 0 = y at *
            generalize (Odr.firstRow m).getD k 0 = z at *
            have i1 : (0 : Int) ≤ (k : Int) := by omega
            have i3 : (k : Int) < (m.length : Int) := by omega
            have gi' : (wr.drewN n).cell? ⟨bu, ou + k, none⟩ = some (nv y) := gi
            have gj' : (wr.drewN n).cell? ⟨bx, ox + k, none⟩ = some (nv z) := gj
            by_cases hyz : y = z
            · have hne : ((y : Int) != (z : Int)) = false := by simp [hyz]
              have H1 := Lib.hid (HNX.out hyz)
              clear HNX hle hyz
              go_wp2_with fail
              go_quiet (fail)
              go_wp2_with fail
              go_roundw
              case rel => exact ⟨k + 1, by omega, by go_num, ⟨_, rfl⟩, H1⟩
              case measure => simp [intOf]; omega
            · have hne : ((y : Int) != (z : Int)) = true := by simp; omega
              have hgt : z < y := by omega
              clear HNX hle hyz
              go_wp2_with fail
              go_quiet (fail)
              go_wp2_with fail
              go_quiet (fail)
              go_wp2_with fail
              go_ret
              exact ⟨rfl, drn (drn (drn HB5.out _) _) _⟩
          · obtain rfl : k = m.length := by omega
            go_wp2_with fail
            go_ret
            exact ⟨rfl, drn HB5.out _⟩
  · have hf : (Odr.isRes m l).1 = false := by simpa using hres
    rw [hf] at c3
    generalize (Odr.isRes m l).2 = c at *
    have hfl2 := Lib.hid hfl
    have hce : errv c = .nilIface ∨ ∃ t x, errv c = .iface t x := by
      unfold errv
      split
      · exact .inl rfl
      · exact .inr ⟨_, _, rfl⟩
    clear hr hu hv hfr hfi hres hf hfl
    rcases hce with hce | ⟨ct, cx0, hce⟩
    all_goals
      rw [hce] at c3
      clear hce
      go_enter Tryd.func8, Tryd.ntmps8
      go_wp2_with fail
      refine (extendFact_calls w hT).mono ?_
      rintro e w1 ⟨rfl, hb1⟩
      go_wp2_with fail
      refine (c1.out w1 hb1).mono ?_
      rintro e w2 ⟨x, rfl, ho2, hb2⟩
      have hb12 := hb1.trans (hb2.mono hb1.size)
      obtain ⟨Ax, cx, rfl⟩ := Rd.val ho2.ints
      have hlf : (zs (Odr.firstRow m)).length = m.length := by simp [hfl2.out]
      rw [hlf] at ho2 ⊢
      have hX := Lib.hid ho2.ints
      clear hb1 hb2 c1 ho2 hT hlf
      go_wp2_with fail
      refine (c2.out _ w2 hb12 hX.out).mono ?_
      rintro e w3 ⟨rfl, hb3⟩
      have hb13 := hb12.trans (hb3.mono hb12.size)
      clear c2 hX
      simp only [errv, if_pos]
      go_wp2_with fail
      refine (c3.out w3 hb13).mono ?_
      rintro e w4 ⟨rfl, hb4⟩
      clear c3
      go_wp2_with fail
      go_ret
      exact ⟨rfl, hb13.trans (hb4.mono hb13.size)⟩

/-- the law at every input -/
theorem keeps_calls (l p : List Int) (v u : Value) (w : World) (hr : Ints w w.heap.size v l) (hu : Ints w w.heap.size u p) (hT : Tab w) :
    Calls Tryd.prog 8 #[v, u] w fun e w' => e = .returned (.bool true) ∧ Below w.heap.size w w' := by
  by_cases h : orderCode l = 0
  · obtain ⟨m, rfl, hv⟩ := orderCode_zero h
    exact keeps_ok m p v u w hr hu hv hT
  · exact keeps_err l v u w hr h hT

end Go.Proofs.YtpicjikjinkkpaaDoor
