/- ChainMirsky at every input: as many steps as the longest row has. Conditions: the row's own. -/
import Derived.Test.YtpicjikjinkkpaaDoorWidest
import Derived.Test.YtpicjikjinkkpaaDoorRanks
import Derived.Test.YtpicjikjinkkpaaDoorParts
namespace Go.Proofs.YtpicjikjinkkpaaDoor
open Go.RowKit

theorem bitq (s i n : Nat) (w : World) (hs : s < 4096) (hi : i < 64) : Calls Tryd.prog 34 #[nv s, nv i] (w.drewN n) fun e w'' => e = .returned (.bool (s.testBit i)) ∧ ∃ m, w'' = w.drewN m :=
  Calls.quiet_of_same ((bit12 s i (w.drewN n) hs hi).mono fun _ _ ⟨a, b⟩ => ⟨a, b.symm⟩)

set_option maxRecDepth 20000 in
set_option maxHeartbeats 1000000 in
theorem chainFact_calls (w : World) (hT : Tab w) : Calls Tryd.prog 38 #[] w fun e w' => e = .returned (.bool true) ∧ Below w.heap.size w w' := by
  have hv : Odr.Valid [6, 0, 0] := (valid_iff (by decide) (by unfold Odr.Fits; decide)).1 (by decide)
  have hc : Odr.lof [6, 0, 0].length (Odr.rk (Odr.closed [6, 0, 0])) = [0, 1, 1] := by decide +kernel
  have hd : Odr.widest (Odr.closed [6, 0, 0]) = 6 := by decide +kernel
  obtain ⟨w1, hw1, hb1, hl1⟩ := lay3 w 6 0 0
  have hbe := Lib.hid (ranks_ok [6, 0, 0] _ w1 hl1 hv (hT.below hb1))
  rw [hc] at hbe
  have HW1 := Lib.hid hw1
  have HT := Lib.hid hT
  have HV := Lib.hid hv
  have HD := Lib.hid hd
  clear hl1 hv hc hw1 hT hd
  go_enter Tryd.func38, Tryd.ntmps38
  go_wp2_with fail
  rw [HW1.out]
  refine hbe.out.mono ?_
  rintro e w2 ⟨v2, rfl, hown, hb2⟩
  have hb12 := hb1.trans (hb2.mono hb1.size)
  obtain ⟨w3, hw3, hb3, hl3⟩ := lay3 w2 6 0 0
  have hb13 := hb12.trans (hb3.mono hb12.size)
  have hi := Lib.hid (widest_ok [6, 0, 0] _ w3 hl3 HV.out (HT.out.below hb13))
  rw [HD.out] at hi
  have HO := Lib.hid (Rd.below hown.ints hb3)
  have hs3 := hb3.size
  have HW3 := Lib.hid hw3
  clear hbe hl3 hw3 hown
  go_wp2_with fail
  rw [HW3.out]
  refine hi.out.mono ?_
  rintro e w4 ⟨rfl, hb4⟩
  have hb14 := hb13.trans (hb4.mono hb13.size)
  obtain ⟨w5, hw5, hb5, hl5⟩ := lay3 w4 0 1 1
  have hj := Lib.hid (ints_calls v2 _ _ _ w5.heap.size w5 (Nat.le_refl _) ((Rd.below HO.out ((hb4.trans (hb5.mono hb4.size)).mono hs3)).more (by have := hb4.size; have := hb5.size; omega)) hl5)
  have hb15 := hb14.trans (hb5.mono hb14.size)
  have HW5 := Lib.hid hw5
  clear hi hl5 hw5
  go_wp2_with fail
  rw [HW5.out]
  refine hj.out.mono ?_
  rintro e w6 ⟨rfl, hb6⟩
  clear hj
  go_wp2_with fail
  go_ret
  exact ⟨rfl, hb15.trans (hb6.mono hb15.size)⟩

theorem mirsky_err (l : List Int) (v u : Value) (w : World) (hr : Ints w w.heap.size v l) (hne : orderCode l ≠ 0) (hT : Tab w) :
    Calls Tryd.prog 9 #[v, u] w fun e w' => e = .returned (.bool true) ∧ Below w.heap.size w w' := by
  go_enter Tryd.func9, Tryd.ntmps9
  go_wp2_with fail
  refine (chainFact_calls w hT).mono ?_
  rintro e w1 ⟨rfl, hb1⟩
  have hbe := Lib.hid (ranks_err l v w1 ((Rd.below hr hb1).more hb1.size) hne)
  go_wp2_with fail
  refine hbe.out.mono ?_
  rintro e w2 ⟨rfl, hb2⟩
  have hb12 := hb1.trans (hb2.mono hb1.size)
  have hbf := Lib.hid (behind_err l v w2 ((Rd.below hr hb12).more hb12.size) hne)
  clear hbe hr
  go_wp2_with fail
  refine hbf.out.mono ?_
  rintro e w3 ⟨rfl, hb3⟩
  clear hbf
  go_wp2_with fail
  go_ret
  exact ⟨rfl, hb12.trans (hb3.mono hb12.size)⟩

set_option maxRecDepth 20000 in
set_option maxHeartbeats 4000000 in
theorem mirsky_ok (m : List Nat) (l : List Int) (v u : Value) (w : World) (hr : Ints w w.heap.size v (zs m)) (hu : Ints w w.heap.size u l) (hv : Odr.Valid m) (hT : Tab w) :
    Calls Tryd.prog 9 #[v, u] w fun e w' => e = .returned (.bool true) ∧ Below w.heap.size w w' := by
  have hfew := hv.few
  have c1 := Lib.hid fun (w1 : World) (hb : Below w.heap.size w w1) => ranks_ok m v w1 ((Rd.below hr hb).more hb.size) hv (hT.below hb)
  have c2 := Lib.hid fun (w1 : World) (hb : Below w.heap.size w w1) => behind_ok m v w1 ((Rd.below hr hb).more hb.size) hv
  obtain ⟨c, hc⟩ : ∃ c, c = Odr.closed m := ⟨_, rfl⟩
  have hcl : c.length = m.length := by rw [hc]; exact Odr.length_closed m
  have hcf := Lib.hid (show Odr.Fits c by rw [hc]; exact hv.fits.closed)
  have htr : ∀ i j k, Odr.rel c i j = true → Odr.rel c j k = true → Odr.rel c i k = true := by rw [hc]; exact ctr
  have hirr : ∀ i, Odr.rel c i i = false := by rw [hc]; exact hv.irr
  have hlt := Lib.hid fun i j (h : Odr.rel c i j = true) => Odr.rk_lt htr hirr h
  have hstep := Lib.hid fun j (h : 0 < Odr.rk c j) => Odr.rk_step htr hirr h
  have hle := Lib.hid fun j => Odr.rk_le htr hirr j
  rw [← hc] at c1 c2
  obtain ⟨A, cap, rfl⟩ := Rd.val hr
  have hlz : (zs m).length = m.length := by simp
  rw [hlz] at hr c1 c2 ⊢
  obtain ⟨Au, cu, rfl⟩ := Rd.val hu
  have hul := Rd.le hu
  unfold maxLen at hul
  have HU := Lib.hid fun (w1 : World) (hb : Below w.heap.size w w1) => Rd.below hu hb
  clear hr hv htr hirr hlz hc hu
  generalize m.length = n at *
  go_enter Tryd.func9, Tryd.ntmps9
  go_wp2_with fail
  refine (chainFact_calls w hT).mono ?_
  rintro e w1 ⟨rfl, hb1⟩
  clear hT
  go_wp2_with fail
  refine (c1.out w1 hb1).mono ?_
  rintro e w2 ⟨x, rfl, ho2, hb2⟩
  have hb12 := hb1.trans (hb2.mono hb1.size)
  obtain ⟨Ax, cx, rfl⟩ := Rd.val ho2.ints
  rw [length_zs, Odr.length_lof] at ho2 ⊢
  have hX := Lib.hid ho2.ints
  clear hb1 hb2 c1 ho2
  go_wp2_with fail
  refine (c2.out w2 hb12).mono ?_
  rintro e w3 ⟨y, rfl, ho3, hb3⟩
  have hb13 := hb12.trans (hb3.mono hb12.size)
  obtain ⟨Ay, cy, rfl⟩ := Rd.val ho3.ints
  rw [length_zs, hcl] at ho3 ⊢
  have hX3 := Lib.hid (Rd.below hX.out hb3)
  have hY3 := Lib.hid ho3.ints
  have HB13 := Lib.hid hb13
  have hU3 := Lib.hid (HU.out _ hb13)
  clear c2 hX ho3 hb3 hb13 hb12 HU
  go_wp2_with fail
  go_loopw [10, 11] (fun o i wr => ∃ k, k ≤ n ∧ i = nv k ∧ o = nv (Odr.supm k fun j => Odr.rk c j + 1) ∧ ∃ d, wr = w3.drewN d) (fun _ i _ => n - (intOf i).toNat)
  case atStart => exact ⟨0, Nat.zero_le _, rfl, rfl, 0, rfl⟩
  case round =>
    obtain ⟨k, hk, rfl, rfl, d, rfl⟩ := hrel
    by_cases hkn : k < n
    · obtain ⟨bx, ox, cx', he, _, gk⟩ := Ints.atN hX3.out (k := k) (by simpa using hkn)
      rw [Odr.length_lof] at he
      injection he with he1 he2 he3
      subst he1 he3
      clear he2
      rw [Odr.getD_lof _ hkn] at gk
      have hrk := hle.out k
      rw [hcl] at hrk
      have hsm : Odr.supm k (fun j => Odr.rk c j + 1) ≤ 13 := Odr.supm_le fun j _ => by have := hle.out j; omega
      have hsn := Lib.hid (show Odr.supm (k + 1) (fun j => Odr.rk c j + 1) = max (Odr.supm k fun j => Odr.rk c j + 1) (Odr.rk c k + 1) from rfl)
      obtain ⟨M, hM⟩ : ∃ M, M = Odr.supm k fun j => Odr.rk c j + 1 := ⟨_, rfl⟩
      obtain ⟨z, hz⟩ : ∃ z, z = Odr.rk c k := ⟨_, rfl⟩
      rw [← hM] at hsm hsn ⊢
      rw [← hz] at gk hsn hrk
      have HZ := Lib.hid hz
      have gk' : (w3.drewN d).cell? ⟨bx, ox + k, none⟩ = some (nv z) := gk
      clear hM hz
      have hM2 := Lib.hid (show ∀ M2 : Nat, M2 = max M (z + 1) → Odr.supm (k + 1) (fun j => Odr.rk c j + 1) = M2 from fun M2 h => by rw [hsn.out, h])
      have hsum : IntKind.i64.wrap ((z : Int) + 1) = (z : Int) + 1 := IntWalk.i64_in _ (by constructor <;> omega)
      have hz0 : ((z : Int) == 0) = decide (z = 0) := by
        by_cases h : z = 0
        · subst h; rfl
        · rw [decide_eq_false h]; simp [h]
      have HZ0 := Lib.hid hz0
      have HST := Lib.hid (show z = 0 ∨ ∃ i, i < n ∧ Odr.rel c i k = true ∧ Odr.rk c i + 1 = z by
        rcases Nat.eq_zero_or_pos z with h | h
        · exact .inl h
        · obtain ⟨i, h1, h2, h3⟩ := hstep.out k (by rw [← HZ.out]; exact h)
          exact .inr ⟨i, by omega, h2, by rw [HZ.out]; exact h3⟩)
      clear hz0
      obtain ⟨bb, hbb⟩ : ∃ bb, decide ((M : Int) < (z : Int) + 1) = bb := ⟨_, rfl⟩
      cases bb
      all_goals
        first | have hMz := of_decide_eq_true hbb | have hMz := of_decide_eq_false hbb
        go_wp2_with fail
        go_loopw [12, 13] (fun o i wr => ∃ (j : Nat) (b : Bool), j ≤ n ∧ i = nv j ∧ o = .bool b ∧ Hid (b = true ↔ z = 0 ∨ ∃ i, i < j ∧ Odr.rel c i k = true ∧ Odr.rk c i + 1 = z) ∧ ∃ d, wr = w3.drewN d) (fun _ i _ => n - (intOf i).toNat)
        case atStart => exact ⟨0, decide (z = 0), Nat.zero_le _, rfl, by rw [← HZ0.out], Lib.hid (by simp), d, rfl⟩
        case round =>
          obtain ⟨j, b, hj, rfl, rfl, hb, d, rfl⟩ := hrel
          by_cases hjn : j < n
          · obtain ⟨by_, oy, cy', he, _, gy⟩ := Ints.atN hY3.out (k := j) (by rw [hcl]; exact hjn)
            rw [hcl] at he
            injection he with he1 he2 he3
            subst he1 he3
            clear he2
            obtain ⟨bx', ox', cx', he, _, gj⟩ := Ints.atN hX3.out (k := j) (by simpa using hjn)
            rw [Odr.length_lof] at he
            injection he with he1 he2 he3
            injection he1 with he1
            injection he1 with he4 he5
            subst he4 he5
            clear he2 he3
            rw [Odr.getD_lof _ hjn] at gj
            have hrj := hle.out j
            rw [hcl] at hrj
            have hy12 : c.getD j 0 < 4096 := fits12 (l := c) (by omega) (hcf.out.getD j)
            have hbit : (c.getD j 0).testBit k = Odr.rel c j k := rfl
            have hB := Lib.hid fun w5 => bit12 (c.getD j 0) k w5 hy12 (by omega)
            rw [hbit] at hB
            obtain ⟨y, hy⟩ : ∃ y, y = c.getD j 0 := ⟨_, rfl⟩
            rw [← hy] at gy hB hy12
            obtain ⟨q, hq⟩ : ∃ q, q = Odr.rk c j := ⟨_, rfl⟩
            rw [← hq] at gj hrj
            have HQ := Lib.hid hq
            have gy' : (w3.drewN d).cell? ⟨by_, oy + j, none⟩ = some (nv y) := gy
            have gj' : (w3.drewN d).cell? ⟨bx, ox + j, none⟩ = some (nv q) := gj
            have gk2 : (w3.drewN d).cell? ⟨bx, ox + k, none⟩ = some (nv z) := gk'
            have i1 : (0 : Int) ≤ (k : Int) := by omega
            have i2 : (0 : Int) ≤ (j : Int) := by omega
            have i3 : (k : Int) < (n : Int) := by omega
            have i4 : (j : Int) < (n : Int) := by omega
            have hsq : IntKind.i64.wrap ((q : Int) + 1) = (q : Int) + 1 := IntWalk.i64_in _ (by constructor <;> omega)
            clear hy hq hbit
            cases hr : Odr.rel c j k with
            | false =>
              rw [hr] at hB
              have hnb := Lib.hid (show b = true ↔ z = 0 ∨ ∃ i, i < j + 1 ∧ Odr.rel c i k = true ∧ Odr.rk c i + 1 = z by
                rw [hb.out]
                refine or_congr Iff.rfl ⟨fun ⟨i, h1, h2⟩ => ⟨i, by omega, h2⟩, fun ⟨i, h1, h2, h3⟩ => ⟨i, ?_, h2, h3⟩⟩
                rcases Nat.lt_or_ge i j with h | h
                · exact h
                · obtain rfl : i = j := by omega
                  rw [hr] at h2; cases h2)
              clear hr hb
              go_wp2_with fail
              refine (hB.out _).mono ?_
              rintro e w6 ⟨rfl, rfl⟩
              clear hB
              go_wp2_with fail
              go_roundw
              case rel => exact ⟨j + 1, b, by omega, by go_num, rfl, hnb, _, rfl⟩
              case measure => simp [intOf]; omega
            | true =>
              rw [hr] at hB
              have hqz : q < z := by rw [HQ.out, HZ.out]; exact hlt.out j k hr
              have hge : decide ((z : Int) ≤ (q : Int)) = false := by simp; omega
              cases b with
              | true =>
                have hnb := Lib.hid (show true = true ↔ z = 0 ∨ ∃ i, i < j + 1 ∧ Odr.rel c i k = true ∧ Odr.rk c i + 1 = z from ⟨fun _ => by
                  rcases hb.out.1 rfl with h | ⟨i, h1, h2⟩
                  · exact .inl h
                  · exact .inr ⟨i, by omega, h2⟩, fun _ => rfl⟩)
                clear hr hb
                go_wp2_with fail
                refine (hB.out _).mono ?_
                rintro e w6 ⟨rfl, rfl⟩
                clear hB
                go_wp2_with fail
                go_quiet (fail)
                go_wp2_with fail
                go_quiet (fail)
                go_wp2_with fail
                go_roundw
                case rel => exact ⟨j + 1, true, by omega, by go_num, rfl, Lib.hid (by simpa using hnb.out), _, rfl⟩
                case measure => simp [intOf]; omega
              | false =>
                have hnb := Lib.hid (show decide (q + 1 = z) = true ↔ z = 0 ∨ ∃ i, i < j + 1 ∧ Odr.rel c i k = true ∧ Odr.rk c i + 1 = z from by
                  rw [decide_eq_true_eq, HQ.out]
                  constructor
                  · intro h; exact .inr ⟨j, by omega, hr, h⟩
                  · rintro (h | ⟨i, h1, h2, h3⟩)
                    · omega
                    · rcases Nat.lt_or_ge i j with h | h
                      · have := hb.out.2 (.inr ⟨i, h, h2, h3⟩); cases this
                      · obtain rfl : i = j := by omega
                        exact h3)
                have heq : (((q : Int) + 1) == (z : Int)) = decide (q + 1 = z) := by
                  by_cases h : q + 1 = z
                  · rw [decide_eq_true h]; simp; omega
                  · rw [decide_eq_false h]; simp; omega
                generalize decide (q + 1 = z) = b' at *
                clear hr hb
                go_wp2_with fail
                refine (hB.out _).mono ?_
                rintro e w6 ⟨rfl, rfl⟩
                clear hB
                go_wp2_with fail
                go_quiet (fail)
                go_wp2_with fail
                go_quiet (fail)
                go_wp2_with fail
                go_roundw
                case rel => exact ⟨j + 1, b', by omega, by go_num, rfl, hnb, _, rfl⟩
                case measure => simp [intOf]; omega
          · obtain rfl : j = n := by omega
            have hbt := hb.out.2 HST.out
            subst hbt
            clear hb hjn
            go_wp2_with fail
            go_roundw
            case rel => exact ⟨k + 1, by omega, by go_num, by first | (rw [hM2.out (z + 1) (by omega)]; go_num) | rw [hM2.out M (by omega)], d, rfl⟩
            case measure => simp [intOf]; omega
    · obtain rfl : k = n := by omega
      have hMM := Lib.hid (show ∀ j, j < k → Odr.rk c j + 1 ≤ Odr.supm k fun j => Odr.rk c j + 1 from fun j h => Odr.le_supm (f := fun j => Odr.rk c j + 1) h)
      have hsm : Odr.supm k (fun j => Odr.rk c j + 1) ≤ 13 := Odr.supm_le fun j _ => by have := hle.out j; omega
      obtain ⟨M, hM⟩ : ∃ M, M = Odr.supm k fun j => Odr.rk c j + 1 := ⟨_, rfl⟩
      rw [← hM] at hsm hMM ⊢
      clear hM hkn hX3
      generalize k = n at *
      have hfin := Lib.hid (show (∀ i, i < l.length → 0 ≤ l.getD i 0 ∧ l.getD i 0 < n) → (∀ i, i + 1 < l.length → Odr.rel c (l.getD i 0).toNat (l.getD (i + 1) 0).toNat = true) → l.length ≤ M from fun h1 h2 => by
        rcases Nat.eq_zero_or_pos l.length with h0 | h0
        · omega
        · have hg : ∀ i, i < l.length → (l.map Int.toNat).getD i 0 = (l.getD i 0).toNat := fun i hi => by
            rw [List.getD_eq_getElem?_getD, List.getD_eq_getElem?_getD, List.getElem?_map, List.getElem?_eq_getElem hi]; rfl
          have h3 := Odr.chain_rk (c := c) hlt.out (l.map Int.toNat) (fun i hi => by
            rw [List.length_map] at hi
            rw [hg _ (by omega), hg _ hi]
            exact h2 i hi) (l.length - 1) (by simp; omega)
          rw [hg _ (by omega)] at h3
          have h4 := hMM.out _ (show (l.getD (l.length - 1) 0).toNat < n by have := h1 (l.length - 1) (by omega); omega)
          omega)
      go_wp2_with fail
      go_loopw [14] (fun i wr => ∃ k, k ≤ l.length ∧ i = nv k ∧ Hid (∀ i, i < k → 0 ≤ l.getD i 0 ∧ l.getD i 0 < n) ∧ Hid (∀ i, i + 1 < k → Odr.rel c (l.getD i 0).toNat (l.getD (i + 1) 0).toNat = true) ∧ Below w3.heap.size w3 wr) (fun i _ => l.length - (intOf i).toNat)
      case atStart => exact ⟨0, Nat.zero_le _, rfl, Lib.hid fun i hi => absurd hi (by omega), Lib.hid fun i hi => absurd hi (by omega), drn (Below.refl _ _) _⟩
      case round =>
        obtain ⟨k, hk, rfl, hr1, hr2, hb⟩ := hrel
        have hsb := HB13.out.size
        by_cases hkl : k < l.length
        · obtain ⟨bu, ou, cu', he, _, gu⟩ := Ints.at_ (Rd.below hU3.out (hb.mono hsb)) hkl
          injection he with he1 he2 he3
          subst he1 he3
          clear he2
          have hgk : l.getD k 0 = l[k] := by rw [List.getD_eq_getElem?_getD, List.getElem?_eq_getElem hkl]; rfl
          have HGK := Lib.hid hgk
          clear hgk
          obtain ⟨z, hz⟩ : ∃ z, z = l[k] := ⟨_, rfl⟩
          rw [← hz] at gu HGK
          clear hz
          have i1 : (0 : Int) ≤ (k : Int) := by omega
          have i2 : (k : Int) < (l.length : Int) := by omega
          by_cases hz0 : z < 0
          · go_wp2_with fail
            go_quiet (fail)
            go_wp2_with fail
            go_ret
            exact ⟨rfl, drn (HB13.out.trans (hb.mono hsb)) _⟩
          · have hz0' : decide (z < 0) = false := by simpa using hz0
            have hz1 : 0 ≤ z := by omega
            clear hz0
            by_cases hzn : (n : Int) ≤ z
            · go_wp2_with fail
              go_quiet (fail)
              go_wp2_with fail
              go_ret
              exact ⟨rfl, drn (HB13.out.trans (hb.mono hsb)) _⟩
            · have hzn' : decide ((n : Int) ≤ z) = false := by simpa using hzn
              have hzn2 : z < n := by omega
              clear hzn
              have hr1' := Lib.hid (show ∀ i, i < k + 1 → 0 ≤ l.getD i 0 ∧ l.getD i 0 < n from fun i hi => by
                rcases Nat.lt_or_ge i k with h | h
                · exact hr1.out i h
                · obtain rfl : i = k := by omega
                  rw [HGK.out]; exact ⟨hz1, hzn2⟩)
              by_cases hk0 : 0 < k
              · have hk0' : decide (0 < k) = true := by simpa using hk0
                obtain ⟨hp1, hp2⟩ := hr1.out (k - 1) (by omega)
                obtain ⟨bu', ou', cu', he, _, gp⟩ := Ints.at_ (Rd.below hU3.out (hb.mono hsb)) (k := k - 1) (by omega)
                injection he with he1 he2 he3
                injection he1 with he1
                injection he1 with he4 he5
                subst he4 he5
                clear he2 he3
                have hgp : l.getD (k - 1) 0 = l[k - 1] := by rw [List.getD_eq_getElem?_getD, List.getElem?_eq_getElem (show k - 1 < l.length by omega)]; rfl
                rw [hgp] at hp1 hp2
                have HGP := Lib.hid hgp
                clear hgp
                obtain ⟨q, hq⟩ : ∃ q, q = l[k - 1] := ⟨_, rfl⟩
                rw [← hq] at gp hp1 hp2 HGP
                clear hq
                obtain ⟨q, rfl⟩ := Int.eq_ofNat_of_zero_le hp1
                obtain ⟨z, rfl⟩ := Int.eq_ofNat_of_zero_le hz1
                obtain ⟨bc, oc, cc', he, _, gc⟩ := Ints.atN (Rd.below hY3.out hb) (k := q) (by omega)
                rw [hcl] at he
                injection he with he1 he2 he3
                subst he1 he3
                clear he2
                have hc12 : c.getD q 0 < 4096 := fits12 (l := c) (by omega) (hcf.out.getD q)
                have hB := Lib.hid fun d' w5 => bitq (c.getD q 0) z d' w5 hc12 (by omega)
                rw [show (c.getD q 0).testBit z = Odr.rel c q z from rfl] at hB
                obtain ⟨y, hy⟩ : ∃ y, y = c.getD q 0 := ⟨_, rfl⟩
                rw [← hy] at gc hc12 hB
                clear hy
                have e1 : IntKind.i64.wrap ((k : Int) - 1) = (k : Int) - 1 := IntWalk.i64_in _ (by constructor <;> omega)
                have e2 : (0 : Int) ≤ (k : Int) - 1 := by omega
                have e3 : (1 : Int) ≤ (k : Int) := by omega
                have e4 : (k : Int) - 1 < (l.length : Int) := by omega
                have e5 : ((k : Int) - 1).toNat = k - 1 := by omega
                have hzn3 : decide (n ≤ z) = false := by simp; omega
                have i3 : (0 : Int) ≤ (q : Int) := by omega
                have i4 : (q : Int) < (n : Int) := by omega
                cases hrel : Odr.rel c q z with
                | false =>
                  rw [hrel] at hB
                  clear hrel hr1'
                  go_wp2_with fail
                  go_quiet ((first | (go_at_call 34; exact hB.out _ _)))
                  go_wp2_with fail
                  go_ret
                  exact ⟨rfl, drn (HB13.out.trans (hb.mono hsb)) _⟩
                | true =>
                  rw [hrel] at hB
                  have hr2' := Lib.hid (show ∀ i, i + 1 < k + 1 → Odr.rel c (l.getD i 0).toNat (l.getD (i + 1) 0).toNat = true from fun i hi => by
                    rcases Nat.lt_or_ge (i + 1) k with h | h
                    · exact hr2.out i h
                    · obtain rfl : i = k - 1 := by omega
                      rw [HGP.out, show k - 1 + 1 = k by omega, HGK.out]; exact hrel)
                  clear hrel
                  go_wp2_with fail
                  go_quiet ((first | (go_at_call 34; exact hB.out _ _)))
                  go_wp2_with fail
                  go_roundw
                  case rel => exact ⟨k + 1, by omega, by go_num, hr1', hr2', drn hb _⟩
                  case measure => simp [intOf]; omega
              · have hk0' : decide (0 < k) = false := by simpa using hk0
                have hr2' := Lib.hid (show ∀ i, i + 1 < k + 1 → Odr.rel c (l.getD i 0).toNat (l.getD (i + 1) 0).toNat = true from fun i hi => absurd hi (by omega))
                go_wp2_with fail
                go_quiet (fail)
                go_wp2_with fail
                go_roundw
                case rel => exact ⟨k + 1, by omega, by go_num, hr1', hr2', drn hb _⟩
                case measure => simp [intOf]; omega
        · obtain rfl : k = l.length := by omega
          have hle := hfin.out hr1.out hr2.out
          go_wp2_with fail
          go_ret
          exact ⟨by simp, HB13.out.trans (hb.mono hsb)⟩

/-- the law at every input -/
theorem mirsky_calls (l p : List Int) (v u : Value) (w : World) (hr : Ints w w.heap.size v l) (hu : Ints w w.heap.size u p) (hT : Tab w) :
    Calls Tryd.prog 9 #[v, u] w fun e w' => e = .returned (.bool true) ∧ Below w.heap.size w w' := by
  by_cases h : orderCode l = 0
  · obtain ⟨m, rfl, hv⟩ := orderCode_zero h
    exact mirsky_ok m p v u w hr hu hv hT
  · exact mirsky_err l v u w hr h hT

end Go.Proofs.YtpicjikjinkkpaaDoor
