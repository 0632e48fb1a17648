/- The walk of the statement HistRow: at every input it returns true. Conditions: none. (Printed by wip/gen/hrowlaw.py.) -/
import Derived.Test.YtjmjifcaobkobaaHFact
import Derived.Test.YtjmjifcaobkobaaHGood
namespace Go.Proofs.Ytjmjifcaobkobaa
open Go.RowKit His

theorem lexLe_first : ∀ (r l : List Nat), LexLe r l → r.length = l.length → ∀ k, (∀ j, j < k → r.getD j 0 = l.getD j 0) → k < r.length → r.getD k 0 ≠ l.getD k 0 → r.getD k 0 < l.getD k 0 := by
  intro r
  induction r with
  | nil => intro l _ _ k _ hk; simp at hk
  | cons a r ih =>
    intro l hl hlen k hpre hk hne
    match l, hl, hlen with
    | b :: l, hl, hlen =>
      rcases hl with h | ⟨rfl, h⟩
      · match k with
        | 0 => simpa using h
        | k + 1 =>
          have := hpre 0 (by omega)
          simp at this
          omega
      · match k with
        | 0 => simp at hne
        | k + 1 =>
          have := ih l h (by simpa using hlen) k (fun j hj => by simpa using hpre (j + 1) (by omega)) (by simpa using hk) (by simpa using hne)
          simpa using this
theorem row_good {all : Bool} {h : List N6} {r : List Nat} (hr : rowOf all h = some r) : goodB all h (zs r) = true := by
  obtain ⟨h1, h2, _⟩ := from_some _ _ _ _ hr
  exact goodB_iff.2 ⟨r, rfl, h1, h2⟩
theorem good_row {all : Bool} {h : List N6} {row : List Int} (hg : goodB all h row = true) : (rowOf all h).isSome = true := by
  obtain ⟨l, rfl, h1, h2⟩ := goodB_iff.1 hg
  obtain ⟨r, hr⟩ := from_complete _ _ _ l h1 h2
  exact Option.isSome_iff_exists.2 ⟨r, hr⟩
/-- two lists of one length, out of simp's sight -/
structure Lens (l r : List Nat) (n : Nat) : Prop where
  a : l.length = n
  b : r.length = n
theorem row_least {h : List N6} {row : List Int} {r : List Nat} (hr : rowOf true h = some r) (hg : goodB true h row = true) : ∃ l : List Nat, row = zs l ∧ l.length = h.length ∧ r.length = h.length ∧ LexLe r l := by
  obtain ⟨l, rfl, h1, h2⟩ := goodB_iff.1 hg
  obtain ⟨g1, _, g3⟩ := from_some _ _ _ _ hr
  exact ⟨l, rfl, h1, g1, g3 l h1 h2⟩

set_option maxRecDepth 20000 in
set_option maxHeartbeats 2000000 in
theorem hrow_bad (h' : List Z6) (v rv : Value) (row : List Int) (w : World) (hr : Ops w w.heap.size v h') (hi : Ints w w.heap.size rv row) (hc : histCode h' ≠ 0) :
    Calls Try.prog 3 #[v, rv] w fun e w' => e = .returned (.bool true) ∧ Below w.heap.size w w' := by
  have hf := Lib.hid (histFact_calls w)
  have ha := Lib.hid fun (w1 : World) (hb : Below w.heap.size w w1) => atomic_bad h' v w1 ((Rd.below hr hb).more hb.size) hc
  have hw := Lib.hid fun (w1 : World) (hb : Below w.heap.size w w1) => weak_bad h' v w1 ((Rd.below hr hb).more hb.size) hc
  have HE : errv (histCode h') = .iface 57 (nv (histCode h')) := by unfold errv; rw [if_neg hc]
  rw [HE] at ha hw
  obtain ⟨A, cap, rfl⟩ := Rd.val hr
  obtain ⟨A2, cap2, rfl⟩ := Rd.val hi
  generalize histCode h' = c at *
  clear hr hi HE hc
  go_enter Try.func3, Try.ntmps3
  go_wp2_with fail
  (with_reducible refine hf.out.mono ?_)
  rintro e w1 ⟨rfl, hb1⟩
  clear hf
  go_wp2_with fail
  (with_reducible refine (ha.out _ hb1).mono ?_)
  rintro e w2 ⟨rfl, hb2⟩
  have hb12 := hb1.trans (hb2.mono hb1.size)
  clear ha
  go_wp2_with fail
  (with_reducible refine (hw.out _ hb12).mono ?_)
  rintro e w3 ⟨rfl, hb3⟩
  have hb13 := hb12.trans (hb3.mono hb12.size)
  clear hw
  go_wp2_with fail
  go_ret
  exact ⟨rfl, hb13⟩

set_option maxRecDepth 20000 in
set_option maxHeartbeats 8000000 in
theorem hrow_ok (h : List N6) (hh : Hok h) (v rv : Value) (row : List Int) (w : World) (hr : Ops w w.heap.size v (zops h)) (hi : Ints w w.heap.size rv row) :
    Calls Try.prog 3 #[v, rv] w fun e w' => e = .returned (.bool true) ∧ Below w.heap.size w w' := by
  have hf := Lib.hid (histFact_calls w)
  have ha := Lib.hid fun (w1 : World) (hb : Below w.heap.size w w1) => atomic_ok h hh v w1 ((Rd.below hr hb).more hb.size) (code_ok hh)
  have hw := Lib.hid fun (w1 : World) (hb : Below w.heap.size w w1) => weak_ok h hh v w1 ((Rd.below hr hb).more hb.size) (code_ok hh)
  have HGT := Lib.hid fun (w1 : World) (hb : Below w.heap.size w w1) => good_calls true h hh v rv row w1 ((Rd.below hr hb).more hb.size) ((Rd.below hi hb).more hb.size)
  have HGF := Lib.hid fun (w1 : World) (hb : Below w.heap.size w w1) => good_calls false h hh v rv row w1 ((Rd.below hr hb).more hb.size) ((Rd.below hi hb).more hb.size)
  have HGA := Lib.hid fun (all : Bool) (l : List Int) (lv : Value) (w1 : World) (hb : Below w.heap.size w w1) (hl : Ints w1 w1.heap.size lv l) => good_calls all h hh v lv l w1 ((Rd.below hr hb).more hb.size) hl
  obtain ⟨A, cap, rfl⟩ := Rd.val hr
  obtain ⟨A2, cap2, rfl⟩ := Rd.val hi
  have HI := Lib.hid hi
  have HRL := Lib.hid (Rd.le hi)
  have P1 := Lib.hid fun r => row_good (all := true) (h := h) (r := r)
  have P2 := Lib.hid fun r => row_good (all := false) (h := h) (r := r)
  have Q1 := Lib.hid (good_row (all := true) (h := h) (row := row))
  have Q2 := Lib.hid (good_row (all := false) (h := h) (row := row))
  have HLS := Lib.hid fun r => row_least (h := h) (row := row) (r := r)
  have HH10 := Lib.hid hh.len
  rw [length_zops] at *
  clear hr hi hh
  go_enter Try.func3, Try.ntmps3
  go_wp2_with fail
  (with_reducible refine hf.out.mono ?_)
  rintro e w1 ⟨rfl, hb1⟩
  clear hf
  go_wp2_with fail
  (with_reducible refine (ha.out _ hb1).mono ?_)
  rintro e w2 ⟨v2, rfl, hown2, hb2⟩
  have hb12 := hb1.trans (hb2.mono hb1.size)
  clear ha
  go_wp2_with fail
  (with_reducible refine (hw.out _ hb12).mono ?_)
  rintro e w3 ⟨v3, rfl, hown3, hb3⟩
  have hb13 := hb12.trans (hb3.mono hb12.size)
  have HO2 := Lib.hid (hown2.kept hb3)
  have HO3 := Lib.hid hown3
  have HB := Lib.hid hb13
  clear hw hown2 hown3 hb1 hb2 hb3 hb12 hb13
  generalize rowOf true h = R1 at *
  generalize rowOf false h = R2 at *
  generalize goodB true h row = g1 at *
  generalize goodB false h row = g2 at *
  cases R1 with
  | none =>
    have hg1 : g1 = false := by
      cases g1 with
      | false => rfl
      | true => have := Q1.out rfl; cases this
    subst hg1
    cases R2 with
    | none =>
      have hg2 : g2 = false := by
        cases g2 with
        | false => rfl
        | true => have := Q2.out rfl; cases this
      subst hg2
      have hB3 := HB.out
      have hK3 := Below.refl w3.heap.size w3
      go_wp2_with fail
      (with_reducible refine (HGT.out _ hB3).mono ?_)
      rintro e w6 ⟨rfl, hb6⟩
      have hB6 := hB3.trans (hb6.mono hB3.size)
      have hK6 := hK3.trans (hb6.mono hK3.size)
      clear hb6
      go_wp2_with fail
      (with_reducible refine (HGF.out _ hB6).mono ?_)
      rintro e w7 ⟨rfl, hb7⟩
      have hB7 := hB6.trans (hb7.mono hB6.size)
      have hK7 := hK6.trans (hb7.mono hK6.size)
      clear hb7
      go_wp2_with fail
      go_loopw [12] (fun i wr => i = nv 0 ∧ Below w.heap.size w wr) (fun _ _ => 0)
      case atStart => exact ⟨rfl, hB7⟩
      case round =>
        clear hB7
        obtain ⟨rfl, hb⟩ := hrel
        by_cases hl0 : 0 < row.length
        · have t3 : decide (0 < row.length) = true := by simpa using hl0
          clear hl0
          go_wp2_with fail
          go_ret
          exact ⟨rfl, hb⟩
        · have t3 : decide (0 < row.length) = false := by simpa using hl0
          clear hl0
          go_wp2_with fail
          go_ret
          exact ⟨rfl, hb⟩
    | some r2 =>
      cases g2 with
      | false =>
        have hB3 := HB.out
        have hK3 := Below.refl w3.heap.size w3
        have hg := HGA.out false (zs r2) v3 w3 HB.out HO3.out.ints
        rw [P2.out r2 rfl] at hg
        go_wp2_with fail
        (with_reducible refine (hg).mono ?_)
        rintro e w5 ⟨rfl, hb5⟩
        have hB5 := hB3.trans (hb5.mono hB3.size)
        have hK5 := hK3.trans (hb5.mono hK3.size)
        clear hb5
        clear hg
        go_wp2_with fail
        (with_reducible refine (HGT.out _ hB5).mono ?_)
        rintro e w6 ⟨rfl, hb6⟩
        have hB6 := hB5.trans (hb6.mono hB5.size)
        have hK6 := hK5.trans (hb6.mono hK5.size)
        clear hb6
        go_wp2_with fail
        (with_reducible refine (HGF.out _ hB6).mono ?_)
        rintro e w7 ⟨rfl, hb7⟩
        have hB7 := hB6.trans (hb7.mono hB6.size)
        have hK7 := hK6.trans (hb7.mono hK6.size)
        clear hb7
        go_wp2_with fail
        go_loopw [12] (fun i wr => i = nv 0 ∧ Below w.heap.size w wr) (fun _ _ => 0)
        case atStart => exact ⟨rfl, hB7⟩
        case round =>
          clear hB7
          obtain ⟨rfl, hb⟩ := hrel
          by_cases hl0 : 0 < row.length
          · have t3 : decide (0 < row.length) = true := by simpa using hl0
            clear hl0
            go_wp2_with fail
            go_ret
            exact ⟨rfl, hb⟩
          · have t3 : decide (0 < row.length) = false := by simpa using hl0
            clear hl0
            go_wp2_with fail
            go_ret
            exact ⟨rfl, hb⟩
      | true =>
        have hB3 := HB.out
        have hK3 := Below.refl w3.heap.size w3
        have hg := HGA.out false (zs r2) v3 w3 HB.out HO3.out.ints
        rw [P2.out r2 rfl] at hg
        go_wp2_with fail
        (with_reducible refine (hg).mono ?_)
        rintro e w5 ⟨rfl, hb5⟩
        have hB5 := hB3.trans (hb5.mono hB3.size)
        have hK5 := hK3.trans (hb5.mono hK3.size)
        clear hb5
        clear hg
        go_wp2_with fail
        (with_reducible refine (HGT.out _ hB5).mono ?_)
        rintro e w6 ⟨rfl, hb6⟩
        have hB6 := hB5.trans (hb6.mono hB5.size)
        have hK6 := hK5.trans (hb6.mono hK5.size)
        clear hb6
        go_wp2_with fail
        (with_reducible refine (HGF.out _ hB6).mono ?_)
        rintro e w7 ⟨rfl, hb7⟩
        have hB7 := hB6.trans (hb7.mono hB6.size)
        have hK7 := hK6.trans (hb7.mono hK6.size)
        clear hb7
        go_wp2_with fail
        go_loopw [12] (fun i wr => i = nv 0 ∧ Below w.heap.size w wr) (fun _ _ => 0)
        case atStart => exact ⟨rfl, hB7⟩
        case round =>
          clear hB7
          obtain ⟨rfl, hb⟩ := hrel
          by_cases hl0 : 0 < row.length
          · have t3 : decide (0 < row.length) = true := by simpa using hl0
            clear hl0
            go_wp2_with fail
            go_ret
            exact ⟨rfl, hb⟩
          · have t3 : decide (0 < row.length) = false := by simpa using hl0
            clear hl0
            go_wp2_with fail
            go_ret
            exact ⟨rfl, hb⟩
  | some r1 =>
    cases R2 with
    | none =>
      have hg2 : g2 = false := by
        cases g2 with
        | false => rfl
        | true => have := Q2.out rfl; cases this
      subst hg2
      cases g1 with
      | false =>
        have hB3 := HB.out
        have hK3 := Below.refl w3.heap.size w3
        have hg := HGA.out true (zs r1) _ w3 HB.out HO2.out.ints
        rw [P1.out r1 rfl] at hg
        go_wp2_with fail
        (with_reducible refine (hg).mono ?_)
        rintro e w4 ⟨rfl, hb4⟩
        have hB4 := hB3.trans (hb4.mono hB3.size)
        have hK4 := hK3.trans (hb4.mono hK3.size)
        clear hb4
        clear hg
        go_wp2_with fail
        (with_reducible refine (HGT.out _ hB4).mono ?_)
        rintro e w6 ⟨rfl, hb6⟩
        have hB6 := hB4.trans (hb6.mono hB4.size)
        have hK6 := hK4.trans (hb6.mono hK4.size)
        clear hb6
        go_wp2_with fail
        (with_reducible refine (HGF.out _ hB6).mono ?_)
        rintro e w7 ⟨rfl, hb7⟩
        have hB7 := hB6.trans (hb7.mono hB6.size)
        have hK7 := hK6.trans (hb7.mono hK6.size)
        clear hb7
        go_wp2_with fail
        go_loopw [12] (fun i wr => i = nv 0 ∧ Below w.heap.size w wr) (fun _ _ => 0)
        case atStart => exact ⟨rfl, hB7⟩
        case round =>
          clear hB7
          obtain ⟨rfl, hb⟩ := hrel
          by_cases hl0 : 0 < row.length
          · have t3 : decide (0 < row.length) = true := by simpa using hl0
            clear hl0
            go_wp2_with fail
            (with_reducible refine (HGT.out _ hb).mono ?_)
            rintro e w8 ⟨rfl, hb8⟩
            have hB8 := hb.trans (hb8.mono hb.size)
            go_wp2_with fail
            go_ret
            exact ⟨rfl, hB8⟩
          · have t3 : decide (0 < row.length) = false := by simpa using hl0
            clear hl0
            go_wp2_with fail
            go_ret
            exact ⟨rfl, hb⟩
      | true =>
        obtain ⟨l, rfl, hll, hrl, hle⟩ := HLS.out r1 rfl rfl
        have HLX := Lib.hid (lexLe_first r1 l hle (hrl.trans hll.symm))
        obtain ⟨A3, cap3, rfl⟩ := Rd.val HO2.out.ints
        have hl10 := HH10.out
        rw [length_zs] at *
        simp only [Option.getD_some] at HO2
        have HQ : Lens l r1 h.length := ⟨hll, hrl⟩
        have hzr : (zs ((some r1).getD [])).length = h.length := by simp [hrl]
        rw [hzr] at *
        rw [hrl] at *
        simp only [hll] at HGT HGF HI HRL ⊢
        clear hle hll hrl hzr HLS
        have hB3 := HB.out
        have hK3 := Below.refl w3.heap.size w3
        have hg := HGA.out true (zs r1) _ w3 HB.out HO2.out.ints
        rw [P1.out r1 rfl] at hg
        go_wp2_with fail
        (with_reducible refine (hg).mono ?_)
        rintro e w4 ⟨rfl, hb4⟩
        have hB4 := hB3.trans (hb4.mono hB3.size)
        have hK4 := hK3.trans (hb4.mono hK3.size)
        clear hb4
        clear hg
        go_wp2_with fail
        (with_reducible refine (HGT.out _ hB4).mono ?_)
        rintro e w6 ⟨rfl, hb6⟩
        have hB6 := hB4.trans (hb6.mono hB4.size)
        have hK6 := hK4.trans (hb6.mono hK4.size)
        clear hb6
        go_wp2_with fail
        (with_reducible refine (HGF.out _ hB6).mono ?_)
        rintro e w7 ⟨rfl, hb7⟩
        have hB7 := hB6.trans (hb7.mono hB6.size)
        have hK7 := hK6.trans (hb7.mono hK6.size)
        clear hb7
        go_wp2_with fail
        have HK7 := Lib.hid hK7
        go_loopw [12] (fun i wr => ∃ k : Nat, k ≤ h.length ∧ i = nv k ∧ Hid (∀ j, j < k → r1.getD j 0 = l.getD j 0) ∧ Below w.heap.size w wr ∧ Hid (Below w3.heap.size w3 wr)) (fun i _ => h.length - (intOf i).toNat)
        case atStart => exact ⟨0, Nat.zero_le _, rfl, Lib.hid (fun j hj => by omega), hB7, Lib.hid HK7.out⟩
        case round =>
          clear hB7
          obtain ⟨k, hk, rfl, hpre, hb, hk3⟩ := hrel
          by_cases hkl : k < h.length
          · have t3 : decide (k < h.length) = true := by simpa using hkl
            have HNX := Lib.hid (HLX.out k hpre.out hkl)
            have HNP := Lib.hid fun (he : r1.getD k 0 = l.getD k 0) => show ∀ j, j < k + 1 → r1.getD j 0 = l.getD j 0 from fun j hj => by
              by_cases e : j = k
              · subst e; exact he
              · exact hpre.out j (by omega)
            go_wp2_with fail
            (with_reducible refine (HGT.out _ hb).mono ?_)
            rintro e w8 ⟨rfl, hb8⟩
            have hB8 := hb.trans (hb8.mono hb.size)
            have hK8 := Lib.hid (hk3.out.trans (hb8.mono hk3.out.size))
            obtain ⟨b1, o1, c1, he1, hbb1, e1⟩ := Ints.atN (Rd.below HI.out hB8) (k := k) (by rw [HQ.a]; exact hkl)
            rw [HQ.a] at he1
            cases he1
            obtain ⟨b2, o2, c2, he2, hbb2, e2⟩ := Ints.atN (HO2.out.kept hK8.out).ints (k := k) (by rw [HQ.b]; exact hkl)
            rw [HQ.b] at he2
            cases he2
            clear hb8 t3
            generalize l.getD k 0 = x at *
            generalize r1.getD k 0 = y at *
            by_cases hxy : y = x
            · have HNP := Lib.hid (HNP.out hxy)
              have t4 : ((x : Int) != (y : Int)) = false := by simp; omega
              clear hxy HNX
              go_wp2_with fail
              go_quiet (fail)
              go_wp2_with fail
              go_roundw
              case rel => exact ⟨k + 1, by omega, by go_num, Lib.hid HNP.out, drn hB8 _, Lib.hid (drn hK8.out _)⟩
              case measure => simp [intOf]; omega
            · have hlt := HNX.out hxy
              have t4 : ((x : Int) != (y : Int)) = true := by simp; omega
              have t5 : decide (y < x) = true := by simpa using hlt
              clear hxy HNX HNP hlt
              go_wp2_with fail
              go_quiet (fail)
              go_wp2_with fail
              go_quiet (fail)
              go_wp2_with fail
              go_ret
              exact ⟨rfl, drn (drn hB8 _) _⟩
          · obtain rfl : k = h.length := by omega
            clear hkl
            go_wp2_with fail
            go_ret
            exact ⟨rfl, hb⟩
    | some r2 =>
      cases g1 with
      | false =>
        cases g2 with
        | false =>
          have hB3 := HB.out
          have hK3 := Below.refl w3.heap.size w3
          have hg := HGA.out true (zs r1) _ w3 HB.out HO2.out.ints
          rw [P1.out r1 rfl] at hg
          go_wp2_with fail
          (with_reducible refine (hg).mono ?_)
          rintro e w4 ⟨rfl, hb4⟩
          have hk4 := hb4
          have hB4 := hB3.trans (hb4.mono hB3.size)
          have hK4 := hK3.trans (hb4.mono hK3.size)
          clear hb4
          clear hg
          have hg := HGA.out false (zs r2) v3 w4 hB4 (HO3.out.kept hK4).ints
          rw [P2.out r2 rfl] at hg
          go_wp2_with fail
          (with_reducible refine (hg).mono ?_)
          rintro e w5 ⟨rfl, hb5⟩
          have hB5 := hB4.trans (hb5.mono hB4.size)
          have hK5 := hK4.trans (hb5.mono hK4.size)
          clear hb5
          clear hg
          go_wp2_with fail
          (with_reducible refine (HGT.out _ hB5).mono ?_)
          rintro e w6 ⟨rfl, hb6⟩
          have hB6 := hB5.trans (hb6.mono hB5.size)
          have hK6 := hK5.trans (hb6.mono hK5.size)
          clear hb6
          go_wp2_with fail
          (with_reducible refine (HGF.out _ hB6).mono ?_)
          rintro e w7 ⟨rfl, hb7⟩
          have hB7 := hB6.trans (hb7.mono hB6.size)
          have hK7 := hK6.trans (hb7.mono hK6.size)
          clear hb7
          go_wp2_with fail
          go_loopw [12] (fun i wr => i = nv 0 ∧ Below w.heap.size w wr) (fun _ _ => 0)
          case atStart => exact ⟨rfl, hB7⟩
          case round =>
            clear hB7
            obtain ⟨rfl, hb⟩ := hrel
            by_cases hl0 : 0 < row.length
            · have t3 : decide (0 < row.length) = true := by simpa using hl0
              clear hl0
              go_wp2_with fail
              (with_reducible refine (HGT.out _ hb).mono ?_)
              rintro e w8 ⟨rfl, hb8⟩
              have hB8 := hb.trans (hb8.mono hb.size)
              go_wp2_with fail
              go_ret
              exact ⟨rfl, hB8⟩
            · have t3 : decide (0 < row.length) = false := by simpa using hl0
              clear hl0
              go_wp2_with fail
              go_ret
              exact ⟨rfl, hb⟩
        | true =>
          have hB3 := HB.out
          have hK3 := Below.refl w3.heap.size w3
          have hg := HGA.out true (zs r1) _ w3 HB.out HO2.out.ints
          rw [P1.out r1 rfl] at hg
          go_wp2_with fail
          (with_reducible refine (hg).mono ?_)
          rintro e w4 ⟨rfl, hb4⟩
          have hk4 := hb4
          have hB4 := hB3.trans (hb4.mono hB3.size)
          have hK4 := hK3.trans (hb4.mono hK3.size)
          clear hb4
          clear hg
          have hg := HGA.out false (zs r2) v3 w4 hB4 (HO3.out.kept hK4).ints
          rw [P2.out r2 rfl] at hg
          go_wp2_with fail
          (with_reducible refine (hg).mono ?_)
          rintro e w5 ⟨rfl, hb5⟩
          have hB5 := hB4.trans (hb5.mono hB4.size)
          have hK5 := hK4.trans (hb5.mono hK4.size)
          clear hb5
          clear hg
          go_wp2_with fail
          (with_reducible refine (HGT.out _ hB5).mono ?_)
          rintro e w6 ⟨rfl, hb6⟩
          have hB6 := hB5.trans (hb6.mono hB5.size)
          have hK6 := hK5.trans (hb6.mono hK5.size)
          clear hb6
          go_wp2_with fail
          (with_reducible refine (HGF.out _ hB6).mono ?_)
          rintro e w7 ⟨rfl, hb7⟩
          have hB7 := hB6.trans (hb7.mono hB6.size)
          have hK7 := hK6.trans (hb7.mono hK6.size)
          clear hb7
          go_wp2_with fail
          go_loopw [12] (fun i wr => i = nv 0 ∧ Below w.heap.size w wr) (fun _ _ => 0)
          case atStart => exact ⟨rfl, hB7⟩
          case round =>
            clear hB7
            obtain ⟨rfl, hb⟩ := hrel
            by_cases hl0 : 0 < row.length
            · have t3 : decide (0 < row.length) = true := by simpa using hl0
              clear hl0
              go_wp2_with fail
              (with_reducible refine (HGT.out _ hb).mono ?_)
              rintro e w8 ⟨rfl, hb8⟩
              have hB8 := hb.trans (hb8.mono hb.size)
              go_wp2_with fail
              go_ret
              exact ⟨rfl, hB8⟩
            · have t3 : decide (0 < row.length) = false := by simpa using hl0
              clear hl0
              go_wp2_with fail
              go_ret
              exact ⟨rfl, hb⟩
      | true =>
        cases g2 with
        | false =>
          obtain ⟨l, rfl, hll, hrl, hle⟩ := HLS.out r1 rfl rfl
          have HLX := Lib.hid (lexLe_first r1 l hle (hrl.trans hll.symm))
          obtain ⟨A3, cap3, rfl⟩ := Rd.val HO2.out.ints
          have hl10 := HH10.out
          rw [length_zs] at *
          simp only [Option.getD_some] at HO2
          have HQ : Lens l r1 h.length := ⟨hll, hrl⟩
          have hzr : (zs ((some r1).getD [])).length = h.length := by simp [hrl]
          rw [hzr] at *
          rw [hrl] at *
          simp only [hll] at HGT HGF HI HRL ⊢
          clear hle hll hrl hzr HLS
          have hB3 := HB.out
          have hK3 := Below.refl w3.heap.size w3
          have hg := HGA.out true (zs r1) _ w3 HB.out HO2.out.ints
          rw [P1.out r1 rfl] at hg
          go_wp2_with fail
          (with_reducible refine (hg).mono ?_)
          rintro e w4 ⟨rfl, hb4⟩
          have hk4 := hb4
          have hB4 := hB3.trans (hb4.mono hB3.size)
          have hK4 := hK3.trans (hb4.mono hK3.size)
          clear hb4
          clear hg
          have hg := HGA.out false (zs r2) v3 w4 hB4 (HO3.out.kept hK4).ints
          rw [P2.out r2 rfl] at hg
          go_wp2_with fail
          (with_reducible refine (hg).mono ?_)
          rintro e w5 ⟨rfl, hb5⟩
          have hB5 := hB4.trans (hb5.mono hB4.size)
          have hK5 := hK4.trans (hb5.mono hK4.size)
          clear hb5
          clear hg
          go_wp2_with fail
          (with_reducible refine (HGT.out _ hB5).mono ?_)
          rintro e w6 ⟨rfl, hb6⟩
          have hB6 := hB5.trans (hb6.mono hB5.size)
          have hK6 := hK5.trans (hb6.mono hK5.size)
          clear hb6
          go_wp2_with fail
          (with_reducible refine (HGF.out _ hB6).mono ?_)
          rintro e w7 ⟨rfl, hb7⟩
          have hB7 := hB6.trans (hb7.mono hB6.size)
          have hK7 := hK6.trans (hb7.mono hK6.size)
          clear hb7
          go_wp2_with fail
          have HK7 := Lib.hid hK7
          go_loopw [12] (fun i wr => ∃ k : Nat, k ≤ h.length ∧ i = nv k ∧ Hid (∀ j, j < k → r1.getD j 0 = l.getD j 0) ∧ Below w.heap.size w wr ∧ Hid (Below w3.heap.size w3 wr)) (fun i _ => h.length - (intOf i).toNat)
          case atStart => exact ⟨0, Nat.zero_le _, rfl, Lib.hid (fun j hj => by omega), hB7, Lib.hid HK7.out⟩
          case round =>
            clear hB7
            obtain ⟨k, hk, rfl, hpre, hb, hk3⟩ := hrel
            by_cases hkl : k < h.length
            · have t3 : decide (k < h.length) = true := by simpa using hkl
              have HNX := Lib.hid (HLX.out k hpre.out hkl)
              have HNP := Lib.hid fun (he : r1.getD k 0 = l.getD k 0) => show ∀ j, j < k + 1 → r1.getD j 0 = l.getD j 0 from fun j hj => by
                by_cases e : j = k
                · subst e; exact he
                · exact hpre.out j (by omega)
              go_wp2_with fail
              (with_reducible refine (HGT.out _ hb).mono ?_)
              rintro e w8 ⟨rfl, hb8⟩
              have hB8 := hb.trans (hb8.mono hb.size)
              have hK8 := Lib.hid (hk3.out.trans (hb8.mono hk3.out.size))
              obtain ⟨b1, o1, c1, he1, hbb1, e1⟩ := Ints.atN (Rd.below HI.out hB8) (k := k) (by rw [HQ.a]; exact hkl)
              rw [HQ.a] at he1
              cases he1
              obtain ⟨b2, o2, c2, he2, hbb2, e2⟩ := Ints.atN (HO2.out.kept hK8.out).ints (k := k) (by rw [HQ.b]; exact hkl)
              rw [HQ.b] at he2
              cases he2
              clear hb8 t3
              generalize l.getD k 0 = x at *
              generalize r1.getD k 0 = y at *
              by_cases hxy : y = x
              · have HNP := Lib.hid (HNP.out hxy)
                have t4 : ((x : Int) != (y : Int)) = false := by simp; omega
                clear hxy HNX
                go_wp2_with fail
                go_quiet (fail)
                go_wp2_with fail
                go_roundw
                case rel => exact ⟨k + 1, by omega, by go_num, Lib.hid HNP.out, drn hB8 _, Lib.hid (drn hK8.out _)⟩
                case measure => simp [intOf]; omega
              · have hlt := HNX.out hxy
                have t4 : ((x : Int) != (y : Int)) = true := by simp; omega
                have t5 : decide (y < x) = true := by simpa using hlt
                clear hxy HNX HNP hlt
                go_wp2_with fail
                go_quiet (fail)
                go_wp2_with fail
                go_quiet (fail)
                go_wp2_with fail
                go_ret
                exact ⟨rfl, drn (drn hB8 _) _⟩
            · obtain rfl : k = h.length := by omega
              clear hkl
              go_wp2_with fail
              go_ret
              exact ⟨rfl, hb⟩
        | true =>
          obtain ⟨l, rfl, hll, hrl, hle⟩ := HLS.out r1 rfl rfl
          have HLX := Lib.hid (lexLe_first r1 l hle (hrl.trans hll.symm))
          obtain ⟨A3, cap3, rfl⟩ := Rd.val HO2.out.ints
          have hl10 := HH10.out
          rw [length_zs] at *
          simp only [Option.getD_some] at HO2
          have HQ : Lens l r1 h.length := ⟨hll, hrl⟩
          have hzr : (zs ((some r1).getD [])).length = h.length := by simp [hrl]
          rw [hzr] at *
          rw [hrl] at *
          simp only [hll] at HGT HGF HI HRL ⊢
          clear hle hll hrl hzr HLS
          have hB3 := HB.out
          have hK3 := Below.refl w3.heap.size w3
          have hg := HGA.out true (zs r1) _ w3 HB.out HO2.out.ints
          rw [P1.out r1 rfl] at hg
          go_wp2_with fail
          (with_reducible refine (hg).mono ?_)
          rintro e w4 ⟨rfl, hb4⟩
          have hk4 := hb4
          have hB4 := hB3.trans (hb4.mono hB3.size)
          have hK4 := hK3.trans (hb4.mono hK3.size)
          clear hb4
          clear hg
          have hg := HGA.out false (zs r2) v3 w4 hB4 (HO3.out.kept hK4).ints
          rw [P2.out r2 rfl] at hg
          go_wp2_with fail
          (with_reducible refine (hg).mono ?_)
          rintro e w5 ⟨rfl, hb5⟩
          have hB5 := hB4.trans (hb5.mono hB4.size)
          have hK5 := hK4.trans (hb5.mono hK4.size)
          clear hb5
          clear hg
          go_wp2_with fail
          (with_reducible refine (HGT.out _ hB5).mono ?_)
          rintro e w6 ⟨rfl, hb6⟩
          have hB6 := hB5.trans (hb6.mono hB5.size)
          have hK6 := hK5.trans (hb6.mono hK5.size)
          clear hb6
          go_wp2_with fail
          (with_reducible refine (HGF.out _ hB6).mono ?_)
          rintro e w7 ⟨rfl, hb7⟩
          have hB7 := hB6.trans (hb7.mono hB6.size)
          have hK7 := hK6.trans (hb7.mono hK6.size)
          clear hb7
          go_wp2_with fail
          have HK7 := Lib.hid hK7
          go_loopw [12] (fun i wr => ∃ k : Nat, k ≤ h.length ∧ i = nv k ∧ Hid (∀ j, j < k → r1.getD j 0 = l.getD j 0) ∧ Below w.heap.size w wr ∧ Hid (Below w3.heap.size w3 wr)) (fun i _ => h.length - (intOf i).toNat)
          case atStart => exact ⟨0, Nat.zero_le _, rfl, Lib.hid (fun j hj => by omega), hB7, Lib.hid HK7.out⟩
          case round =>
            clear hB7
            obtain ⟨k, hk, rfl, hpre, hb, hk3⟩ := hrel
            by_cases hkl : k < h.length
            · have t3 : decide (k < h.length) = true := by simpa using hkl
              have HNX := Lib.hid (HLX.out k hpre.out hkl)
              have HNP := Lib.hid fun (he : r1.getD k 0 = l.getD k 0) => show ∀ j, j < k + 1 → r1.getD j 0 = l.getD j 0 from fun j hj => by
                by_cases e : j = k
                · subst e; exact he
                · exact hpre.out j (by omega)
              go_wp2_with fail
              (with_reducible refine (HGT.out _ hb).mono ?_)
              rintro e w8 ⟨rfl, hb8⟩
              have hB8 := hb.trans (hb8.mono hb.size)
              have hK8 := Lib.hid (hk3.out.trans (hb8.mono hk3.out.size))
              obtain ⟨b1, o1, c1, he1, hbb1, e1⟩ := Ints.atN (Rd.below HI.out hB8) (k := k) (by rw [HQ.a]; exact hkl)
              rw [HQ.a] at he1
              cases he1
              obtain ⟨b2, o2, c2, he2, hbb2, e2⟩ := Ints.atN (HO2.out.kept hK8.out).ints (k := k) (by rw [HQ.b]; exact hkl)
              rw [HQ.b] at he2
              cases he2
              clear hb8 t3
              generalize l.getD k 0 = x at *
              generalize r1.getD k 0 = y at *
              by_cases hxy : y = x
              · have HNP := Lib.hid (HNP.out hxy)
                have t4 : ((x : Int) != (y : Int)) = false := by simp; omega
                clear hxy HNX
                go_wp2_with fail
                go_quiet (fail)
                go_wp2_with fail
                go_roundw
                case rel => exact ⟨k + 1, by omega, by go_num, Lib.hid HNP.out, drn hB8 _, Lib.hid (drn hK8.out _)⟩
                case measure => simp [intOf]; omega
              · have hlt := HNX.out hxy
                have t4 : ((x : Int) != (y : Int)) = true := by simp; omega
                have t5 : decide (y < x) = true := by simpa using hlt
                clear hxy HNX HNP hlt
                go_wp2_with fail
                go_quiet (fail)
                go_wp2_with fail
                go_quiet (fail)
                go_wp2_with fail
                go_ret
                exact ⟨rfl, drn (drn hB8 _) _⟩
            · obtain rfl : k = h.length := by omega
              clear hkl
              go_wp2_with fail
              go_ret
              exact ⟨rfl, hb⟩
/-- the law at every input -/
theorem hrow_calls (v rv : Value) (recs : List (List Int)) (row : List Int) (w : World) (hr : Rd w w.heap.size 6 v recs.length (recs.flatMap fun r => r.map iv)) (hl : ∀ r ∈ recs, r.length = 6) (hi : Ints w w.heap.size rv row) :
    Calls Try.prog 3 #[v, rv] w fun e w' => e = .returned (.bool true) ∧ Below w.heap.size w w' := by
  obtain ⟨s, hs⟩ := ops_of_recs hr hl
  by_cases hc : histCode s = 0
  · obtain ⟨h, rfl, hh⟩ := ops_ok hc
    exact hrow_ok h hh v rv row w hs hi
  · exact hrow_bad s v rv row w hs hi hc
end Go.Proofs.Ytjmjifcaobkobaa
