/- The statement's own 'good': is a row one in which each reads what was written last, and which keeps what must stand ahead? Conditions: the contract's own premises. -/
import Derived.Test.YtjmjifcaobkobaaHRow
namespace Go.Proofs.Ytjmjifcaobkobaa
open Go.RowKit His

/-- may op i be done next? -/
def gok (all : Bool) (h : List N6) (i : Int) (s : Nat) (v : List Nat) : Bool := decide (0 ≤ i) && (decide (i < h.length) && okStep h (pres all h) s v i.toNat)
def goodRun (all : Bool) (h : List N6) : List Int → Nat → List Nat → Bool
  | [], _, _ => true
  | i :: l, s, v => gok all h i s v && goodRun all h l (s ||| 2 ^ i.toNat) (after h v i.toNat)
def goodB (all : Bool) (h : List N6) (row : List Int) : Bool := decide (row.length = h.length) && goodRun all h row 0 [0, 0, 0]
theorem goodRun_iff {all : Bool} {h : List N6} : ∀ (row : List Int) (s : Nat) (v : List Nat), goodRun all h row s v = true ↔ ∃ l : List Nat, row = zs l ∧ GoodFrom h (pres all h) l s v := by
  intro row
  induction row with
  | nil => intro s v; exact ⟨fun _ => ⟨[], rfl, trivial⟩, fun _ => rfl⟩
  | cons i row ih =>
    intro s v
    rw [goodRun, Bool.and_eq_true, ih]
    unfold gok
    constructor
    · rintro ⟨h1, l, rfl, h2⟩
      simp only [Bool.and_eq_true, decide_eq_true_eq] at h1
      refine ⟨i.toNat :: l, ?_, by omega, h1.2.2, h2⟩
      show i :: zs l = ((i.toNat : Nat) : Int) :: zs l
      rw [Int.toNat_of_nonneg h1.1]
    · rintro ⟨l, hl, hg⟩
      match l, hl, hg with
      | k :: l, hl, hg =>
        have e : zs (k :: l) = (k : Int) :: zs l := rfl
        rw [e] at hl
        injection hl with h1 h2
        subst h1
        obtain ⟨g1, g2, g3⟩ := hg
        refine ⟨?_, l, h2, by simpa using g3⟩
        simp only [Bool.and_eq_true, decide_eq_true_eq, Int.toNat_natCast]
        exact ⟨by omega, by omega, g2⟩
theorem goodB_iff {all : Bool} {h : List N6} {row : List Int} : goodB all h row = true ↔ ∃ l : List Nat, row = zs l ∧ l.length = h.length ∧ GoodFrom h (pres all h) l 0 [0, 0, 0] := by
  unfold goodB
  rw [Bool.and_eq_true, goodRun_iff]
  constructor
  · rintro ⟨h1, l, rfl, h2⟩
    exact ⟨l, rfl, by simpa using h1, h2⟩
  · rintro ⟨l, rfl, h1, h2⟩
    exact ⟨by simpa using h1, l, rfl, h2⟩
theorem goodRun_no {all : Bool} {h : List N6} {i : Int} {l : List Int} {s : Nat} {v : List Nat} (hi : gok all h i s v = false) : goodRun all h (i :: l) s v = false := by rw [goodRun, hi]; rfl
theorem goodRun_go {all : Bool} {h : List N6} {i : Int} {l : List Int} {s : Nat} {v : List Nat} (hi : gok all h i s v = true) : goodRun all h (i :: l) s v = goodRun all h l (s ||| 2 ^ i.toNat) (after h v i.toNat) := by rw [goodRun, hi]; rfl
theorem gok_step {all : Bool} {h : List N6} {k s : Nat} {v : List Nat} (hk : k < h.length) : gok all h (k : Int) s v = okStep h (pres all h) s v k := by
  unfold gok
  have : decide ((k : Int) < (h.length : Int)) = true := by simp; omega
  simp [hk]
/-- an op that must stand ahead does not -/
theorem ok_behind {all : Bool} {h : List N6} {k j s : Nat} {v : List Nat} (hk : k < h.length) (hj : j < h.length) (ha : aheadB all (opAt h j) (opAt h k) = true) (hs : s.testBit j = false) : okStep h (pres all h) s v k = false := by
  cases e : okStep h (pres all h) s v k with
  | false => rfl
  | true =>
    have := (okStep_iff.1 e).2.1 j (by rw [pres_bit, ha]; simp [hk, hj])
    rw [hs] at this; cases this
theorem ok_value {all : Bool} {h : List N6} {k s : Nat} {v : List Nat} (h1 : His.wr (opAt h k) = 0) (h2 : v.getD (ob (opAt h k)) 0 ≠ vl (opAt h k)) : okStep h (pres all h) s v k = false := by
  cases e : okStep h (pres all h) s v k with
  | false => rfl
  | true =>
    rcases (okStep_iff.1 e).2.2 with g | g
    · rw [h1] at g; cases g
    · exact absurd g h2
theorem ok_all {all : Bool} {h : List N6} {k s : Nat} {v : List Nat} (h1 : s.testBit k = false) (h2 : ∀ j, j < h.length → aheadB all (opAt h j) (opAt h k) = true → s.testBit j = true) (h3 : His.wr (opAt h k) = 1 ∨ v.getD (ob (opAt h k)) 0 = vl (opAt h k)) : okStep h (pres all h) s v k = true :=
  okStep_iff.2 ⟨h1, fun j hj => by
    rw [pres_bit] at hj
    simp only [Bool.and_eq_true, decide_eq_true_eq] at hj
    exact h2 j hj.2.1 hj.2.2, h3⟩
theorem and_add_or (a b : Nat) : (a &&& b) + (a ||| b) = a + b := by
  induction a using Nat.strongRecOn generalizing b with
  | ind a ih =>
    by_cases h0 : a = 0
    · subst h0; simp
    · have := ih (a / 2) (by omega) (b / 2)
      have e1 : (a &&& b) / 2 = a / 2 &&& b / 2 := Nat.and_div_two
      have e2 : (a ||| b) / 2 = a / 2 ||| b / 2 := Nat.or_div_two
      have m1 : (a &&& b) % 2 = 1 ↔ a % 2 = 1 ∧ b % 2 = 1 := Nat.and_mod_two_eq_one
      have m2 : (a ||| b) % 2 = 1 ↔ a % 2 = 1 ∨ b % 2 = 1 := Nat.or_mod_two_eq_one
      omega
theorem or_bit {s i : Nat} (h : s.testBit i = false) : s ||| 2 ^ i = s + 2 ^ i := by
  have h0 : s &&& 2 ^ i = 0 := by
    apply Nat.eq_of_testBit_eq
    intro k
    rw [Nat.testBit_and, Nat.zero_testBit, Nat.testBit_two_pow]
    by_cases hk : i = k
    · subst hk; simp [h]
    · simp [hk]
  have := and_add_or s (2 ^ i)
  omega

theorem bitH (s i : Nat) (w : World) (hs : s < 4096) (hi : i < 64) : Calls Try.prog 17 #[nv s, nv i] w fun e w' => e = .returned (.bool (s.testBit i)) ∧ w = w' :=
  bit_calls s i w (by omega) (by omega)
theorem bitqH (s i n : Nat) (w : World) (hs : s < 4096) (hi : i < 64) : Calls Try.prog 17 #[nv s, nv i] (w.drewN n) fun e w'' => e = .returned (.bool (s.testBit i)) ∧ ∃ m, w'' = w.drewN m :=
  Calls.quiet_of_same ((bitH s i (w.drewN n) hs hi).mono fun _ _ ⟨a, b⟩ => ⟨a, b.symm⟩)

def vcell (v : List Nat) (j : Nat) : Value := nv (v.getD j 0)

set_option maxRecDepth 20000 in
set_option maxHeartbeats 4000000 in
theorem good_calls (all : Bool) (h : List N6) (hh : Hok h) (hv rv : Value) (row : List Int) (w : World) (hr : Ops w w.heap.size hv (zops h)) (hi : Ints w w.heap.size rv row) :
    Calls Try.prog 10 #[hv, rv, .bool all] w fun e w' => e = .returned (.bool (goodB all h row)) ∧ Below w.heap.size w w' := by
  obtain ⟨A, cap, rfl⟩ := Rd.val hr
  obtain ⟨A2, cap2, rfl⟩ := Rd.val hi
  have HR := Lib.hid hr
  have HI := Lib.hid hi
  have HH := Lib.hid hh
  have HL := Lib.hid hh.len
  have hl10 := hh.len
  rw [length_zops] at *
  clear hr hi hh
  by_cases hlen : row.length = h.length
  · have HG := Lib.hid (show goodB all h row = goodRun all h row 0 [0, 0, 0] by unfold goodB; simp [hlen])
    rw [HG.out]
    generalize hRES : goodRun all h row 0 [0, 0, 0] = RES at *
    have HRES := Lib.hid hRES
    have HLEN := Lib.hid hlen
    rw [hlen]
    clear hRES hlen HG
    go_enter Try.func10, Try.ntmps10
    go_wp2_with fail
    go_loopw [8, 9] (fun sv i wr => ∃ (k s : Nat) (v : List Nat), k ≤ h.length ∧ i = nv k ∧ sv = nv s ∧ s < 2 ^ h.length ∧ Hid (v.length = 3 ∧ (∀ j, v.getD j 0 ≤ 1000000) ∧ goodRun all h (row.drop k) s v = RES) ∧
        Hid (wr.rowIs w.heap.size 44 3 (vcell v)) ∧ Below w.heap.size w wr) (fun _ i _ => h.length - (intOf i).toNat)
    case atStart => exact ⟨0, 0, [0, 0, 0], Nat.zero_le _, rfl, rfl, Nat.two_pow_pos _, Lib.hid ⟨rfl, fun j => by (match j with | 0 => decide | 1 => decide | 2 => decide | j + 3 => exact Nat.zero_le _), HRES.out⟩, Lib.hid ⟨#[nv 0, nv 0, nv 0], (MapKept.heap_alloc w _).1, rfl, fun j hj => by (match j, hj with | 0, _ => rfl | 1, _ => rfl | 2, _ => rfl)⟩, (Below.refl _ _).alloc (Nat.le_refl _) _⟩
    case round =>
      obtain ⟨k, s, v, hk, rfl, rfl, hs, hinv, hrow, hb⟩ := hrel
      have hsz := hb.size
      have hs12 : s < 4096 := Nat.lt_of_lt_of_le hs (Nat.le_trans (Nat.pow_le_pow_right (by decide) hl10) (by decide))
      by_cases hkl : k < h.length
      · have hkr : k < row.length := by rw [HLEN.out]; exact hkl
        obtain ⟨bi, oi, ci, he, hbi, e0⟩ := Ints.at_ (Rd.below HI.out hb) hkr
        rw [HLEN.out] at he
        cases he
        have HD := Lib.hid (List.drop_eq_getElem_cons hkr)
        generalize row[k] = x at *
        have HNO := Lib.hid fun (hg : gok all h x s v = false) => show RES = false by
          have := hinv.out.2.2
          rw [HD.out, goodRun_no hg] at this
          exact this.symm
        have HGO := Lib.hid fun (hg : gok all h x s v = true) => show goodRun all h (row.drop (k + 1)) (s ||| 2 ^ x.toNat) (after h v x.toNat) = RES by
          have := hinv.out.2.2
          rw [HD.out, goodRun_go hg] at this
          exact this
        by_cases hx0 : 0 ≤ x
        · by_cases hxl : x < h.length
          · obtain ⟨y, rfl⟩ : ∃ y : Nat, x = (y : Int) := ⟨x.toNat, by omega⟩
            have hyl : y < h.length := by omega
            clear hx0 hxl
            rw [gok_step hyl] at HNO HGO
            simp only [Int.toNat_natCast] at HGO
            have hbit := Lib.hid fun w5 : World => bitH s y w5 hs12 (by omega)
            by_cases hby : s.testBit y = true
            · have HE := Lib.hid (HNO.out (by
                cases e : okStep h (pres all h) s v y with
                | false => rfl
                | true => have := (okStep_iff.1 e).1; rw [hby] at this; cases this))
              rw [hby] at hbit
              have t1 : decide ((y : Int) < 0) = false := by simp
              have t2 : decide ((h.length : Int) ≤ (y : Int)) = false := by simp; omega
              clear hby HNO HGO
              go_wp2_with (go_at_call 17; refine (hbit.out _).mono ?_; rintro e w' ⟨rfl, rfl⟩)
              go_ret
              exact ⟨by rw [HE.out]; rfl, hb⟩
            · have hby' : s.testBit y = false := by simpa using hby
              have HBY := Lib.hid hby'
              rw [hby'] at hbit
              have t1 : decide ((y : Int) < 0) = false := by simp
              have t2 : decide ((h.length : Int) ≤ (y : Int)) = false := by simp; omega
              clear hby hby'
              go_wp2_with (go_at_call 17; refine (hbit.out _).mono ?_; rintro e w' ⟨rfl, rfl⟩)
              clear e0 hbit t1 t2
              go_loopw [11] (fun jv wr => ∃ j : Nat, j ≤ h.length ∧ jv = nv j ∧ Hid (∀ i, i < j → aheadB all (opAt h i) (opAt h y) = true → s.testBit i = true) ∧ Hid (wr.rowIs w.heap.size 44 3 (vcell v)) ∧ Below w.heap.size w wr) (fun jv _ => h.length - (intOf jv).toNat)
              case atStart => exact ⟨0, Nat.zero_le _, rfl, Lib.hid (fun i hi => by omega), Lib.hid hrow.out, hb⟩
              case round =>
                clear hrow hb hsz
                obtain ⟨j, hj, rfl, hall, hrow, hb⟩ := hrel
                have hsz := hb.size
                obtain ⟨b, off, cap3, he, hbb, c0, c1, c2, c3, c4, c5⟩ := Ops.atN (Rd.below HR.out hb) hyl
                cases he
                have HYR := Lib.hid (HH.out.rng _ (opAt_mem hyl))
                have HV := Lib.hid (ok_value (all := all) (h := h) (k := y) (s := s) (v := v))
                have HA := Lib.hid (ok_all (all := all) (h := h) (k := y) (s := s) (v := v) HBY.out)
                by_cases hjl : j < h.length
                · obtain ⟨b2, off2, cap4, he, hbb2, d0, d1, d2, d3, d4, d5⟩ := Ops.atN (Rd.below HR.out hb) hjl
                  cases he
                  have HAD := Lib.hid (show aheadB all (opAt h j) (opAt h y) = (decide (tt (opAt h j) ≤ fr (opAt h y)) && (all || decide (pr (opAt h j) = pr (opAt h y)))) from rfl)
                  have HB2 := Lib.hid fun (ha : aheadB all (opAt h j) (opAt h y) = true) (hz : s.testBit j = false) => HNO.out (ok_behind hyl hjl ha hz)
                  have HALL := Lib.hid fun (hx : aheadB all (opAt h j) (opAt h y) = true → s.testBit j = true) => show ∀ i, i < j + 1 → aheadB all (opAt h i) (opAt h y) = true → s.testBit i = true from fun i hi => by
                    by_cases e : i = j
                    · subst e; exact hx
                    · exact hall.out i (by omega)
                  generalize opAt h j = oj at *
                  obtain ⟨j0, j1, j2, j3, j4, j5⟩ := oj
                  generalize opAt h y = oy at *
                  obtain ⟨y0, y1, y2, y3, y4, y5⟩ := oy
                  simp only [pr, fr, tt] at c0 c4 d0 d5 HAD
                  have hbit := Lib.hid fun q w5 => bitqH s j q w5 hs12 (by omega)
                  clear c1 c2 c3 c5 d1 d2 d3 d4 HA HV hall
                  by_cases hto : j5 ≤ y4
                  · have t3 : decide (j5 ≤ y4) = true := by simpa using hto
                    by_cases hpr : all = true ∨ j0 = y0
                    · have HT := Lib.hid (show aheadB all (j0, j1, j2, j3, j4, j5) (y0, y1, y2, y3, y4, y5) = true by
                        rw [HAD.out]
                        rcases hpr with h1 | h1
                        · simp [hto, h1]
                        · simp [hto, h1])
                      have hpr' : all = true ∨ (all = false ∧ ((j0 : Int) == (y0 : Int)) = true) := by
                        cases all with
                        | true => exact .inl rfl
                        | false => exact .inr ⟨rfl, by rcases hpr with h1 | h1; cases h1; simp [h1]⟩
                      clear hto hpr HAD
                      by_cases hbj : s.testBit j = true
                      · have HN := Lib.hid (HALL.out (fun _ => hbj))
                        rw [hbj] at hbit
                        clear HALL HB2 hbj HT
                        rcases hpr' with rfl | ⟨rfl, t4⟩
                        · go_wp2_with fail
                          go_quiet ((go_at_call 17; exact hbit.out _ _))
                          go_wp2_with fail
                          go_roundw
                          case rel => exact ⟨j + 1, by omega, by go_num, Lib.hid HN.out, Lib.hid hrow.out, drn hb _⟩
                          case measure => simp [intOf]; omega
                        · go_wp2_with fail
                          go_quiet ((go_at_call 17; exact hbit.out _ _))
                          go_wp2_with fail
                          go_roundw
                          case rel => exact ⟨j + 1, by omega, by go_num, Lib.hid HN.out, Lib.hid hrow.out, drn hb _⟩
                          case measure => simp [intOf]; omega
                      · have hbj' : s.testBit j = false := by simpa using hbj
                        have HE := Lib.hid (HB2.out HT.out hbj')
                        rw [hbj'] at hbit
                        clear HALL HB2 hbj hbj' HT
                        rcases hpr' with rfl | ⟨rfl, t4⟩
                        · go_wp2_with fail
                          go_quiet ((go_at_call 17; exact hbit.out _ _))
                          go_wp2_with fail
                          go_ret
                          exact ⟨by rw [HE.out]; rfl, drn hb _⟩
                        · go_wp2_with fail
                          go_quiet ((go_at_call 17; exact hbit.out _ _))
                          go_wp2_with fail
                          go_ret
                          exact ⟨by rw [HE.out]; rfl, drn hb _⟩
                    · have hal : all = false := by
                        cases all with
                        | false => rfl
                        | true => exact absurd (.inl rfl) hpr
                      have hne : j0 ≠ y0 := fun e => hpr (.inr e)
                      have HN := Lib.hid (HALL.out (fun hx => by rw [HAD.out, hal] at hx; simp [hne] at hx))
                      have t4 : ((j0 : Int) == (y0 : Int)) = false := by simp; omega
                      subst hal
                      clear hto hpr hne HAD HALL HB2
                      go_wp2_with fail
                      go_quiet (fail)
                      go_wp2_with fail
                      go_roundw
                      case rel => exact ⟨j + 1, by omega, by go_num, Lib.hid HN.out, Lib.hid hrow.out, drn hb _⟩
                      case measure => simp [intOf]; omega
                  · have t3 : decide (j5 ≤ y4) = false := by simpa using hto
                    have HN := Lib.hid (HALL.out (fun hx => by rw [HAD.out] at hx; simp [hto] at hx))
                    clear hto HAD HALL HB2
                    go_wp2_with fail
                    go_quiet (fail)
                    go_wp2_with fail
                    go_roundw
                    case rel => exact ⟨j + 1, by omega, by go_num, Lib.hid HN.out, Lib.hid hrow.out, drn hb _⟩
                    case measure => simp [intOf]; omega
                · obtain rfl : j = h.length := by omega
                  have HAF := Lib.hid (show after h v y = v.set (ob (opAt h y)) (vl (opAt h y)) from rfl)
                  have HAT := Lib.hid (HA.out hall.out)
                  generalize opAt h y = oy at *
                  obtain ⟨y0, y1, y2, y3, y4, y5⟩ := oy
                  simp only [ob, His.wr, vl] at c1 c2 c3 HAF HAT HYR HV
                  have r1 := HYR.out.2.1
                  have r2 := HYR.out.2.2.1
                  have r3 := HYR.out.2.2.2.1
                  have hvc := hrow.out.cell (i := y1) (by omega)
                  have hvf := hrow.out.frozen y1
                  unfold vcell at hvc
                  have HVL := Lib.hid hinv.out.1
                  have HVB := Lib.hid hinv.out.2.1
                  have hvb := HVB.out y1
                  have hp2 : 2 ^ y ≤ 1024 := Nat.le_trans (Nat.pow_le_pow_right (by decide) (show y ≤ 10 by omega)) (by decide)
                  have hsum := or_bit HBY.out
                  have hs2 : s ||| 2 ^ y < 2 ^ h.length := Nat.or_lt_two_pow hs (Nat.pow_lt_pow_right (by omega) hyl)
                  have hpw := Lib.hid fun w5 => pow2_calls y w5 (by omega)
                  generalize s ||| 2 ^ y = s2 at *
                  generalize 2 ^ y = p2 at *
                  have HIN := Lib.hid fun (hok : okStep h (pres all h) s v y = true) => show (v.set y1 y3).length = 3 ∧ (∀ j, (v.set y1 y3).getD j 0 ≤ 1000000) ∧ goodRun all h (row.drop (k + 1)) s2 (v.set y1 y3) = RES from
                    ⟨by rw [List.length_set]; exact HVL.out, fun j => by
                      rw [List.getD_eq_getElem?_getD, List.getElem?_set]
                      by_cases e : y1 = j
                      · rw [if_pos e, if_pos (by rw [HVL.out]; omega)]; exact r3
                      · rw [if_neg e, ← List.getD_eq_getElem?_getD]; exact HVB.out j, by
                      have := HGO.out hok
                      rw [HAF.out] at this
                      exact this⟩
                  have HRW := Lib.hid fun q => show ((wr.drewN q).setCell ⟨w.heap.size, y1, none⟩ (nv y3)).rowIs w.heap.size 44 3 (vcell (v.set y1 y3)) from
                    ((hrow.out.set y1 (nv y3)).congr (fun j _ => by
                      show (if j = y1 then nv y3 else nv (v.getD j 0)) = nv ((v.set y1 y3).getD j 0)
                      rw [List.getD_eq_getElem?_getD (l := v.set y1 y3), List.getElem?_set]
                      by_cases e : j = y1
                      · subst e
                        rw [if_pos rfl, if_pos rfl, if_pos (by rw [HVL.out]; omega)]; rfl
                      · rw [if_neg e, if_neg (fun h => e h.symm), ← List.getD_eq_getElem?_getD]))
                  have HBW := Lib.hid fun q => show Below w.heap.size w ((wr.drewN q).setCell ⟨w.heap.size, y1, none⟩ (nv y3)) from ((drn hb q).setCell (p := ⟨w.heap.size, y1, none⟩) (Nat.le_refl _) (nv y3))
                  generalize hvo : v.getD y1 0 = vo at *
                  clear hvo
                  by_cases hw1 : y2 = 1
                  · have HIN := Lib.hid (HIN.out (HAT.out (.inl hw1)))
                    subst hw1
                    clear hsz
                    go_wp2_with (go_at_call 18; refine (hpw.out _).mono ?_; rintro e w' ⟨rfl, rfl⟩)
                    go_quiet (fail)
                    go_wp2_with fail
                    go_region
                    go_wp2_with fail
                    go_roundw
                    case rel => exact ⟨k + 1, s2, v.set y1 y3, by omega, by go_num, by go_num, hs2, Lib.hid HIN.out, Lib.hid (HRW.out _), HBW.out _⟩
                    case measure => simp [intOf]; omega
                  · have hw0 : y2 = 0 := by omega
                    subst hw0
                    by_cases hvx : vo = y3
                    · have HIN := Lib.hid (HIN.out (HAT.out (.inr hvx)))
                      have t3 : ((vo : Int) != (y3 : Int)) = false := by simp; omega
                      clear hvx
                      clear hsz
                      go_wp2_with (go_at_call 18; refine (hpw.out _).mono ?_; rintro e w' ⟨rfl, rfl⟩)
                      go_quiet (fail)
                      go_wp2_with fail
                      go_region
                      go_wp2_with fail
                      go_roundw
                      case rel => exact ⟨k + 1, s2, v.set y1 y3, by omega, by go_num, by go_num, hs2, Lib.hid HIN.out, Lib.hid (HRW.out _), HBW.out _⟩
                      case measure => simp [intOf]; omega
                    · have HE := Lib.hid (HNO.out (HV.out rfl hvx))
                      have t3 : ((vo : Int) != (y3 : Int)) = true := by simp; omega
                      clear hvx
                      go_wp2_with (go_at_call 18; refine (hpw.out _).mono ?_; rintro e w' ⟨rfl, rfl⟩)
                      go_quiet (fail)
                      go_wp2_with fail
                      go_ret
                      exact ⟨by rw [HE.out]; rfl, drn hb _⟩
          · have HE := Lib.hid (HNO.out (by unfold gok; have : decide (x < (h.length : Int)) = false := by (simp; omega)
                                            simp [this]))
            have t1 : decide (x < 0) = false := by simp; omega
            have t2 : decide ((h.length : Int) ≤ x) = true := by simp; omega
            clear hx0 hxl HNO HGO
            go_wp2_with fail
            go_ret
            exact ⟨by rw [HE.out]; rfl, hb⟩
        · have HE := Lib.hid (HNO.out (by unfold gok; have : decide (0 ≤ x) = false := by (simp; omega)
                                          simp [this]))
          have t1 : decide (x < 0) = true := by simp; omega
          clear hx0 HNO HGO
          go_wp2_with fail
          go_ret
          exact ⟨by rw [HE.out]; rfl, hb⟩
      · obtain rfl : k = h.length := by omega
        have HE := Lib.hid (show RES = true by
          have := hinv.out.2.2
          rw [List.drop_eq_nil_of_le (by rw [HLEN.out]; exact Nat.le_refl _)] at this
          exact this.symm)
        clear hkl
        go_wp2_with fail
        go_ret
        exact ⟨by rw [HE.out]; rfl, hb⟩
  · have HG := Lib.hid (show goodB all h row = false by unfold goodB; simp [hlen])
    rw [HG.out]
    have hne : ((row.length : Int) != (h.length : Int)) = true := by simp; omega
    clear hlen HG
    go_enter Try.func10, Try.ntmps10
    go_wp2_with fail
    go_ret
    exact ⟨rfl, Below.refl _ _⟩
end Go.Proofs.Ytjmjifcaobkobaa
