/- Contract of the reference's GoodRow. Conditions: the contract's own premises. -/
import Derived.Test.YtjmjifcaobkobaaDoorRRest
namespace Go.Proofs.YtjmjifcaobkobaaDoor
open Go.RowKit Go.Maps His

/-- a call of rest, whole -/
theorem rest_ok (h : List N6) (hh : Hok h) (pre : List Nat) (hv pv : Value) (b g : Nat) : ∀ d, RestOk h pre hv pv b g d := by
  intro d
  induction d with
  | zero => exact rest_full h pre hv pv b g
  | succ d ih =>
    intro l done v0 v1 v2 n tv vs L w hl hd hc h0 h1 h2 hn hs hst hi hoff
    cases hin : decide ((v0, v1, v2) ∈ L done) with
    | false => exact rest_loop h hh pre hv pv b g d ih l done v0 v1 v2 n tv vs L w hl hd hc h0 h1 h2 hn hs hst hi hoff hin
    | true =>
      have hG := hs.good done hd _ (of_decide_eq_true hin)
      have hnone : from_ h pre (d + 1) done [v0, v1, v2] = none := (Gd_of (d := d + 1) (l := l) hl hc).1 hG
      refine (rest_dead h pre hv pv b g d l done v0 v1 v2 n tv vs L w hl hd (Nat.le_trans (Nat.le_add_right _ _) hn) hs hst hi hin).mono ?_
      rintro e w' ⟨rv, rfl, hr, vs', L', n', p1, p2, p3, p4⟩
      refine ⟨rv, rfl, ?_, vs', L', n', p1, Nat.le_trans p2 (Nat.le_add_right _ _), p3, p4⟩
      rw [hnone]; simpa using hr
/-- what must stand ahead, of the first j -/
def preG (all : Bool) (h : List N6) (j : Nat) : List Nat := (List.range j).map fun j => Odr.mk h.length fun i => aheadB all (His.opAt h i) (His.opAt h j)
theorem preG_succ (all : Bool) (h : List N6) (j : Nat) : preG all h (j + 1) = preG all h j ++ [Odr.mk h.length fun i => aheadB all (His.opAt h i) (His.opAt h j)] := by
  unfold preG; rw [List.range_succ, List.map_append]; rfl
theorem length_preG (all : Bool) (h : List N6) (j : Nat) : (preG all h j).length = j := by simp [preG]
theorem mk_lt10 {n : Nat} {p : Nat → Bool} (hn : n ≤ 10) : Odr.mk n p < 1024 := by
  have h1 : Odr.mk n p < 2 ^ n := by
    induction n with
    | zero => simp [Odr.mk]
    | succ n ih =>
      have := ih (by omega)
      rw [Odr.mk, Nat.pow_succ]
      split <;> omega
  exact Nat.lt_of_lt_of_le h1 (Nat.le_trans (Nat.pow_le_pow_right (by omega) hn) (by decide))
theorem mk_add {k : Nat} {p : Nat → Bool} (h : p k = true) : Odr.mk k p + 2 ^ k = Odr.mk (k + 1) p := by rw [Odr.mk, h]; simp [Nat.add_comm]
theorem stk_laid {w1 : World} {G : Nat → List Nat → Prop} {N g : Nat} (hr : w1.ownsRow g 53 1 (.slice (some ⟨g, 0, none⟩) N N) N (List.replicate N vnil)) (hlt : g < w1.heap.size) :
    StkAt (w1.alloc (.cells #[.slice (some ⟨g, 0, none⟩) N N] 43)) w1.heap.size g N 0 G (List.replicate N vnil) (fun _ => []) := by
  have hd : ∀ d, (List.replicate N vnil).getD d vnil = vnil := fun d => by
    rw [List.getD_eq_getElem?_getD, List.getElem?_replicate]; split <;> rfl
  refine ⟨by rw [World.cell?_alloc_new]; rfl, World.ownsRow.alloc hr _, by simp, fun d _ => ?_, fun d d' k _ _ hk _ => ?_, fun d _ t ht => (by cases ht), fun d _ => Nat.le_refl _, hlt, by simp⟩
  · rw [hd]; exact World.ownsRow_nil _ _ _ _
  · rw [hd] at hk; cases hk
set_option maxRecDepth 20000 in
set_option maxHeartbeats 4000000 in
theorem rgood_calls (all : Bool) (h : List N6) (hh : Hok h) (hv : Value) (w : World) (hr : Ops w w.heap.size hv (zops h)) :
    Calls Tryd.prog 7 #[hv, .bool all] w fun e w' => ∃ rv, e = .returned (.tuple #[rv, .bool (rowOf all h).isSome]) ∧ Ints w' w'.heap.size rv (zs ((rowOf all h).getD [])) ∧ Below w.heap.size w w' := by
  have HR := Lib.hid hr
  have HH := Lib.hid hh
  have HL := Lib.hid hh.len
  have hl10 := hh.len
  obtain ⟨A, cap, rfl⟩ := Rd.val hr
  rw [length_zops] at *
  clear hr hh
  go_enter Tryd.func7, Tryd.ntmps7
  go_wp2_with fail
  go_loopw [6, 7] (fun pv jv wr => ∃ j : Nat, j ≤ h.length ∧ jv = nv j ∧ Hid (Own wr w.heap.size pv (zs (preG all h j))) ∧ Hid (Below w.heap.size w wr)) (fun _ jv _ => h.length - (intOf jv).toNat)
  case atStart => exact ⟨0, Nat.zero_le _, rfl, Lib.hid (Own.nil _ _), Lib.hid (Below.refl _ _)⟩
  case round =>
    obtain ⟨j, hj, rfl, hown, hb⟩ := hrel
    by_cases hjl : j < h.length
    · go_wp2_with fail
      have HPS := Lib.hid (preG_succ all h j)
      go_loopw [8, 9] (fun sv iv wi => ∃ i : Nat, i ≤ h.length ∧ iv = nv i ∧ sv = nv (Odr.mk i fun a => aheadB all (His.opAt h a) (His.opAt h j)) ∧ Hid (Below wr.heap.size wr wi)) (fun _ iv _ => h.length - (intOf iv).toNat)
      case atStart => exact ⟨0, Nat.zero_le _, rfl, rfl, Lib.hid (Below.refl _ _)⟩
      case round =>
        obtain ⟨i, hi, rfl, rfl, hbi⟩ := hrel
        by_cases hil : i < h.length
        · have hops := Rd.below HR.out (hb.out.trans (hbi.out.mono hb.out.size))
          obtain ⟨b, off, cap', he, -, d0, -, -, -, d4, d5⟩ := Ops.atN hops hil
          cases he
          obtain ⟨_, _, _, he, -, e0, -, -, -, e4, -⟩ := Ops.atN hops hjl
          cases he
          have HPA := Lib.hid (show aheadB all (His.opAt h i) (His.opAt h j) = (decide (tt (His.opAt h i) ≤ fr (His.opAt h j)) && (all || decide (pr (His.opAt h i) = pr (His.opAt h j)))) from rfl)
          have HYES := Lib.hid fun (q : aheadB all (His.opAt h i) (His.opAt h j) = true) => mk_add (p := fun a => aheadB all (His.opAt h a) (His.opAt h j)) q
          have HNO := Lib.hid fun (q : aheadB all (His.opAt h i) (His.opAt h j) = false) => mk_skip (p := fun a => aheadB all (His.opAt h a) (His.opAt h j)) q
          have hm := mk_lt10 (p := fun a => aheadB all (His.opAt h a) (His.opAt h j)) (n := i) (by omega)
          generalize aheadB all (His.opAt h i) (His.opAt h j) = ah at *
          generalize tt (His.opAt h i) = ti at *
          generalize fr (His.opAt h j) = fj at *
          generalize pr (His.opAt h i) = pi at *
          generalize pr (His.opAt h j) = pj at *
          generalize hM : (Odr.mk i fun a => aheadB all (His.opAt h a) (His.opAt h j)) = M at *
          generalize hM1 : (Odr.mk (i + 1) fun a => aheadB all (His.opAt h a) (His.opAt h j)) = M1 at *
          have HM1 := Lib.hid hM1
          clear hM hM1
          have ii : (i : Int) < (h.length : Int) := by omega
          have ij : (j : Int) < (h.length : Int) := by omega
          have hP : ∀ P : Nat, P < 1024 → IntKind.i64.wrap ((M : Int) + (P : Int)) = ((M + P : Nat) : Int) := fun P hP => IntWalk.i64_in _ (by constructor <;> omega)
          have hp2 := Lib.hid fun w5 : World => pow2_calls i w5 (by omega)
          have hpi : 2 ^ i < 1024 := Nat.lt_of_lt_of_le (Nat.pow_lt_pow_right (by omega) hil) (Nat.le_trans (Nat.pow_le_pow_right (by omega) hl10) (by decide))
          have hadd := hP _ hpi
          have HBI := Lib.hid hbi.out
          clear hP hpi hops hbi hm
          generalize 2 ^ i = P at *
          have hw : (decide (ti ≤ fj) = false ∧ ah = false) ∨ (decide (ti ≤ fj) = true ∧ all = true ∧ ah = true) ∨ (decide (ti ≤ fj) = true ∧ all = false ∧ ((pi : Int) == (pj : Int)) = true ∧ ah = true) ∨ (decide (ti ≤ fj) = true ∧ all = false ∧ ((pi : Int) == (pj : Int)) = false ∧ ah = false) := by
            rw [HPA.out]
            cases all <;> by_cases g1 : ti ≤ fj <;> by_cases g2 : pi = pj <;> simp [g1, g2, Int.ofNat_inj]
          clear HPA
          rcases hw with ⟨t1, hc⟩ | ⟨t1, ha, hc⟩ | ⟨t1, ha, t2, hc⟩ | ⟨t1, ha, t2, hc⟩
          · have HC := Lib.hid (HNO.out hc)
            clear HNO HYES hc
            go_wp2_with fail
            go_quiet (fail)
            go_wp2_with fail
            go_roundw
            case rel => exact ⟨i + 1, by omega, by go_num, by rw [HM1.out, HC.out], Lib.hid (drn HBI.out _)⟩
            case measure => simp [intOf]; omega
          · have HC := Lib.hid (HYES.out hc)
            clear HNO HYES hc
            subst ha
            go_wp2_with fail
            go_quiet (fail)
            go_wp2_with (go_at_call 14; (with_reducible refine (hp2.out _).mono ?_); rintro e w9 ⟨rfl, rfl⟩)
            go_roundw
            case rel => exact ⟨i + 1, by omega, by go_num, by rw [HM1.out, ← HC.out, nv, Int.natCast_add], Lib.hid (drn HBI.out _)⟩
            case measure => simp [intOf]; omega
          · have HC := Lib.hid (HYES.out hc)
            clear HNO HYES hc
            subst ha
            go_wp2_with fail
            go_quiet (fail)
            go_wp2_with (go_at_call 14; (with_reducible refine (hp2.out _).mono ?_); rintro e w9 ⟨rfl, rfl⟩)
            go_roundw
            case rel => exact ⟨i + 1, by omega, by go_num, by rw [HM1.out, ← HC.out, nv, Int.natCast_add], Lib.hid (drn HBI.out _)⟩
            case measure => simp [intOf]; omega
          · have HC := Lib.hid (HNO.out hc)
            clear HNO HYES hc
            subst ha
            go_wp2_with fail
            go_quiet (fail)
            go_wp2_with fail
            go_roundw
            case rel => exact ⟨i + 1, by omega, by go_num, by rw [HM1.out, HC.out], Lib.hid (drn HBI.out _)⟩
            case measure => simp [intOf]; omega
        · obtain rfl : i = h.length := by omega
          have hown2 := hown.out.kept hbi.out
          have HBB := Lib.hid (hb.out.trans (hbi.out.mono hb.out.size))
          have hs2 := Nat.le_trans hb.out.size hbi.out.size
          generalize hM : (Odr.mk h.length fun a => aheadB all (His.opAt h a) (His.opAt h j)) = M at *
          have HPS' := Lib.hid HPS.out
          clear HPS hown hb hbi hM
          go_wp2_with (at_builtin; refine append_int rfl _ _ rfl w.heap.size _ (zs (preG all h j)) rfl (Own.alloc hown2 _) _ rfl (M : Int) (by simp) (by rw [length_zs, length_preG]; omega) (by simp; omega) ?_; intro v3 w3 hown3 hb3 _)
          have HO3 := Lib.hid (show Own w3 w.heap.size v3 (zs (preG all h (j + 1))) from by
            rw [HPS'.out, show zs (preG all h j ++ [M]) = zs (preG all h j) ++ [(M : Int)] from by simp [zs]]; exact hown3)
          have HB3 := Lib.hid ((HBB.out.alloc HBB.out.size _).trans hb3)
          clear hown2 hown3 hb3 HBB
          go_wp2_with fail
          go_roundw
          case rel => exact ⟨j + 1, by omega, by go_num, HO3, HB3⟩
          case measure => simp [intOf]; omega
    · obtain rfl : j = h.length := by omega
      have HG0 := Lib.hid (show preG all h h.length = pres all h from rfl)
      rw [HG0.out] at hown
      have HPI := Lib.hid hown.out.ints
      have HB := Lib.hid hb.out
      have hp2 := Lib.hid fun w5 : World => pow2_calls h.length w5 (by omega)
      have hN : 2 ^ h.length ≤ 1024 := Nat.le_trans (Nat.pow_le_pow_right (by omega) hl10) (by decide)
      obtain ⟨N, hNN⟩ : ∃ N, N = 2 ^ h.length := ⟨_, rfl⟩
      have HNN := Lib.hid hNN
      rw [← hNN] at hp2 hN
      clear hNN hown hb
      obtain ⟨Ap, capp, hpv⟩ := Rd.val HPI.out
      subst hpv
      have hlp : (zs (pres all h)).length = h.length := by rw [length_zs]; exact length_preG all h h.length
      rw [hlp] at HPI ⊢
      clear hlp
      go_wp2_with (first | (go_at_call 14; (with_reducible refine (hp2.out _).mono ?_); rintro e w9 ⟨rfl, rfl⟩) | (at_make; refine make_rows rfl _ _ rfl wr.heap.size N rfl rfl (by omega) (Nat.le_refl _) ?_; intro w1 hrow hb1))
      have hgl := (row_lt hrow _ rfl).2
      have hb1' := (hb1.alloc hb1.size (.cells #[.slice (some ⟨wr.heap.size, 0, none⟩) N N] 43)).alloc (by simp; exact Nat.le_succ_of_le hb1.size) (.cells #[.int .i64 0, .int .i64 0, .int .i64 0] 44)
      have hs0 := (stk_laid (G := Gd h (pres all h)) hrow hgl).alloc (.cells #[.int .i64 0, .int .i64 0, .int .i64 0] 44)
      have hcell : ∀ j, j < 3 → ((w1.alloc (.cells #[.slice (some ⟨wr.heap.size, 0, none⟩) N N] 43)).alloc (.cells #[.int .i64 0, .int .i64 0, .int .i64 0] 44)).heap.size = w1.heap.size + 2 := fun j _ => by simp
      generalize (w1.alloc (.cells #[.slice (some ⟨wr.heap.size, 0, none⟩) N N] 43)).alloc (.cells #[.int .i64 0, .int .i64 0, .int .i64 0] 44) = W at *
      have HB1 := Lib.hid hb1'
      have HS0 := Lib.hid (show StkAt W w1.heap.size wr.heap.size (2 ^ h.length) 0 (Gd h (pres all h)) (List.replicate N vnil) (fun _ => []) by rw [← HNN.out]; exact hs0)
      have HST := Lib.hid (show Stand h (pres all h) (.slice A h.length cap) (.slice Ap h.length capp) wr.heap.size W from
        ⟨Rd.below ((Rd.below HR.out HB.out).more HB.out.size) hb1', Rd.below HPI.out hb1', by simp [pres], pres_lt all h HL.out⟩)
      have hcall := Lib.hid (show Calls Tryd.prog 15 #[.slice A h.length cap, .slice Ap h.length capp, .pointer (some ⟨w1.heap.size, 0, none⟩), .slice none 0 0, .int .i64 0, .agg #[.int .i64 0, .int .i64 0, .int .i64 0]] W fun e w' =>
          ∃ rv, e = .returned rv ∧ Ints w' w'.heap.size rv (zs ([] ++ (rowOf all h).getD [])) ∧ RTo W h (pres all h) w1.heap.size wr.heap.size (2 ^ h.length) (List.replicate N vnil) (0 + 11 ^ (h.length + 1)) w' from
        rest_ok h HH.out (pres all h) _ _ w1.heap.size wr.heap.size h.length [] 0 0 0 0 0 (.slice none 0 0) (List.replicate N vnil) (fun _ => []) W (by simp) (Nat.two_pow_pos _) (by
          rw [show (0 : Nat).testBit = fun _ => false from funext fun i => Nat.zero_testBit i, Odr.cnt_false]; rfl) (by omega) (by omega) (by omega) (by
          have : 11 ^ (h.length + 1) ≤ 11 ^ 11 := Nat.pow_le_pow_right (by decide) (by have := HL.out; omega)
          have e : (11 : Nat) ^ 11 ≤ 2 ^ 40 := by decide
          omega) HS0.out HST.out (Rd.nil _ _ _) (Off.nil _))
      have HRL := Lib.hid (show ∀ r, rowOf all h = some r → r.length = h.length from fun r hr => (from_some _ _ _ _ hr).1)
      have HRN := Lib.hid (show rowOf all h = none → 0 < h.length from fun hr => from_none_pos hr)
      clear hs0 hb1' hb1 hrow hgl hcell hN hp2 HST HPI
      generalize hR : rowOf all h = R at *
      have HEQ := Lib.hid hR
      clear hR
      cases R with
      | none =>
        have h0 := HRN.out rfl
        have hl0 : (zs ([] ++ (none : Option (List Nat)).getD [])).length = 0 := rfl
        have t1 : decide ((0 : Int) < (h.length : Int)) = true := by simp; omega
        clear HRL HRN
        go_wp2_with (go_at_call 15; (with_reducible refine hcall.out.mono ?_); rintro e w7 ⟨rv, rfl, hrv, vs7, L7, n7, q1, q2, q3, q4⟩; have hb7 := Lib.hid (HB.out.trans ((HB1.out.trans ((q3.below (B := wr.heap.size) HB1.out.size (fun y hy => (HS0.out.foot y hy).1)))).mono HB.out.size)); have HRV := Lib.hid hrv; obtain ⟨Ar, cr, rfl⟩ := Rd.val hrv; rw [hl0] at HRV ⊢; clear q1 q2 q3 q4 hrv)
        go_ret2
        rw [HEQ.out]
        exact ⟨_, rfl, Rd.nil _ _ _, hb7.out⟩
      | some r =>
        have h0 := HRL.out r rfl
        have hl0 : (zs ([] ++ (some r).getD [])).length = h.length := by rw [length_zs]; simpa using h0
        have t1 : decide ((h.length : Int) < (h.length : Int)) = false := by simp
        clear h0 HRL HRN
        go_wp2_with (go_at_call 15; (with_reducible refine hcall.out.mono ?_); rintro e w7 ⟨rv, rfl, hrv, vs7, L7, n7, q1, q2, q3, q4⟩; have hb7 := Lib.hid (HB.out.trans ((HB1.out.trans ((q3.below (B := wr.heap.size) HB1.out.size (fun y hy => (HS0.out.foot y hy).1)))).mono HB.out.size)); have HRV := Lib.hid hrv; obtain ⟨Ar, cr, rfl⟩ := Rd.val hrv; rw [hl0] at HRV ⊢; clear q1 q2 q3 q4 hrv)
        go_ret2
        rw [HEQ.out]
        exact ⟨_, rfl, by simpa using HRV.out, hb7.out⟩
end Go.Proofs.YtjmjifcaobkobaaDoor
