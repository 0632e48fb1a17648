/- The walk of the statement SchedSame: at every input it returns true. Conditions: none. -/
import Derived.Test.YtkindaadadggoaaSerial
import Derived.Test.YtkindaadadggoaaOrdered
import Derived.Test.YtkindaadadggoaaReads
import Derived.Test.YtkindaadadggoaaOrb
namespace Go.Proofs.Ytkindaadadggoaa
open Go.RowKit

set_option maxRecDepth 20000 in
theorem ssame_err (s : List Act3) (v : Value) (w : World) (hr : Acts w w.heap.size v s) (hne : actsCode s ≠ 0) :
    Calls Try.prog 6 #[v] w fun e w' => e = .returned (.bool true) ∧ Below w.heap.size w w' := by
  have hf := Lib.hid (schedFact_calls w)
  have hs := Lib.hid fun (w1 : World) (hb : Below w.heap.size w w1) => serial_err s v w1 ((Rd.below hr hb).more hb.size) hne
  obtain ⟨A, cap, rfl⟩ := Rd.val hr
  generalize actsCode s = c at *
  clear hr hne
  go_enter Try.func6, Try.ntmps6
  go_wp2_with fail
  (with_reducible refine hf.out.mono ?_)
  rintro e w1 ⟨rfl, hb1⟩
  clear hf
  go_wp2_with fail
  (with_reducible refine (hs.out _ hb1).mono ?_)
  rintro e w2 ⟨rfl, hb2⟩
  have hb3 := hb1.trans (hb2.mono hb1.size)
  clear hs
  go_wp2_with fail
  go_ret
  exact ⟨rfl, hb3⟩

theorem nat_acts3 {s : List Act3} (h : actsCode s = 0) : ∃ t : List Sch.N3, s = Sch.zacts t ∧ t.length ≤ 24 ∧ ∀ a ∈ t, Sch.Ok3 a := by
  obtain ⟨h1, h2⟩ := actsCode_zero h
  refine ⟨s.map fun a => (a.1.toNat, a.2.1.toNat, a.2.2.toNat), ?_, by simpa using h1, ?_⟩
  · unfold Sch.zacts
    rw [List.map_map]
    conv => lhs; rw [← List.map_id s]
    refine List.map_congr_left fun a ha => ?_
    obtain ⟨⟨a0, _⟩, ⟨a1, _⟩, a2, _⟩ := h2 a ha
    obtain ⟨x, y, z⟩ := a
    simp only [Function.comp, Sch.z3, id, Prod.mk.injEq] at *
    omega
  · intro b hb
    obtain ⟨a, ha, rfl⟩ := List.mem_map.1 hb
    obtain ⟨⟨a0, b0⟩, ⟨a1, b1⟩, a2, b2⟩ := h2 a ha
    unfold Sch.Ok3
    simp only
    omega

/-- lengths, out of simp's sight -/
structure Len2 (L : List Nat) (n : Nat) : Prop where
  a : L.length = n
structure Len2' (L : List Int) (n : Nat) : Prop where
  a : L.length = n
def told (t : List Sch.N3) (L : List Nat) : List Sch.N3 := L.map fun i => t.getD i Sch.d3
def yOf (L : List Nat) (z : Int) : Int := if z = -1 then -1 else ((L.getD z.toNat 0 : Nat) : Int)

set_option maxRecDepth 20000 in
set_option maxHeartbeats 8000000 in
theorem ssame_ok (t : List Sch.N3) (v : Value) (w : World) (hr : Acts w w.heap.size v (Sch.zacts t)) (hlen : t.length ≤ 24) (hok : ∀ a ∈ t, Sch.Ok3 a) :
    Calls Try.prog 6 #[v] w fun e w' => e = .returned (.bool true) ∧ Below w.heap.size w w' := by
  have hf := Lib.hid (schedFact_calls w)
  have hs := Lib.hid fun (w1 : World) (hb : Below w.heap.size w w1) => serial_ok t v w1 ((Rd.below hr hb).more hb.size) hlen hok
  have hrd := Lib.hid fun (w1 : World) (hb : Below w.heap.size w w1) => reads_ok t v w1 ((Rd.below hr hb).more hb.size) hlen hok
  have hor := Lib.hid fun (row : List Int) (u : Value) (w1 : World) (hb : Below w.heap.size w w1) (hu : Ints w1 w1.heap.size u row) => ordered_calls t row v u w1 ((Rd.below hr hb).more hb.size) hlen hok hu
  have HKP := Lib.hid fun r hr => Sch.keeps_of_row (t := t) hok (r := r) hr
  obtain ⟨A, cap, rfl⟩ := Rd.val hr
  have HR := Lib.hid hr
  have HOK := Lib.hid hok
  have HOKD := Lib.hid fun k => Sch.getD_ok hok k
  have hlen' := hlen
  rw [Sch.length_zacts] at *
  clear hr hok
  go_enter Try.func6, Try.ntmps6
  go_wp2_with fail
  (with_reducible refine hf.out.mono ?_)
  rintro e w1 ⟨rfl, hb1⟩
  clear hf
  go_wp2_with fail
  (with_reducible refine (hs.out _ hb1).mono ?_)
  rintro e w2 ⟨hb2, ⟨-, rfl⟩ | ⟨out, v2, hrow, rfl, hown2⟩⟩
  · have hb3 := hb1.trans (hb2.mono hb1.size)
    clear hs hrd hor
    go_wp2_with fail
    go_ret
    exact ⟨rfl, hb3⟩
  · have hb3 := hb1.trans (hb2.mono hb1.size)
    obtain ⟨q1, q2, q3, -⟩ := Rw.row_spec hrow
    rw [Sch.length_edges] at q1 q3
    have hord := Sch.ordered_ok (t := t) q2 q3 q1
    have HKEEP := Lib.hid (HKP.out out hrow)
    have hcall0 := hor.out (zs out) v2 w2 hb3 hown2.ints
    rw [show Sch.ordered t (zs out) = (0, out.flatMap (Sch.places t)) from hord] at hcall0
    generalize out.flatMap (Sch.places t) = L at *
    have hcall := Lib.hid (show Calls Try.prog 13 #[.slice A t.length cap, v2] w2 fun e w' => ∃ v', e = .returned (.tuple #[v', .nilIface]) ∧ Own w' w2.heap.size v' (zs L) ∧ Below w2.heap.size w2 w' from hcall0.mono (by
      rintro e w' ⟨v', rfl, h1, h2⟩
      exact ⟨v', rfl, h1 rfl, h2⟩))
    have HLL : Len2 L t.length := ⟨HKEEP.out.2.1⟩
    obtain ⟨A2, c2, rfl⟩ := Rd.val hown2.ints
    rw [length_zs, q1] at *
    clear hs hor hord hcall0 q1 q2 q3 hrow HKP hb1 hb2 hown2
    go_wp2_with fail
    (with_reducible refine hcall.out.mono ?_)
    rintro e w3 ⟨v3, rfl, hown3, hb3'⟩
    have hb4 := hb3.trans (hb3'.mono hb3.size)
    clear hcall hb3 hb3'
    obtain ⟨A3, c3, rfl⟩ := Rd.val hown3.ints
    rw [length_zs, HLL.a] at hown3 ⊢
    go_wp2_with fail
    (with_reducible refine (hrd.out _ hb4).mono ?_)
    rintro e w4 ⟨v4, rfl, hown4, hb4'⟩
    have hb5 := hb4.trans (hb4'.mono hb4.size)
    obtain ⟨A4, c4, rfl⟩ := Rd.val hown4.ints
    rw [Sch.length_reads] at hown4 ⊢
    have HO3 := Lib.hid (hown3.kept hb4')
    have HO4 := Lib.hid hown4
    have HB := Lib.hid hb5
    clear hrd hb4 hb4' hown3 hown4 hb5
    go_wp2_with fail
    go_loopw [11, 12, 13] (fun tv sv i wr => ∃ (k s : Nat) (vt : Value), k ≤ t.length ∧ i = nv k ∧ sv = nv s ∧ tv = vt ∧ s < 2 ^ 24 ∧ Hid (∀ j, s.testBit j = true ↔ j ∈ L.take k) ∧ Hid (OwnA wr w4.heap.size vt (Sch.zacts (told t (L.take k)))) ∧ Hid (Below w4.heap.size w4 wr)) (fun _ _ i _ => t.length - (intOf i).toNat)
    case atStart => exact ⟨0, 0, _, Nat.zero_le _, rfl, rfl, rfl, by omega, Lib.hid (fun j => by simp), Lib.hid (OwnA.nil _ _), Lib.hid (Below.refl _ _)⟩
    case round =>
      obtain ⟨k, s, vt, hk, rfl, rfl, hvt, hs24, hset, hot, hb⟩ := hrel
      replace hvt := hvt.symm
      subst hvt
      have hsz := hb.out.size
      by_cases hkl : k < t.length
      · have hkL : k < L.length := by rw [HLL.a]; exact hkl
        obtain ⟨b3, o3, cc3, he3, hbb3, e3⟩ := Ints.atN (HO3.out.kept hb.out).ints hkL
        rw [HLL.a] at he3
        cases he3
        have hxt : L.getD k 0 < t.length := by rw [Sch.getD_at hkL]; exact HKEEP.out.2.2.1 _ (List.getElem_mem hkL)
        have HTK := Lib.hid (List.take_succ_eq_append_getElem hkL)
        have hnin : L.getD k 0 ∉ L.take k := by
          rw [Sch.getD_at hkL]
          intro hm
          obtain ⟨j, hj, e⟩ := List.mem_iff_getElem.1 hm
          rw [List.length_take] at hj
          rw [List.getElem_take] at e
          have := (List.getElem_inj HKEEP.out.1).1 e
          omega
        have hbit : s.testBit (L.getD k 0) = false := by
          cases h : s.testBit (L.getD k 0) with
          | false => rfl
          | true => exact absurd ((hset.out _).1 h) hnin
        rw [← Sch.getD_at hkL] at HTK
        have HB1 := Lib.hid fun w5 : World => bit_calls s (L.getD k 0) w5 (by omega) (by omega)
        have HP := Lib.hid fun w5 : World => pow2_calls (L.getD k 0) w5 (by omega)
        have hsum := orb hbit
        have hs2 : s ||| 2 ^ (L.getD k 0) < 2 ^ 24 := Nat.or_lt_two_pow hs24 (Nat.pow_lt_pow_right (by omega) (by omega))
        have HSET := Lib.hid (show ∀ j, (s ||| 2 ^ (L.getD k 0)).testBit j = true ↔ j ∈ L.take (k + 1) from fun j => by
          rw [testBit_orb, HTK.out, List.mem_append, List.mem_singleton, Bool.or_eq_true, decide_eq_true_eq, hset.out]
          constructor
          · rintro (h | h)
            · exact .inl h
            · exact .inr h.symm
          · rintro (h | h)
            · exact .inl h
            · exact .inr h.symm)
        have HTT := Lib.hid (show told t (L.take (k + 1)) = told t (L.take k) ++ [t.getD (L.getD k 0) Sch.d3] by rw [HTK.out]; simp [told])
        have hp24 : 2 ^ (L.getD k 0) < 2 ^ 24 := Nat.pow_lt_pow_right (by omega) (by omega)
        rw [hbit] at HB1
        obtain ⟨b0, off, cap2, he, hlc, hcm, hbB, d0, d1, d2⟩ := Acts.atN (Rd.below HR.out (HB.out.trans (hb.out.mono HB.out.size))) hxt
        cases he
        generalize s ||| 2 ^ (L.getD k 0) = s2 at *
        generalize 2 ^ (L.getD k 0) = p2 at *
        generalize L.getD k 0 = x at *
        generalize t.getD x Sch.d3 = a at *
        obtain ⟨a0, a1, a2⟩ := a
        simp only at d0 d1 d2
        have t1 : decide ((t.length : Int) ≤ (x : Int)) = false := by simp; omega
        clear hset hnin HTK
        have hlt : (told t (L.take k)).length ≤ 24 := by unfold told; rw [List.length_map, List.length_take]; omega
        go_wp2_with (first | (go_at_call 12; refine (HB1.out _).mono ?_; rintro e w' ⟨rfl, rfl⟩) | (go_at_call 21; refine (HP.out _).mono ?_; rintro e w' ⟨rfl, rfl⟩) |
          (at_builtin; refine append_act rfl _ _ rfl w4.heap.size _ (Sch.zacts (told t (L.take k))) rfl (OwnA.alloc hot.out _) wr.heap.size rfl (Sch.z3 (a0, a1, a2)) (by simp [Sch.z3]) (by simp [Sch.z3]) (by simp [Sch.z3]) (by rw [Sch.length_zacts]; omega) (by simp; omega) ?_; intro gg cc w6 hown6 hb6 _))
        have hown7 := Lib.hid (show OwnA w6 w4.heap.size (.slice (some ⟨gg, 0, none⟩) ((told t (L.take k)).length + 1) cc) (Sch.zacts (told t (L.take (k + 1)))) by
          rw [HTT.out, show Sch.zacts (told t (L.take k) ++ [(a0, a1, a2)]) = Sch.zacts (told t (L.take k)) ++ [Sch.z3 (a0, a1, a2)] by simp [Sch.zacts]]
          rw [Sch.length_zacts] at hown6
          exact hown6)
        have hb7 := Lib.hid ((hb.out.alloc (o := .cells #[nv a0, nv a1, nv a2] 30) hsz).trans hb6)
        clear hown6 hb6
        go_roundw
        case rel => exact ⟨k + 1, s2, _, by omega, by go_num, by rw [hsum]; rfl, rfl, hs2, Lib.hid HSET.out, Lib.hid hown7.out, Lib.hid hb7.out⟩
        case measure => simp [intOf]; omega
      · obtain rfl : k = t.length := by omega
        have hLL : L.take t.length = L := List.take_of_length_le (by rw [HLL.a]; exact Nat.le_refl _)
        rw [hLL] at hot
        have HTL : (told t L).length = t.length := by unfold told; rw [List.length_map]; exact HLL.a
        have HT3 := Lib.hid (show ∀ a ∈ told t L, Sch.Ok3 a from fun a ha => by
          obtain ⟨i, _, rfl⟩ := List.mem_map.1 ha
          exact HOKD.out i)
        have hrd2 := Lib.hid (reads_ok (told t L) vt wr hot.out.acts (by rw [HTL]; omega) HT3.out)
        obtain ⟨At, ct, hvt⟩ := Rd.val hot.out.acts
        rw [Sch.length_zacts, HTL] at hvt
        subst hvt
        have HTLL : Len2 ((told t L).map fun _ => 0) t.length := ⟨by rw [List.length_map]; exact HTL⟩
        clear HTL hset hkl hLL
        go_wp2_with fail
        (with_reducible refine hrd2.out.mono ?_)
        rintro e w7 ⟨v7, rfl, hown7, hb7⟩
        obtain ⟨A7, c7, rfl⟩ := Rd.val hown7.ints
        have hl7 : (Sch.reads (told t L)).length = t.length := by rw [Sch.length_reads]; have := HTLL.a; simpa using this
        rw [hl7]
        have HL7 : Len2' (Sch.reads (told t L)) t.length := ⟨hl7⟩
        have HO7 := Lib.hid hown7
        have HOT := Lib.hid (hot.out.kept hb7)
        have HB7 := Lib.hid (hb.out.trans (hb7.mono hb.out.size))
        have HBW := Lib.hid (HB.out.trans (HB7.out.mono HB.out.size))
        clear hrd2 hown7 hot hb hb7
        go_wp2_with fail
        go_loopw [16] (fun i wr => ∃ k : Nat, k ≤ t.length ∧ i = nv k ∧ Below w7.heap.size w7 wr) (fun i _ => t.length - (intOf i).toNat)
        case atStart => exact ⟨0, Nat.zero_le _, rfl, Below.refl _ _⟩
        case round =>
          obtain ⟨k, hk, rfl, hbl⟩ := hrel
          by_cases hkl : k < t.length
          · have hkL : k < L.length := by rw [HLL.a]; exact hkl
            have hxt : L.getD k 0 < t.length := by rw [Sch.getD_at hkL]; exact HKEEP.out.2.2.1 _ (List.getElem_mem hkL)
            have HKR := Lib.hid (Sch.keeps_reads HKEEP.out hkL)
            have hTk : k < (Sch.reads (told t L)).length := by rw [HL7.a]; exact hkl
            obtain ⟨b7, o7, cc7, he7, hbb7, e7⟩ := Ints.at_ (HO7.out.kept hbl).ints hTk
            have hr7 : (Sch.reads (told t L))[k] = Sch.readAt (told t L) k := by simp [Sch.reads]
            rw [hr7] at e7
            rw [HL7.a] at he7
            cases he7
            have hat : L.getD k 0 < (Sch.reads t).length := by rw [Sch.length_reads]; exact hxt
            obtain ⟨b4, o4, cc4, he4, hbb4, e4⟩ := Ints.at_ ((HO4.out.kept HB7.out).kept hbl).ints hat
            have hr4 : (Sch.reads t)[L.getD k 0] = Sch.readAt t (L.getD k 0) := by simp [Sch.reads]
            rw [hr4] at e4
            rw [Sch.length_reads] at he4
            cases he4
            obtain ⟨b3, o3, cc3, he3, hbb3, e3⟩ := Ints.atN ((HO3.out.kept HB7.out).kept hbl).ints hkL
            rw [HLL.a] at he3
            cases he3
            have hzz : Sch.readAt (told t L) k = -1 ∨ ∃ j : Nat, j < k ∧ Sch.readAt (told t L) k = (j : Int) := by
              unfold Sch.readAt
              split
              · exact .inl rfl
              · rcases Sch.lastW_cases (told t L) ((told t L).getD k Sch.d3).2.1 k with h | ⟨j, h1, h2⟩
                · exact .inl h
                · exact .inr ⟨j, h1, h2⟩
            have HKR := Lib.hid (show Sch.readAt t (L.getD k 0) = yOf L (Sch.readAt (told t L) k) from HKR.out)
            rw [HKR.out] at e4
            rcases hzz with hz | ⟨j, hj, hz⟩
            · rw [hz] at e7 e4
              have hy : yOf L (-1) = -1 := rfl
              rw [hy] at e4
              generalize L.getD k 0 = x at *
              clear hr7 hr4 HKR hz hy hat hTk
              go_wp2_with fail
              go_roundw
              case rel => exact ⟨k + 1, by omega, by go_num, hbl⟩
              case measure => simp [intOf]; omega
            · rw [hz] at e7 e4
              have hy : yOf L (j : Int) = ((L.getD j 0 : Nat) : Int) := by unfold yOf; rw [if_neg (by omega), Int.toNat_natCast]
              rw [hy] at e4
              obtain ⟨b3', o3', cc3', he3', hbb3', e3'⟩ := Ints.atN ((HO3.out.kept HB7.out).kept hbl).ints (k := j) (by rw [HLL.a]; omega)
              rw [HLL.a] at he3'
              cases he3'
              have hjt : j < t.length := by omega
              generalize L.getD j 0 = xj at *
              generalize L.getD k 0 = x at *
              clear hr7 hr4 HKR hz hy hat hTk
              go_wp2_with fail
              go_roundw
              case rel => exact ⟨k + 1, by omega, by go_num, hbl⟩
              case measure => simp [intOf]; omega
          · obtain rfl : k = t.length := by omega
            go_wp2_with fail
            go_loopw [18] (fun i wr => ∃ q : Nat, q ≤ 4 ∧ i = nv q ∧ Below w7.heap.size w7 wr) (fun i _ => 4 - (intOf i).toNat)
            case atStart => exact ⟨0, by omega, rfl, hbl⟩
            case round =>
              obtain ⟨q, hq, rfl, hbl⟩ := hrel
              by_cases hq4 : q < 4
              · have t3 : decide ((q : Int) < 4) = true := by simp; omega
                have HFIN := Lib.hid (show Sch.lastW t q t.length = yOf L (Sch.lastW (told t L) q L.length) from Sch.keeps_final HKEEP.out q)
                rw [HLL.a] at HFIN
                go_wp2_with fail
                clear t3
                go_loopw [19, 20, 21] (fun xv yv i wr => ∃ k : Nat, k ≤ t.length ∧ i = nv k ∧ xv = .int .i64 (Sch.lastW t q k) ∧ yv = .int .i64 (yOf L (Sch.lastW (told t L) q k)) ∧ Below w7.heap.size w7 wr) (fun _ _ i _ => t.length - (intOf i).toNat)
                case atStart => exact ⟨0, Nat.zero_le _, rfl, rfl, rfl, hbl⟩
                case round =>
                  clear hbl
                  obtain ⟨k, hk, rfl, rfl, rfl, hbl⟩ := hrel
                  by_cases hkl : k < t.length
                  · have hkL : k < L.length := by rw [HLL.a]; exact hkl
                    have hkT : k < (told t L).length := by unfold told; rw [List.length_map]; exact hkL
                    obtain ⟨b0, off, cap2, he, hlc, hcm, hbB, d0, d1, d2⟩ := Acts.atN (Rd.below HR.out (HBW.out.trans (hbl.mono HBW.out.size))) hkl
                    cases he
                    obtain ⟨b1, off1, cap3, he1, hlc1, hcm1, hbB1, f0, f1, f2⟩ := Acts.atN (HOT.out.kept hbl).acts hkT
                    have hlT : (told t L).length = t.length := by unfold told; rw [List.length_map]; exact HLL.a
                    rw [hlT] at he1
                    cases he1
                    obtain ⟨b3, o3, cc3, he3, hbb3, e3⟩ := Ints.atN ((HO3.out.kept HB7.out).kept hbl).ints hkL
                    rw [HLL.a] at he3
                    cases he3
                    have HX := Lib.hid (show Sch.lastW t q (k + 1) = if (t.getD k Sch.d3).2.1 = q ∧ (t.getD k Sch.d3).2.2 = 1 then (k : Int) else Sch.lastW t q k from rfl)
                    have HY := Lib.hid (show yOf L (Sch.lastW (told t L) q (k + 1)) = if ((told t L).getD k Sch.d3).2.1 = q ∧ ((told t L).getD k Sch.d3).2.2 = 1 then ((L.getD k 0 : Nat) : Int) else yOf L (Sch.lastW (told t L) q k) by
                      rw [show Sch.lastW (told t L) q (k + 1) = if ((told t L).getD k Sch.d3).2.1 = q ∧ ((told t L).getD k Sch.d3).2.2 = 1 then (k : Int) else Sch.lastW (told t L) q k from rfl]
                      split
                      · unfold yOf; rw [if_neg (by omega), Int.toNat_natCast]
                      · rfl)
                    have r1 := (HOKD.out k).2.2
                    have r2 := (Sch.getD_ok HT3.out k).2.2
                    generalize t.getD k Sch.d3 = a at *
                    generalize (told t L).getD k Sch.d3 = c at *
                    obtain ⟨a0, a1, a2⟩ := a
                    obtain ⟨c0, c1, c2⟩ := c
                    simp only at d0 d1 d2 f0 f1 f2 r1 r2 HX HY
                    generalize L.getD k 0 = x at *
                    generalize Sch.lastW t q k = lx at *
                    generalize yOf L (Sch.lastW (told t L) q k) = ly at *
                    have h1 : (((a1 : Int) == (q : Int)) = false ∧ Sch.lastW t q (k + 1) = lx) ∨ (a1 = q ∧ a2 = 1 ∧ Sch.lastW t q (k + 1) = (k : Int)) ∨ (a1 = q ∧ a2 = 0 ∧ Sch.lastW t q (k + 1) = lx) := by
                      by_cases h : a1 = q
                      · by_cases h' : a2 = 1
                        · exact .inr (.inl ⟨h, h', by rw [HX.out, if_pos ⟨h, h'⟩]⟩)
                        · exact .inr (.inr ⟨h, by omega, by rw [HX.out, if_neg (fun g => h' g.2)]⟩)
                      · exact .inl ⟨by simp; omega, by rw [HX.out, if_neg (fun g => h g.1)]⟩
                    have h2 : (((c1 : Int) == (q : Int)) = false ∧ yOf L (Sch.lastW (told t L) q (k + 1)) = ly) ∨ (c1 = q ∧ c2 = 1 ∧ yOf L (Sch.lastW (told t L) q (k + 1)) = (x : Int)) ∨ (c1 = q ∧ c2 = 0 ∧ yOf L (Sch.lastW (told t L) q (k + 1)) = ly) := by
                      by_cases h : c1 = q
                      · by_cases h' : c2 = 1
                        · exact .inr (.inl ⟨h, h', by rw [HY.out, if_pos ⟨h, h'⟩]⟩)
                        · exact .inr (.inr ⟨h, by omega, by rw [HY.out, if_neg (fun g => h' g.2)]⟩)
                      · exact .inl ⟨by simp; omega, by rw [HY.out, if_neg (fun g => h g.1)]⟩
                    clear HX HY r1 r2 hlT hkT
                    rcases h1 with ⟨t1, hx⟩ | ⟨rfl, rfl, hx⟩ | ⟨rfl, rfl, hx⟩
                    · have HX := Lib.hid hx
                      clear hx
                      rcases h2 with ⟨t2, hy⟩ | ⟨hc, rfl, hy⟩ | ⟨hc, rfl, hy⟩
                      · have HY := Lib.hid hy
                        clear hy
                        go_wp2_with fail
                        go_roundw
                        case rel => exact ⟨k + 1, by omega, by go_num, by rw [HX.out], by rw [HY.out], hbl⟩
                        case measure => simp [intOf]; omega
                      · subst hc
                        have HY := Lib.hid hy
                        clear hy
                        go_wp2_with fail
                        go_roundw
                        case rel => exact ⟨k + 1, by omega, by go_num, by rw [HX.out], by rw [HY.out], hbl⟩
                        case measure => simp [intOf]; omega
                      · subst hc
                        have HY := Lib.hid hy
                        clear hy
                        go_wp2_with fail
                        go_roundw
                        case rel => exact ⟨k + 1, by omega, by go_num, by rw [HX.out], by rw [HY.out], hbl⟩
                        case measure => simp [intOf]; omega
                    · have HX := Lib.hid hx
                      clear hx
                      rcases h2 with ⟨t2, hy⟩ | ⟨hc, rfl, hy⟩ | ⟨hc, rfl, hy⟩
                      · have HY := Lib.hid hy
                        clear hy
                        go_wp2_with fail
                        go_roundw
                        case rel => exact ⟨k + 1, by omega, by go_num, by rw [HX.out], by rw [HY.out], hbl⟩
                        case measure => simp [intOf]; omega
                      · subst hc
                        have HY := Lib.hid hy
                        clear hy
                        go_wp2_with fail
                        go_roundw
                        case rel => exact ⟨k + 1, by omega, by go_num, by rw [HX.out], by rw [HY.out], hbl⟩
                        case measure => simp [intOf]; omega
                      · subst hc
                        have HY := Lib.hid hy
                        clear hy
                        go_wp2_with fail
                        go_roundw
                        case rel => exact ⟨k + 1, by omega, by go_num, by rw [HX.out], by rw [HY.out], hbl⟩
                        case measure => simp [intOf]; omega
                    · have HX := Lib.hid hx
                      clear hx
                      rcases h2 with ⟨t2, hy⟩ | ⟨hc, rfl, hy⟩ | ⟨hc, rfl, hy⟩
                      · have HY := Lib.hid hy
                        clear hy
                        go_wp2_with fail
                        go_roundw
                        case rel => exact ⟨k + 1, by omega, by go_num, by rw [HX.out], by rw [HY.out], hbl⟩
                        case measure => simp [intOf]; omega
                      · subst hc
                        have HY := Lib.hid hy
                        clear hy
                        go_wp2_with fail
                        go_roundw
                        case rel => exact ⟨k + 1, by omega, by go_num, by rw [HX.out], by rw [HY.out], hbl⟩
                        case measure => simp [intOf]; omega
                      · subst hc
                        have HY := Lib.hid hy
                        clear hy
                        go_wp2_with fail
                        go_roundw
                        case rel => exact ⟨k + 1, by omega, by go_num, by rw [HX.out], by rw [HY.out], hbl⟩
                        case measure => simp [intOf]; omega
                  · obtain rfl : k = t.length := by omega
                    rw [HFIN.out]
                    generalize yOf L (Sch.lastW (told t L) q t.length) = ly at *
                    clear hkl
                    go_wp2_with fail
                    go_roundw
                    case rel => exact ⟨q + 1, by omega, by go_num, hbl⟩
                    case measure => simp [intOf]; omega
              · obtain rfl : q = 4 := by omega
                clear hq4
                go_wp2_with fail
                go_ret
                exact ⟨rfl, HBW.out.trans (hbl.mono HBW.out.size)⟩
/-- the law at every input -/
theorem ssame_calls (v : Value) (recs : List (List Int)) (w : World) (hr : Rd w w.heap.size 3 v recs.length (recs.flatMap fun r => r.map iv)) (hl : ∀ r ∈ recs, r.length = 3) :
    Calls Try.prog 6 #[v] w fun e w' => e = .returned (.bool true) ∧ Below w.heap.size w w' := by
  obtain ⟨s, hs⟩ := acts_of_recs hr hl
  by_cases hc : actsCode s = 0
  · obtain ⟨t, rfl, h1, h2⟩ := nat_acts3 hc
    exact ssame_ok t v w hs h1 h2
  · exact ssame_err s v w hs hc
end Go.Proofs.Ytkindaadadggoaa
