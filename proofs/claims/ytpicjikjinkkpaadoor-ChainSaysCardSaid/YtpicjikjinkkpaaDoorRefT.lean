/- Contracts of the reference for orders: Turned, With, More. Conditions: each contract's own premises. -/
import Derived.Test.YtpicjikjinkkpaaDoorRefO
namespace Go.Proofs.YtpicjikjinkkpaaDoor
open Go.RowKit

theorem Odr.take_turned {m : List Nat} {k : Nat} (hk : k < m.length) : (Odr.turned m).take (k + 1) = (Odr.turned m).take k ++ [Odr.mk m.length fun i => Odr.rel (Odr.closed m) i k] := by
  rw [List.take_succ_eq_append_getElem (by rw [Odr.length_turned]; exact hk)]
  congr 1
  simp only [Odr.turned, List.getElem_map, List.getElem_range]
set_option maxHeartbeats 2000000 in
theorem rturned_calls (m : List Nat) (v : Value) (w : World) (hr : Ints w w.heap.size v (zs m)) (hlen : m.length ≤ 12) (hf : Odr.Fits m) :
    Calls Tryd.prog 48 #[v] w fun e w' => ∃ v', e = .returned v' ∧ Own w' w.heap.size v' (zs (Odr.turned m)) ∧ Below w.heap.size w w' := by
  have HC := Lib.hid (rclosed_calls m v w.heap.size w (Nat.le_refl _) hr hlen hf)
  have hfc := Lib.hid hf.closed
  have hcl := Odr.length_closed m
  have HTT := Lib.hid fun k (hk : k < m.length) => Odr.take_turned (m := m) hk
  have HTA := Lib.hid (show (Odr.turned m).take m.length = Odr.turned m from List.take_of_length_le (by rw [Odr.length_turned]; omega))
  have HTL := Lib.hid fun k (hk : k ≤ m.length) => (show ((Odr.turned m).take k).length = k by rw [List.length_take, Odr.length_turned]; omega)
  clear hr hf
  go_enter Tryd.func48, Tryd.ntmps48
  go_wp2_with fail
  refine HC.out.mono ?_
  rintro e w1 ⟨u, rfl, hown, hb⟩
  clear HC
  obtain ⟨A, cap, rfl⟩ := Rd.val hown.ints
  rw [length_zs, hcl] at hown ⊢
  have HI := Lib.hid hown.ints
  have HB := Lib.hid hb
  clear hown hb
  go_wp2_with fail
  go_loopw [4, 5] (fun o i wr => ∃ k : Nat, k ≤ m.length ∧ i = nv k ∧ Own wr w1.heap.size o (zs ((Odr.turned m).take k)) ∧ Below w1.heap.size w1 wr) (fun _ i _ => m.length - (intOf i).toNat)
  case atStart => exact ⟨0, Nat.zero_le _, rfl, Own.nil _ _, Below.refl _ _⟩
  case round =>
    obtain ⟨k, hk, rfl, hown, hb⟩ := hrel
    have hbs := hb.size
    obtain ⟨wo, rfl⟩ : ∃ wo : World, wo = wr := ⟨_, rfl⟩
    by_cases hkm : k < m.length
    · have HII := Lib.hid (Rd.below HI.out hb)
      go_wp2_with fail
      go_loop [6, 7] (fun s j => ∃ (q z : Nat), q ≤ m.length ∧ j = nv q ∧ s = nv z ∧ z < 4096 ∧ Hid (z = Odr.mk q fun i => Odr.rel (Odr.closed m) i k)) (fun _ j => m.length - (intOf j).toNat)
      case atStart => exact ⟨0, 0, Nat.zero_le _, rfl, rfl, by omega, Lib.hid rfl⟩
      case round =>
        obtain ⟨q, z, hq, rfl, rfl, hz, hzz⟩ := hrel
        by_cases hqm : q < m.length
        · obtain ⟨b0, off, cap', he, _, hc⟩ := Ints.atN HII.out (k := q) (by omega)
          rw [hcl] at he
          injection he with he1 he2 he3
          subst he1 he3
          clear he2
          have hx12 : (Odr.closed m).getD q 0 < 4096 := fits12 (l := Odr.closed m) (by omega) (hfc.out.getD q)
          have hB := Lib.hid (bit12 ((Odr.closed m).getD q 0) k wo hx12 (by omega))
          rw [show ((Odr.closed m).getD q 0).testBit k = Odr.rel (Odr.closed m) q k from rfl] at hB
          have hP := Lib.hid (pow2_calls q wo (by omega))
          have hmk := Lib.hid (show Odr.mk (q + 1) (fun i => Odr.rel (Odr.closed m) i k) = if Odr.rel (Odr.closed m) q k = true then 2 ^ q + z else z by rw [Odr.mk, ← hzz.out])
          have hmlt := Lib.hid (Odr.mk_lt (q + 1) fun i => Odr.rel (Odr.closed m) i k)
          have h12 : 2 ^ (q + 1) ≤ 4096 := show 2 ^ (q + 1) ≤ 2 ^ 12 from Nat.pow_le_pow_right (by omega) (by omega)
          generalize (Odr.closed m).getD q 0 = x at *
          cases hbit : Odr.rel (Odr.closed m) q k with
          | false =>
            rw [hbit] at hB
            have hn := Lib.hid (show z = Odr.mk (q + 1) fun i => Odr.rel (Odr.closed m) i k by rw [hmk.out, hbit]; simp)
            clear hbit hmk hmlt hzz
            go_wp2_with fail
            refine hB.out.mono ?_
            rintro e w' ⟨rfl, rfl⟩
            clear hB
            go_wp2_with fail
            go_round
            case rel => exact ⟨q + 1, z, by omega, by go_num, rfl, hz, hn⟩
            case measure => simp [intOf]; omega
          | true =>
            rw [hbit] at hB
            have hn := Lib.hid (show z + 2 ^ q = Odr.mk (q + 1) fun i => Odr.rel (Odr.closed m) i k by rw [hmk.out, hbit, if_pos rfl]; omega)
            have hlt : z + 2 ^ q < 4096 := by have := hmlt.out; have := hn.out; omega
            clear hbit hmk hmlt hzz
            generalize 2 ^ q = y at *
            go_wp2_with fail
            refine hB.out.mono ?_
            rintro e w' ⟨rfl, rfl⟩
            clear hB
            go_wp2_with fail
            refine hP.out.mono ?_
            rintro e w' ⟨rfl, rfl⟩
            clear hP
            go_wp2_with fail
            go_round
            case rel => exact ⟨q + 1, z + y, by omega, by go_num, by go_num, hlt, hn⟩
            case measure => simp [intOf]; omega
        · obtain rfl : q = m.length := by omega
          have htk := HTT.out k hkm
          rw [← hzz.out] at htk
          have HTK := Lib.hid htk
          have HTLk := Lib.hid (HTL.out k hk)
          clear hqm htk hzz
          go_wp2_with (at_builtin; refine append_int rfl _ _ rfl w1.heap.size _ (zs ((Odr.turned m).take k)) rfl (Own.alloc hown _) wo.heap.size rfl z (by simp) (by rw [length_zs, HTLk.out]; omega) (by simp; omega) ?_; intro v' w2 hown1 hb1 _)
          go_roundw
          case rel => exact ⟨k + 1, by omega, by go_num, by rw [HTK.out]; simpa [zs] using hown1, (hb.alloc hbs _).trans hb1⟩
          case measure => simp [intOf]; omega
    · obtain rfl : k = m.length := by omega
      rw [HTA.out] at hown
      have HF := Lib.hid (And.intro (hown.lower HB.out.size) (HB.out.trans (hb.mono HB.out.size)))
      clear hown hb hkm
      go_wp2_with fail
      go_ret
      exact ⟨_, rfl, HF.out.1, HF.out.2⟩
theorem rwith_calls (s i : Nat) (w : World) (hs : s < 4096) (hi : i < 12) : Calls Tryd.prog 71 #[nv s, nv i] w fun e w' => e = .returned (nv (s ||| 2 ^ i)) ∧ w = w' := by
  have hB := Lib.hid (bit12 s i w hs (by omega))
  have hP := Lib.hid (pow2_calls i w (by omega))
  have h12 : 2 ^ i ≤ 2048 := show 2 ^ i ≤ 2 ^ 11 from Nat.pow_le_pow_right (by omega) (by omega)
  cases hbit : s.testBit i with
  | true =>
    rw [hbit] at hB
    have HO := Lib.hid (show s ||| 2 ^ i = s by
      apply Nat.eq_of_testBit_eq
      intro k
      rw [Nat.testBit_or, Odr.testBit_two_pow']
      by_cases h : i = k
      · subst h; simp [hbit]
      · simp [h])
    clear hbit
    go_enter Tryd.func71, Tryd.ntmps71
    go_wp2_with fail
    refine hB.out.mono ?_
    rintro e w' ⟨rfl, rfl⟩
    clear hB
    go_wp2_with fail
    go_ret
    exact ⟨by rw [HO.out]; rfl, rfl⟩
  | false =>
    rw [hbit] at hB
    have HO := Lib.hid (show s ||| 2 ^ i = s + 2 ^ i from Odr.or_bit hbit)
    clear hbit
    obtain ⟨y, hy⟩ : ∃ y, y = 2 ^ i := ⟨_, rfl⟩
    rw [← hy] at hP HO h12 ⊢
    clear hy
    go_enter Tryd.func71, Tryd.ntmps71
    go_wp2_with fail
    refine hB.out.mono ?_
    rintro e w' ⟨rfl, rfl⟩
    clear hB
    go_wp2_with fail
    refine hP.out.mono ?_
    rintro e w' ⟨rfl, rfl⟩
    clear hP
    go_wp2_with fail
    go_ret
    refine ⟨?_, rfl⟩
    rw [HO.out]
    show Ending.returned (.int .i64 ((s : Int) + (y : Int))) = Ending.returned (.int .i64 ((s + y : Nat) : Int))
    rw [Int.natCast_add]
theorem Odr.take_more {m : List Nat} {a b k : Nat} (hk : k < m.length) : (Odr.more m a b).take (k + 1) = (Odr.more m a b).take k ++ [if k = a then m.getD k 0 ||| 2 ^ b else m.getD k 0] := by
  have hl : k < (Odr.more m a b).length := by rw [Odr.length_more]; exact hk
  rw [List.take_succ_eq_append_getElem hl]
  congr 2
  have e : (Odr.more m a b)[k]? = some (if k = a then m.getD k 0 ||| 2 ^ b else m.getD k 0) := by
    unfold Odr.more
    rw [List.getElem?_set]
    by_cases h : a = k
    · subst h; simp [hk]
    · have h2 : ¬ k = a := fun e => h e.symm
      rw [if_neg h, if_neg h2, List.getD_eq_getElem?_getD, List.getElem?_eq_getElem hk]; rfl
  exact Option.some.inj ((List.getElem?_eq_getElem hl).symm.trans e)
set_option maxHeartbeats 2000000 in
theorem rmore_calls (m : List Nat) (v : Value) (a b : Nat) (w : World) (hr : Ints w w.heap.size v (zs m)) (hlen : m.length ≤ 12) (hf : Odr.Fits m) (hb12 : b < 12) :
    Calls Tryd.prog 49 #[v, nv a, nv b] w fun e w' => ∃ v', e = .returned v' ∧ Own w' w.heap.size v' (zs (Odr.more m a b)) ∧ Below w.heap.size w w' := by
  have HFF := Lib.hid hf
  have HTT := Lib.hid fun k (hk : k < m.length) => Odr.take_more (m := m) (a := a) (b := b) hk
  have HTA := Lib.hid (show (Odr.more m a b).take m.length = Odr.more m a b from List.take_of_length_le (by rw [Odr.length_more]; omega))
  have HTL := Lib.hid fun k (hk : k ≤ m.length) => (show ((Odr.more m a b).take k).length = k by rw [List.length_take, Odr.length_more]; omega)
  obtain ⟨A, cap, rfl⟩ := Rd.val hr
  have hlz : (zs m).length = m.length := by simp
  rw [hlz] at hr ⊢
  clear hf hlz
  go_enter Tryd.func49, Tryd.ntmps49
  go_wp2_with fail
  go_loopw [7, 8] (fun o i wr => ∃ k : Nat, k ≤ m.length ∧ i = nv k ∧ Own wr w.heap.size o (zs ((Odr.more m a b).take k)) ∧ Below w.heap.size w wr) (fun _ i _ => m.length - (intOf i).toNat)
  case atStart => exact ⟨0, Nat.zero_le _, rfl, Own.nil _ _, Below.refl _ _⟩
  case round =>
    obtain ⟨k, hk, rfl, hown, hb⟩ := hrel
    have hbs := hb.size
    obtain ⟨wo, rfl⟩ : ∃ wo : World, wo = wr := ⟨_, rfl⟩
    by_cases hkm : k < m.length
    · obtain ⟨b0, off, cap', he, _, hc⟩ := Ints.atN (Rd.below hr hb) (k := k) hkm
      injection he with he1 he2 he3
      subst he1 he3
      clear he2
      have hx12 : m.getD k 0 < 4096 := fits12 hlen (HFF.out.getD k)
      have htk := HTT.out k hkm
      have HTLk := Lib.hid (HTL.out k hk)
      have hW := Lib.hid (rwith_calls (m.getD k 0) b wo hx12 hb12)
      generalize m.getD k 0 = x at *
      by_cases hka : k = a
      · subst hka
        rw [if_pos rfl] at htk
        have HTK := Lib.hid htk
        clear htk
        obtain ⟨y, hy⟩ : ∃ y, y = x ||| 2 ^ b := ⟨_, rfl⟩
        rw [← hy] at HTK hW
        clear hy
        go_wp2_with fail
        refine hW.out.mono ?_
        rintro e w' ⟨rfl, rfl⟩
        clear hW
        go_wp2_with (at_builtin; refine append_int rfl _ _ rfl w.heap.size _ (zs ((Odr.more m k b).take k)) rfl (Own.alloc hown _) wo.heap.size rfl y (by simp) (by rw [length_zs, HTLk.out]; omega) (by simp; omega) ?_; intro v' w2 hown1 hb1 _)
        go_roundw
        case rel => exact ⟨k + 1, by omega, by go_num, by rw [HTK.out]; simpa [zs] using hown1, (hb.alloc hbs _).trans hb1⟩
        case measure => simp [intOf]; omega
      · rw [if_neg hka] at htk
        have HTK := Lib.hid htk
        have hne : ((k : Int) == (a : Int)) = false := by simp; omega
        clear htk hka hW
        go_wp2_with (at_builtin; refine append_int rfl _ _ rfl w.heap.size _ (zs ((Odr.more m a b).take k)) rfl (Own.alloc hown _) wo.heap.size rfl x (by simp) (by rw [length_zs, HTLk.out]; omega) (by simp; omega) ?_; intro v' w2 hown1 hb1 _)
        go_roundw
        case rel => exact ⟨k + 1, by omega, by go_num, by rw [HTK.out]; simpa [zs] using hown1, (hb.alloc hbs _).trans hb1⟩
        case measure => simp [intOf]; omega
    · obtain rfl : k = m.length := by omega
      rw [HTA.out] at hown
      have HF := Lib.hid (And.intro hown hb)
      clear hown hb hkm
      go_wp2_with fail
      go_ret
      exact ⟨_, rfl, HF.out.1, HF.out.2⟩
end Go.Proofs.YtpicjikjinkkpaaDoor
