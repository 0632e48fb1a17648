/- The contract of core.Row: the least row that goes by edges, or none. Conditions: the contract's own premises. -/
import Derived.Test.YtkindaadadggoaaDoorRow12
import Derived.Test.YtkindaadadggoaaDoorRowM
namespace Go.Proofs.YtkindaadadggoaaDoor
open Go.RowKit

set_option maxHeartbeats 1000000 in
theorem row_calls (l : List Nat) (v : Value) (B : Nat) (w : World) (hB : B ≤ w.heap.size) (hr : Ints w B v (zs l)) (hlen : l.length ≤ 12) (hf : Odr.Fits l) :
    Calls Tryd.prog 64 #[v] w fun e w' => Below w.heap.size w w' ∧
      ((Rw.row l = none ∧ e = .returned (.tuple #[.slice none 0 0, .bool false])) ∨ ∃ out v', Rw.row l = some out ∧ e = .returned (.tuple #[v', .bool true]) ∧ Own w' w.heap.size v' (zs out)) := by
  have HF := Lib.hid hf
  clear hf
  have hv := Rd.val hr
  obtain ⟨A, cap, rfl⟩ := hv
  simp only [length_zs] at *
  go_enter Tryd.func64, Tryd.ntmps64
  go_wp2_with fail
  go_loopw [4, 5] (fun o d wr => ∃ (out : List Nat) (dn : Nat), out.length ≤ l.length ∧ d = nv dn ∧ dn < 4096 ∧ Own wr w.heap.size o (zs out) ∧ Below w.heap.size w wr ∧
      Hid (Rw.go l (l.length - out.length) out dn = Rw.row l)) (fun o _ _ => l.length - lenOf o)
  case atStart => exact ⟨[], 0, Nat.zero_le _, rfl, by decide, Own.nil _ _, Below.refl _ _, Lib.hid rfl⟩
  case round =>
    obtain ⟨out, dn, hol, rfl, hdn, hown, hb, hgo⟩ := hrel
    obtain ⟨Ao, capo, rfl⟩ := Rd.val hown.ints
    rw [length_zs] at *
    have hbs := hb.size
    obtain ⟨wo, rfl⟩ : ∃ wo : World, wo = wr := ⟨_, rfl⟩
    by_cases hlt : out.length < l.length
    · go_wp2_with fail
      go_loop [17, 6] (fun i nx => ∃ k : Nat, k ≤ l.length ∧ i = .int .i64 k ∧ nx = .int .i64 (-1) ∧ Hid (∀ j, j < k → Rw.free l dn j = false)) (fun i _ => l.length - (intOf i).toNat)
      case atStart => exact ⟨0, Nat.zero_le _, rfl, rfl, Lib.hid (fun j hj => absurd hj (by omega))⟩
      case round =>
        obtain ⟨k, hk, rfl, rfl, hno⟩ := hrel
        by_cases hkl : k < l.length
        · go_wp2_with (go_at_call 58; refine (has12 _ _ _ hdn (by omega)).mono ?_; rintro e w' ⟨rfl, rfl⟩)
          go_loop [8, 26] (fun f j => ∃ (m : Nat) (b : Bool), m ≤ l.length ∧ j = .int .i64 m ∧ f = .bool b ∧ Hid (b = Rw.freeTo l dn k m)) (fun _ j => l.length - (intOf j).toNat)
          case atStart => exact ⟨0, !dn.testBit k, Nat.zero_le _, rfl, rfl, Lib.hid rfl⟩
          case round =>
            obtain ⟨m, b, hm, rfl, rfl, hb'⟩ := hrel
            by_cases hml : m < l.length
            · obtain ⟨b0, off, cap', he, _, hc⟩ := Ints.atN (Rd.below hr (hb.mono hB)) hml
              cases he
              have hx12 : l.getD m 0 < 4096 := by
                have h1 := HF.out.getD m
                have h2 : 2 ^ l.length ≤ 2 ^ 12 := Nat.pow_le_pow_right (by omega) hlen
                omega
              obtain ⟨x, hx⟩ : ∃ x, x = l.getD m 0 := ⟨_, rfl⟩
              rw [← hx] at hc hx12
              have HX := Lib.hid hx
              have hrel' : Rw.freeTo l dn k (m + 1) = (b && (dn.testBit m || !x.testBit k)) := by
                rw [Rw.freeTo, ← hb'.out]
                unfold Odr.rel
                rw [HX.out]
              have HR := Lib.hid hrel'
              clear hx hrel' hr
              cases b with
              | false =>
                go_wp2
                go_round
                case rel => exact ⟨m + 1, false, by omega, by go_num, rfl, Lib.hid (by rw [HR.out]; rfl)⟩
                case measure => simp [intOf]; omega
              | true =>
                by_cases hd : dn.testBit m = true
                · go_wp2_with (go_at_call 58; refine (has12 _ _ _ hdn (by omega)).mono ?_; rintro e w' ⟨rfl, rfl⟩)
                  go_round
                  case rel => exact ⟨m + 1, true, by omega, by go_num, rfl, Lib.hid (by rw [HR.out, hd]; rfl)⟩
                  case measure => simp [intOf]; omega
                · have hd' : dn.testBit m = false := by simpa using hd
                  clear hd
                  go_wp2_with (go_at_call 58; refine (has12 _ _ _ (by omega) (by omega)).mono ?_; rintro e w' ⟨rfl, rfl⟩)
                  go_round
                  case rel => exact ⟨m + 1, !x.testBit k, by omega, by go_num, rfl, Lib.hid (by rw [HR.out, hd']; rfl)⟩
                  case measure => simp [intOf]; omega
            · obtain rfl : m = l.length := by omega
              clear hml
              have hbf : b = Rw.free l dn k := hb'.out
              have HBF := Lib.hid hbf
              clear hbf
              cases b with
              | true =>
                have hnext := Rw.next_some hkl HBF.out.symm hno.out
                have hgo' : Rw.go l (l.length - (out.length + 1)) (out ++ [k]) (dn ||| 2 ^ k) = Rw.row l := by
                  rw [← hgo.out, show l.length - out.length = (l.length - (out.length + 1)) + 1 from by omega, Rw.go, hnext]
                have HGO := Lib.hid hgo'
                have HDN := Lib.hid (show dn ||| 2 ^ k < 2 ^ 12 from Nat.or_lt_two_pow (by omega) (Nat.pow_lt_pow_right (by omega) (by omega)))
                clear hnext hgo'
                go_wp2_with (at_builtin; refine append_int rfl _ _ rfl w.heap.size _ (zs out) rfl (Own.alloc hown _) wo.heap.size rfl k (by simp) (by rw [length_zs]; omega) (by simp; omega) ?_; intro v' w1 hown1 hb1 _; obtain ⟨A1, c1, rfl⟩ := Rd.val hown1.ints)
                go_roundw
                case rel => exact ⟨out ++ [k], dn ||| 2 ^ k, by simp; omega, by rw [bits_or_shl _ _ (by omega) (by omega)], HDN.out, by simpa [zs] using hown1, (hb.alloc hbs _).trans hb1, Lib.hid (by simpa using HGO.out)⟩
                case measure => simp [lenOf]; omega
              | false =>
                go_wp2_with fail
                go_round
                case rel => exact ⟨k + 1, by omega, by go_num, rfl, Lib.hid (fun j hj => by
                  by_cases hjk : j < k
                  · exact hno.out j hjk
                  · obtain rfl : j = k := by omega
                    exact HBF.out.symm)⟩
                case measure => simp [intOf]; omega
        · obtain rfl : k = l.length := by omega
          clear hkl
          have hnone : Rw.row l = none := by
            rw [← hgo.out, show l.length - out.length = (l.length - (out.length + 1)) + 1 from by omega, Rw.go, Rw.next_none hno.out]
          have HN := Lib.hid hnone
          clear hnone
          go_wp2_with fail
          go_ret2
          exact ⟨hb, .inl ⟨HN.out, rfl⟩⟩
    · have hsome : Rw.row l = some out := by
        rw [← hgo.out, show l.length - out.length = 0 from by omega, Rw.go]
      have HS := Lib.hid hsome
      clear hsome
      go_wp2_with fail
      go_ret2
      exact ⟨hb, .inr ⟨out, _, HS.out, rfl, hown⟩⟩

end Go.Proofs.YtkindaadadggoaaDoor
