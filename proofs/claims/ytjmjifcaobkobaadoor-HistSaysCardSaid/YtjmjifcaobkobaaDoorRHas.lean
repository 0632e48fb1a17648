/- Contract of the reference's has. Conditions: the contract's own premises. -/
import Derived.Test.YtjmjifcaobkobaaDoorRStk
import Derived.ChangeKeysEq
import Derived.Deep.QuietTactic
namespace Go.Proofs.YtjmjifcaobkobaaDoor
open Go.RowKit Go.Maps His

set_option maxRecDepth 20000 in
theorem eq_t3 (d : Nat) (a b c x y z : Nat) (w : World) : (Op.equalIn (d + 2) 44 (.agg #[nv a, nv b, nv c]) (.agg #[nv x, nv y, nv z])).run Tryd.prog w = .ok (decide ((a, b, c) = (x, y, z))) w := by
  have hu : Tryd.prog.underlying 44 = some (.array 3 3) := Tryd.underlying44
  obtain ⟨i0, hi, hz0, hz1, hz2⟩ := info_parts Tryd.infoInt
  rw [run_equalIn_array w (d + 1) _ _ hu hi]
  have hc : Tryd.prog.cellsOf 3 = 1 := by kernel_rfl
  have h1 : ∀ (p q : Nat) (w : World), (Op.equalIn (d + 1) 3 (nv p) (nv q)).run Tryd.prog w = .ok ((p : Int) == (q : Int)) w := fun p q w => run_equalIn_int w d 3 .i64 .i64 p q Tryd.underlying3
  rw [hc, show List.range 3 = [0, 1, 2] from rfl]
  by_cases e1 : a = x <;> by_cases e2 : b = y <;> by_cases e3 : c = z <;> simp [Op.eqItems, part, h1, e1, e2, e3, Int.ofNat_inj]
set_option maxRecDepth 20000 in
set_option maxHeartbeats 2000000 in
theorem rhas_calls {w : World} {b g N n : Nat} {G : Nat → List Nat → Prop} {vs : List Value} {L : Nat → List T3} (h : StkAt w b g N n G vs L) (d : Nat) (hd : d < N) (hn : n ≤ 2 ^ 41) (x y z : Nat) :
    Calls Tryd.prog 20 #[.pointer (some ⟨b, 0, none⟩), nv d, .agg #[nv x, nv y, nv z]] w fun e w' => e = .returned (.bool (decide ((x, y, z) ∈ L d))) ∧ Below w.heap.size w w' := by
  have HS := Lib.hid h
  have hlen := Nat.le_trans (h.few d hd) hn
  have HOW := Lib.hid (h.own d hd)
  have HMM := Lib.hid (show (x, y, z) ∈ L d ↔ ∃ j, j < (L d).length ∧ (L d).getD j (0, 0, 0) = (x, y, z) from by
    rw [List.mem_iff_getElem]
    constructor
    · rintro ⟨j, hj, e⟩
      exact ⟨j, hj, by rw [List.getD_eq_getElem?_getD, List.getElem?_eq_getElem hj]; exact e⟩
    · rintro ⟨j, hj, e⟩
      refine ⟨j, hj, ?_⟩
      rw [List.getD_eq_getElem?_getD, List.getElem?_eq_getElem hj] at e
      exact e)
  have HYES := Lib.hid fun (j : Nat) (hj : j < (L d).length) (e : (L d).getD j (0, 0, 0) = (x, y, z)) => show decide ((x, y, z) ∈ L d) = true from decide_eq_true (HMM.out.2 ⟨j, hj, e⟩)
  have HNO := Lib.hid fun (e : ∀ j, j < (L d).length → (L d).getD j (0, 0, 0) ≠ (x, y, z)) => show decide ((x, y, z) ∈ L d) = false from decide_eq_false (fun hm => by
    obtain ⟨j, hj, e'⟩ := HMM.out.1 hm
    exact e j hj e')
  clear HMM
  generalize decide ((x, y, z) ∈ L d) = R at *
  obtain ⟨A, cap, hv⟩ := HOW.out.val
  generalize hl : L d = l at *
  clear hl h
  generalize hvd : vs.getD d vnil = vd at *
  subst hv
  have HVD := Lib.hid hvd
  clear hvd
  have id1 : (d : Int) < (N : Int) := by omega
  go_enter Tryd.func20, Tryd.ntmps20
  go_wp2_with fail
  obtain ⟨W, hW⟩ : ∃ W, W = w.alloc (.cells #[nv x, nv y, nv z] 44) := ⟨_, rfl⟩
  have hbw : Below w.heap.size w W := by rw [hW]; exact (Below.refl _ _).alloc (Nat.le_refl _) _
  have k0 : W.cell? ⟨w.heap.size, 0, none⟩ = some (nv x) := by rw [hW, World.cell?_alloc_new]; rfl
  have k1 : W.cell? ⟨w.heap.size, 1, none⟩ = some (nv y) := by rw [hW, World.cell?_alloc_new]; rfl
  have k2 : W.cell? ⟨w.heap.size, 2, none⟩ = some (nv z) := by rw [hW, World.cell?_alloc_new]; rfl
  have hsz : w.heap.size < W.heap.size := by rw [hW]; simp
  rw [← hW]
  clear hW
  have HBW := Lib.hid hbw
  have HK := Lib.hid (And.intro k0 (And.intro k1 k2))
  obtain ⟨B, hB⟩ : ∃ B, B = w.heap.size := ⟨_, rfl⟩
  rw [← hB] at HK hsz ⊢
  have HSZ := Lib.hid hsz
  have HB := Lib.hid hB
  clear hbw k0 k1 k2 hsz hB
  go_loopw [7] (fun iv wr => ∃ i : Nat, i ≤ l.length ∧ iv = nv i ∧ Hid (Below W.heap.size W wr) ∧ Hid (∀ j, j < i → l.getD j (0, 0, 0) ≠ (x, y, z))) (fun iv _ => l.length - (intOf iv).toNat)
  case atStart => exact ⟨0, Nat.zero_le _, rfl, Lib.hid (Below.refl _ _), Lib.hid fun j hj => absurd hj (Nat.not_lt_zero _)⟩
  case round =>
    obtain ⟨i, hi, rfl, hb, hno⟩ := hrel
    have hbb := HBW.out.trans (hb.out.mono HBW.out.size)
    have hs := HS.out.below hbb
    have c0 := hs.bx
    have c1 := hs.cell hd
    rw [HVD.out] at c1
    by_cases hil : i < l.length
    · have ow : OwnT wr (b + 1) (.slice A l.length cap) l := row_only HOW.out (Only.of_below hbb (Nat.le_refl _) (fun _ => False)) (fun _ _ h => h)
      obtain ⟨q, cap', he, -, d0, d1, d2⟩ := OwnT.at_ ow hil
      cases he
      have ed : l.getD i (0, 0, 0) = l[i] := by rw [List.getD_eq_getElem?_getD, List.getElem?_eq_getElem hil]; rfl
      have k0 := (hb.out.cell (p := ⟨B, 0, none⟩) HSZ.out).trans HK.out.1
      have k1 := (hb.out.cell (p := ⟨B, 1, none⟩) HSZ.out).trans HK.out.2.1
      have k2 := (hb.out.cell (p := ⟨B, 2, none⟩) HSZ.out).trans HK.out.2.2
      generalize hli : l[i] = t at *
      obtain ⟨ta, tb, tc⟩ := t
      simp only at d0 d1 d2
      have hq : ∀ w5 : World, (Op.equalIn 10000 44 (.agg #[nv ta, nv tb, nv tc]) (.agg #[nv x, nv y, nv z])).run Tryd.prog w5 = .ok (decide ((ta, tb, tc) = (x, y, z))) w5 := fun w5 => eq_t3 9998 ta tb tc x y z w5
      have ii : (i : Int) < (l.length : Int) := by omega
      have HBX := Lib.hid hb.out
      clear hs ow hbb hb hli
      cases hdec : decide ((ta, tb, tc) = (x, y, z)) with
      | true =>
        rw [hdec] at hq
        have HR := Lib.hid (HYES.out i hil (ed.trans (of_decide_eq_true hdec)))
        clear HYES HNO hno hdec ed
        go_wp2_with fail
        go_quiet (fail)
        go_wp2_with fail
        go_ret
        exact ⟨by rw [HR.out]; rfl, drn (HBW.out.trans (HBX.out.mono HBW.out.size)) _⟩
      | false =>
        rw [hdec] at hq
        have HN := Lib.hid fun (j : Nat) (hj : j < i + 1) => show l.getD j (0, 0, 0) ≠ (x, y, z) by
          by_cases e : j = i
          · rw [e, ed]; exact of_decide_eq_false hdec
          · exact hno.out j (by omega)
        clear HYES HNO hno hdec ed
        go_wp2_with fail
        go_quiet (fail)
        go_wp2_with fail
        go_roundw
        case rel => exact ⟨i + 1, by omega, by go_num, Lib.hid (drn HBX.out _), HN⟩
        case measure => simp [intOf]; omega
    · obtain rfl : i = l.length := by omega
      have HR := Lib.hid (HNO.out hno.out)
      have HBX := Lib.hid hb.out
      clear hs hbb hb HYES HNO hno
      go_wp2_with fail
      go_ret
      exact ⟨by rw [HR.out]; rfl, HBW.out.trans (HBX.out.mono HBW.out.size)⟩
end Go.Proofs.YtjmjifcaobkobaaDoor
