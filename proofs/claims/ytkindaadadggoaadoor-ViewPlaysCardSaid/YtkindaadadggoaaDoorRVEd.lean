/- Contract of the reference's ViewEdges. Conditions: the contract's own premises. -/
import Derived.Test.YtkindaadadggoaaDoorRLastOf
import Derived.Test.YtkindaadadggoaaDoorRefM
import Derived.Test.YtkindaadadggoaaDoorVWith
import Derived.Test.YtkindaadadggoaaDoorVTwo
import Derived.StillTailTactics
import Derived.Deep.CutRange
namespace Go.Proofs.YtkindaadadggoaaDoor
open Go.RowKit
/-- two rows of five sets, and the box of the store that they are reckoned of -/
structure Eg (w W : World) (B g1 g2 : Nat) (v : Value) (S : Nat) (X Y : List Nat) : Prop where
  ne : g1 ≠ g2
  l1 : B < g1
  l2 : B < g2
  c0 : W.cell? ⟨B, 0, none⟩ = some v
  c1 : W.cell? ⟨B, 1, none⟩ = some (nv S)
  o1 : Own W B (.slice (some ⟨g1, 0, none⟩) 5 5) (zs X)
  o2 : Own W B (.slice (some ⟨g2, 0, none⟩) 5 5) (zs Y)
  sz : B < W.heap.size
  bw : Below B w W
  fx : Vw.Five X
  fy : Vw.Five Y
section
variable {w W W' : World} {B g1 g2 : Nat} {v : Value} {S : Nat} {X Y : List Nat}
theorem Eg.cellX (h : Eg w W B g1 g2 v S X Y) {k : Nat} (hk : k < 5) : W.cell? ⟨g1, k, none⟩ = some (nv (X.getD k 0)) := by
  have := h.o1.lit.2.2.1 k (by rw [length_zs, h.fx.1]; exact hk)
  rw [zs_getElem] at this
  exact this
theorem Eg.cellY (h : Eg w W B g1 g2 v S X Y) {k : Nat} (hk : k < 5) : W.cell? ⟨g2, k, none⟩ = some (nv (Y.getD k 0)) := by
  have := h.o2.lit.2.2.1 k (by rw [length_zs, h.fy.1]; exact hk)
  rw [zs_getElem] at this
  exact this
theorem Eg.frX (h : Eg w W B g1 g2 v S X Y) (k : Nat) : W.frozen? ⟨g1, k, none⟩ = false := h.o1.lit.2.2.2.1 k
theorem Eg.frY (h : Eg w W B g1 g2 v S X Y) (k : Nat) : W.frozen? ⟨g2, k, none⟩ = false := h.o2.lit.2.2.2.1 k
theorem Eg.setX (h : Eg w W B g1 g2 v S X Y) (k n : Nat) (hf : Vw.Five (X.set k n)) : Eg w (W.setCell ⟨g1, k, none⟩ (.int .i64 (n : Int))) B g1 g2 v S (X.set k n) Y := by
  have hl1 := h.l1
  refine ⟨h.ne, h.l1, h.l2, ?_, ?_, ?_, h.o2.awayE _ _ h.ne, by simpa using h.sz, h.bw.setCell (p := ⟨g1, k, none⟩) (by show B ≤ g1; omega) _, hf, h.fy⟩
  · exact (World.cell?_setCell_far _ _ _ _ (by show g1 ≠ B; omega)).trans h.c0
  · exact (World.cell?_setCell_far _ _ _ _ (by show g1 ≠ B; omega)).trans h.c1
  · rw [← zs_set]; exact h.o1.lit.2.2.2.2 k n
theorem Eg.setY (h : Eg w W B g1 g2 v S X Y) (k n : Nat) (hf : Vw.Five (Y.set k n)) : Eg w (W.setCell ⟨g2, k, none⟩ (.int .i64 (n : Int))) B g1 g2 v S X (Y.set k n) := by
  have hl2 := h.l2
  refine ⟨h.ne, h.l1, h.l2, ?_, ?_, h.o1.awayE _ _ (Ne.symm h.ne), ?_, by simpa using h.sz, h.bw.setCell (p := ⟨g2, k, none⟩) (by show B ≤ g2; omega) _, h.fx, hf⟩
  · exact (World.cell?_setCell_far _ _ _ _ (by show g2 ≠ B; omega)).trans h.c0
  · exact (World.cell?_setCell_far _ _ _ _ (by show g2 ≠ B; omega)).trans h.c1
  · rw [← zs_set]; exact h.o2.lit.2.2.2.2 k n
theorem Eg.moreX (h : Eg w W B g1 g2 v S X Y) (k j : Nat) (hj : j < 5) : Eg w (W.setCell ⟨g1, k, none⟩ (.int .i64 ((X.getD k 0 ||| 2 ^ j : Nat) : Int))) B g1 g2 v S (Odr.more X k j) Y := h.setX k _ (h.fx.more hj)
theorem Eg.moreY (h : Eg w W B g1 g2 v S X Y) (k j : Nat) (hj : j < 5) : Eg w (W.setCell ⟨g2, k, none⟩ (.int .i64 ((Y.getD k 0 ||| 2 ^ j : Nat) : Int))) B g1 g2 v S X (Odr.more Y k j) := h.setY k _ (h.fy.more hj)
/-- a cell of the first row, and what is put into it: by names -/
theorem Eg.forX (h : Eg w W B g1 g2 v S X Y) {a b : Nat} (ha : a < 5) (hb : b < 5) (HWI : Hid (∀ (s i : Nat) (_ : s < 32) (_ : i < 5) (w5 : World), Calls Tryd.prog 28 #[nv s, nv i] w5 (fun e w' => e = .returned (nv (s ||| 2 ^ i)) ∧ w5 = w'))) :
    ∃ u : Nat × Nat, Hid (u = (X.getD a 0, X.getD a 0 ||| 2 ^ b)) ∧ W.cell? ⟨g1, a, none⟩ = some (nv u.1) ∧ Hid (∀ w5, Calls Tryd.prog 28 #[nv u.1, nv b] w5 (fun e w' => e = .returned (nv u.2) ∧ w5 = w')) :=
  ⟨_, Lib.hid rfl, h.cellX ha, Lib.hid fun w5 => HWI.out _ _ (h.fx.lt a) hb w5⟩
theorem Eg.forY (h : Eg w W B g1 g2 v S X Y) {a b : Nat} (ha : a < 5) (hb : b < 5) (HWI : Hid (∀ (s i : Nat) (_ : s < 32) (_ : i < 5) (w5 : World), Calls Tryd.prog 28 #[nv s, nv i] w5 (fun e w' => e = .returned (nv (s ||| 2 ^ i)) ∧ w5 = w'))) :
    ∃ u : Nat × Nat, Hid (u = (Y.getD a 0, Y.getD a 0 ||| 2 ^ b)) ∧ W.cell? ⟨g2, a, none⟩ = some (nv u.1) ∧ Hid (∀ w5, Calls Tryd.prog 28 #[nv u.1, nv b] w5 (fun e w' => e = .returned (nv u.2) ∧ w5 = w')) :=
  ⟨_, Lib.hid rfl, h.cellY ha, Lib.hid fun w5 => HWI.out _ _ (h.fy.lt a) hb w5⟩
theorem Eg.orX {xa un : Nat} (h : Eg w W B g1 g2 v S X Y) {a b : Nat} (hb : b < 5) (hx : Hid ((xa, un) = (X.getD a 0, X.getD a 0 ||| 2 ^ b))) : Eg w (W.setCell ⟨g1, a, none⟩ (.int .i64 (un : Int))) B g1 g2 v S (Odr.more X a b) Y := by
  rw [(Prod.mk.inj hx.out).2]; exact h.moreX a b hb
theorem Eg.orY {xa un : Nat} (h : Eg w W B g1 g2 v S X Y) {a b : Nat} (hb : b < 5) (hx : Hid ((xa, un) = (Y.getD a 0, Y.getD a 0 ||| 2 ^ b))) : Eg w (W.setCell ⟨g2, a, none⟩ (.int .i64 (un : Int))) B g1 g2 v S X (Odr.more Y a b) := by
  rw [(Prod.mk.inj hx.out).2]; exact h.moreY a b hb
theorem Eg.below (h : Eg w W B g1 g2 v S X Y) (hb : Below W.heap.size W W') : Eg w W' B g1 g2 v S X Y := by
  have hz := h.sz
  exact ⟨h.ne, h.l1, h.l2, (hb.cell (p := ⟨B, 0, none⟩) (by simp; omega)).trans h.c0, (hb.cell (p := ⟨B, 1, none⟩) (by simp; omega)).trans h.c1, h.o1.kept hb, h.o2.kept hb, Nat.le_trans hz hb.size, h.bw.trans (hb.mono (by omega)), h.fx, h.fy⟩
theorem Eg.drewN (h : Eg w W B g1 g2 v S X Y) (n : Nat) : Eg w (W.drewN n) B g1 g2 v S X Y := h.below (drn (Below.refl _ W) n)
theorem Eg.drew (h : Eg w W B g1 g2 v S X Y) : Eg w W.drew B g1 g2 v S X Y := h.below (Below.refl _ W).drew
end
theorem eg_laid {w w1 w2 : World} (v : Value) (S : Nat) (t : TypeId) (h1 : Own w1 w.heap.size (.slice (some ⟨(w.alloc (.cells #[v, nv S] t)).heap.size, 0, none⟩) 5 5) (List.replicate 5 0)) (b1 : Below (w.alloc (.cells #[v, nv S] t)).heap.size (w.alloc (.cells #[v, nv S] t)) w1)
    (h2 : Own w2 w.heap.size (.slice (some ⟨w1.heap.size, 0, none⟩) 5 5) (List.replicate 5 0)) (b2 : Below w1.heap.size w1 w2) : Eg w w2 w.heap.size (w.heap.size + 1) w1.heap.size v S [0, 0, 0, 0, 0] [0, 0, 0, 0, 0] := by
  have e : (w.alloc (.cells #[v, nv S] t)).heap.size = w.heap.size + 1 := by simp
  have h1' : Own w1 w.heap.size (.slice (some ⟨w.heap.size + 1, 0, none⟩) 5 5) (zs [0, 0, 0, 0, 0]) := by rw [← e]; exact h1
  have l1 := h1'.lit.2.1
  have bw := ((Below.refl w.heap.size w).alloc (Nat.le_refl _) (.cells #[v, nv S] t)).trans ((b1.mono (by omega)).trans (b2.mono (by omega)))
  have bb := b1.trans (b2.mono (by omega))
  refine ⟨by omega, by omega, by omega, ?_, ?_, h1'.kept b2, h2, Nat.lt_of_lt_of_le (by omega) b2.size, bw, Vw.five0, Vw.five0⟩
  · exact (bb.cell (p := ⟨w.heap.size, 0, none⟩) (by rw [e]; exact Nat.lt_succ_self _)).trans (by rw [World.cell?_alloc_new]; rfl)
  · exact (bb.cell (p := ⟨w.heap.size, 1, none⟩) (by rw [e]; exact Nat.lt_succ_self _)).trans (by rw [World.cell?_alloc_new]; rfl)
theorem four (x y z u : Bool) : (x = false ∧ (x && y && z && u) = false) ∨ (x = true ∧ y = false ∧ (x && y && z && u) = false) ∨ (x = true ∧ y = true ∧ z = false ∧ (x && y && z && u) = false) ∨ (x = true ∧ y = true ∧ z = true ∧ u = false ∧ (x && y && z && u) = false) ∨ (x = true ∧ y = true ∧ z = true ∧ u = true ∧ (x && y && z && u) = true) := by
  cases x <;> cases y <;> cases z <;> cases u <;> simp
theorem three (x y z : Bool) : (x = false ∧ (x && y && z) = false) ∨ (x = true ∧ y = false ∧ (x && y && z) = false) ∨ (x = true ∧ y = true ∧ z = false ∧ (x && y && z) = false) ∨ (x = true ∧ y = true ∧ z = true ∧ (x && y && z) = true) := by
  cases x <;> cases y <;> cases z <;> simp
theorem pair_yes {l : List Deed4V} {a b : Nat} (hbg : ∀ x, Vw.whenN (nats l) x 5 < l.length → Vw.whenN (nats l) x 4 < l.length) (h : Vw.pairL (nats l) a b = true) : ∃ ca cb da db : Nat, whenI l a 5 = (ca : Int) ∧ whenI l b 5 = (cb : Int) ∧ whenI l a 4 = (da : Int) ∧ whenI l b 4 = (db : Int) ∧ ca < l.length ∧ cb < l.length ∧ Vw.whenN (nats l) a 5 = ca ∧ Vw.whenN (nats l) b 5 = cb ∧ Vw.whenN (nats l) a 4 = da ∧ Vw.whenN (nats l) b 4 = db ∧ a ≠ b := by
  unfold Vw.pairL at h
  simp only [Bool.and_eq_true, decide_eq_true_eq, length_nats] at h
  obtain ⟨⟨h1, h2⟩, h3⟩ := h
  refine ⟨_, _, _, _, ?_, ?_, ?_, ?_, h2, h3, rfl, rfl, rfl, rfl, h1⟩
  · unfold whenI; rw [if_pos h2]
  · unfold whenI; rw [if_pos h3]
  · unfold whenI; rw [if_pos (hbg a h2)]
  · unfold whenI; rw [if_pos (hbg b h3)]
theorem pair_no {l : List Deed4V} {a b : Nat} (h : ¬ Vw.pairL (nats l) a b = true) : ((a : Int) == (b : Int)) = true ∨ (((a : Int) == (b : Int)) = false ∧ decide (whenI l a 5 < 0) = true) ∨ (((a : Int) == (b : Int)) = false ∧ decide (whenI l a 5 < 0) = false ∧ decide (whenI l b 5 < 0) = true) := by
  unfold Vw.pairL at h
  simp only [Bool.and_eq_true, decide_eq_true_eq, length_nats] at h
  have hw : ∀ x, ¬ Vw.whenN (nats l) x 5 < l.length → decide (whenI l x 5 < 0) = true := fun x hx => by
    unfold whenI; rw [if_neg hx]; rfl
  have hw2 : ∀ x, Vw.whenN (nats l) x 5 < l.length → decide (whenI l x 5 < 0) = false := fun x hx => by
    unfold whenI; rw [if_pos hx]; exact decide_eq_false (by omega)
  by_cases h1 : a = b
  · left; simp [h1]
  · have e : ((a : Int) == (b : Int)) = false := by simp; omega
    by_cases h2 : Vw.whenN (nats l) a 5 < l.length
    · by_cases h3 : Vw.whenN (nats l) b 5 < l.length
      · exact absurd ⟨⟨h1, h2⟩, h3⟩ h
      · exact .inr (.inr ⟨e, hw2 a h2, hw b h3⟩)
    · exact .inr (.inl ⟨e, hw a h2⟩)
set_option maxRecDepth 20000 in
set_option maxHeartbeats 4000000 in
theorem redges3_calls (l : List Deed4V) (S : Nat) (v : Value) (w : World) (hr : VDeeds w w.heap.size v l) (hok : ∀ d ∈ l, vokI d) (hl : l.length ≤ 1000) (hbg : ∀ x, Vw.whenN (nats l) x 5 < l.length → Vw.whenN (nats l) x 4 < l.length) :
    Calls Tryd.prog 55 #[.agg #[v, nv S]] w fun e w' => ∃ v1 v2, e = .returned (.tuple #[v1, v2]) ∧ Own w' w.heap.size v1 (zs (Vw.edL (nats l)).1) ∧ Own w' w.heap.size v2 (zs (Vw.edL (nats l)).2) ∧ Below w.heap.size w w' := by
  obtain ⟨A, cap, rfl⟩ := Rd.val hr
  have HW4 := Lib.hid (show ∀ (x : Nat) (w5 : World), Below w.heap.size w w5 → Calls Tryd.prog 76 #[.agg #[.slice A l.length cap, nv S], nv x, .int .i64 4] w5 (fun e w' => e = .returned (iv (whenI l x 4)) ∧ Below w5.heap.size w5 w') from fun x w5 h5 => when_calls l S x 4 (.slice A l.length cap) w5 ((Rd.below hr h5).more h5.size) hok hl)
  have HW5 := Lib.hid (show ∀ (x : Nat) (w5 : World), Below w.heap.size w w5 → Calls Tryd.prog 76 #[.agg #[.slice A l.length cap, nv S], nv x, .int .i64 5] w5 (fun e w' => e = .returned (iv (whenI l x 5)) ∧ Below w5.heap.size w5 w') from fun x w5 h5 => when_calls l S x 5 (.slice A l.length cap) w5 ((Rd.below hr h5).more h5.size) hok hl)
  have HWR := Lib.hid (show ∀ (x i : Nat) (w5 : World), Below w.heap.size w w5 → Calls Tryd.prog 77 #[.agg #[.slice A l.length cap, nv S], nv x, nv i] w5 (fun e w' => e = .returned (.bool (Vw.wroteL (nats l) x i)) ∧ Below w5.heap.size w5 w') from fun x i w5 h5 => rwrote_calls l S x i (.slice A l.length cap) w5 ((Rd.below hr h5).more h5.size) hok hl)
  have HFI := Lib.hid (show ∀ (x i : Nat) (w5 : World), Below w.heap.size w w5 → Calls Tryd.prog 79 #[.agg #[.slice A l.length cap, nv S], nv x, nv i] w5 (fun e w' => e = .returned (.bool (Vw.firstL (nats l) x i)) ∧ Below w5.heap.size w5 w') from fun x i w5 h5 => rfirst_calls l S x i (.slice A l.length cap) w5 ((Rd.below hr h5).more h5.size) hok hl)
  have HLA := Lib.hid (show ∀ (i m : Nat) (w5 : World), m ≤ l.length → Below w.heap.size w w5 → Calls Tryd.prog 78 #[.agg #[.slice A l.length cap, nv S], nv i, nv m] w5 (fun e w' => e = .returned (iv (Vw.lastOf (nats l) i m)) ∧ Below w5.heap.size w5 w') from fun i m w5 hm h5 => rlast_calls l S i m (.slice A l.length cap) w5 ((Rd.below hr h5).more h5.size) hok hl hm)
  have HWI := Lib.hid (show ∀ (s i : Nat) (_ : s < 32) (_ : i < 5) (w5 : World), Calls Tryd.prog 28 #[nv s, nv i] w5 (fun e w' => e = .returned (nv (s ||| 2 ^ i)) ∧ w5 = w') from fun s i hs hi w5 => with_any s i w5 hs hi)
  have HBG := Lib.hid hbg
  clear hr hok hl hbg
  go_enter Tryd.func55, Tryd.ntmps55
  go_wp2_with (at_make; (first | (refine make_ints rfl _ _ rfl w.heap.size 5 rfl rfl (by omega) (show w.heap.size ≤ (w.alloc _).heap.size by simp) ?_; intro w1 hown1 hb1) | (refine make_ints rfl _ _ rfl w.heap.size 5 rfl rfl (by omega) (by have := hb1.size; simp at this; omega) ?_; intro w2 hown2 hb2)))
  have HE0 := Lib.hid (eg_laid (w := w) (.slice A l.length cap) S 83 hown1 hb1 hown2 hb2)
  obtain ⟨g1, hg1⟩ : ∃ g1, g1 = w.heap.size + 1 := ⟨_, rfl⟩
  obtain ⟨g2, hg2⟩ : ∃ g2, g2 = w1.heap.size := ⟨_, rfl⟩
  rw [← hg1, ← hg2] at HE0 ⊢
  clear hown1 hb1 hown2 hb2 hg1 hg2
  obtain ⟨B, hB⟩ : ∃ B, B = w.heap.size := ⟨_, rfl⟩
  rw [← hB] at HW4 HW5 HWR HFI HLA HE0 ⊢
  have HBw := Lib.hid hB
  clear hB
  go_loopw [6] (fun av wr => ∃ a : Nat, a ≤ 5 ∧ av = nv a ∧ Hid (Eg w wr B g1 g2 (.slice A l.length cap) S (Vw.aToL (nats l) a).1 (Vw.aToL (nats l) a).2)) (fun av _ => 5 - (intOf av).toNat)
  case atStart => exact ⟨0, Nat.zero_le _, rfl, HE0⟩
  case round =>
    clear HE0
    obtain ⟨a, ha, rfl, hE⟩ := hrel
    by_cases ha5 : a < 5
    · have ia : (a : Int) < 5 := by omega
      go_wp2_with fail
      go_loopw [7] (fun bv wr => ∃ b : Nat, b ≤ 5 ∧ bv = nv b ∧ Hid (Eg w wr B g1 g2 (.slice A l.length cap) S (Vw.bToL (nats l) a (Vw.aToL (nats l) a) b).1 (Vw.bToL (nats l) a (Vw.aToL (nats l) a) b).2)) (fun bv _ => 5 - (intOf bv).toNat)
      case atStart => exact ⟨0, Nat.zero_le _, rfl, hE⟩
      case round =>
        clear hE
        obtain ⟨b, hb, rfl, hE⟩ := hrel
        by_cases hb5 : b < 5
        · have hbb : b < 5 := hb5
          have ib : (b : Int) < 5 := by omega
          obtain ⟨T, hT⟩ : ∃ T, T = Vw.bToL (nats l) a (Vw.aToL (nats l) a) b := ⟨_, rfl⟩
          rw [← hT] at hE
          have HNX := Lib.hid (show Vw.bToL (nats l) a (Vw.aToL (nats l) a) (b + 1) = Vw.bstepL (nats l) a b T by rw [hT]; rfl)
          have HT := Lib.hid hT
          clear hT
          have c0 := hE.out.c0
          have c1 := hE.out.c1
          by_cases hp : Vw.pairL (nats l) a b = true
          · obtain ⟨ca, cb, da, db, hca, hcb, hwda, hwdb, hcal, hcbl, hwa, hwb, hda, hdb, hne⟩ := pair_yes HBG.out hp
            have t1 : ((a : Int) == (b : Int)) = false := by simp; omega
            have HNX2 := Lib.hid (HNX.out.trans (if_pos hp))
            clear HNX hp hne
            go_wp2_with (first | (go_at_call 76; (with_reducible refine (HW5.out a _ hE.out.bw).mono ?_); rintro e w3 ⟨rfl, hb3⟩; rw [hca]; have hE3 := hE.out.below hb3; have c0 := hE3.c0; have c1 := hE3.c1) | (go_at_call 76; (with_reducible refine (HW5.out b _ hE3.bw).mono ?_); rintro e w4 ⟨rfl, hb4⟩; rw [hcb]))
            have HE4 := Lib.hid (hE3.below hb4)
            clear c0 c1 hE3 hb3 hb4 hE
            go_loopw [10] (fun iv wr => ∃ i : Nat, i ≤ 4 ∧ iv = nv i ∧ Hid (Eg w wr B g1 g2 (.slice A l.length cap) S (Vw.iToL (nats l) a b T i).1 (Vw.iToL (nats l) a b T i).2)) (fun iv _ => 4 - (intOf iv).toNat)
            case atStart => exact ⟨0, Nat.zero_le _, rfl, HE4⟩
            case round =>
              clear HE4
              obtain ⟨i, hi, rfl, hE⟩ := hrel
              by_cases hi4 : i < 4
              · have ii : (i : Int) < 4 := by omega
                have HNI := Lib.hid (show Vw.iToL (nats l) a b T (i + 1) = Vw.istepL (nats l) a b i (Vw.iToL (nats l) a b T i) from rfl)
                obtain ⟨U, hU⟩ : ∃ U, U = Vw.iToL (nats l) a b T i := ⟨_, rfl⟩
                rw [← hU] at hE HNI
                clear hU
                obtain ⟨X, Y⟩ := U
                refine wp_seq_k (fun KB hKB => ?_)
                have HKB := Lib.hid hKB
                clear hKB
                go_wp2_with fail
                refine HKB.out _ _ ?_
                clear HKB
                refine wp_seq_k (fun KR hKR => ?_)
                refine wp_block ?_
                refine wp_seq_k (fun K1 hK1 => ?_)
                go_cut [10] from 38 to 139 (fun s10 wX => s10 = nv i ∧ Hid (Eg w wX B g1 g2 (.slice A l.length cap) S (Vw.moreIf (Vw.t1L (nats l) a b i) X a b) Y))
                case first =>
                  clear hK1 HNI hKR HNX2
                  have hE2 := hE.out
                  have c0 := hE2.c0
                  have c1 := hE2.c1
                  have HT1 := Lib.hid (show Vw.t1L (nats l) a b i = (Vw.wroteL (nats l) a i && Vw.wroteL (nats l) b i && decide (ca < cb) && (Vw.lastOf (nats l) i cb == (a : Int))) by unfold Vw.t1L; rw [hwa, hwb]; rfl)
                  rcases four (Vw.wroteL (nats l) a i) (Vw.wroteL (nats l) b i) (decide (ca < cb)) (Vw.lastOf (nats l) i cb == (a : Int)) with ⟨h1, hc⟩ | ⟨h1, h2, hc⟩ | ⟨h1, h2, h3, hc⟩ | ⟨h1, h2, h3, h4, hc⟩ | ⟨h1, h2, h3, h4, hc⟩
                  all_goals
                    have HC := Lib.hid (HT1.out.trans hc)
                    clear HT1 hc
                  · go_wp2_with (first | (go_at_call 77; (with_reducible refine (HWR.out a i _ hE2.bw).mono ?_); rintro e w3 ⟨rfl, hb3⟩; rw [h1]; have hE3 := hE2.below hb3; have c0 := hE3.c0; have c1 := hE3.c1) | (go_at_call 77; (with_reducible refine (HWR.out b i _ hE3.bw).mono ?_); rintro e w4 ⟨rfl, hb4⟩; rw [h2]; have hE4 := hE3.below hb4; have c0 := hE4.c0; have c1 := hE4.c1) | (go_at_call 78; (with_reducible refine (HLA.out i cb _ (Nat.le_of_lt hcbl) hE4.bw).mono ?_); rintro e w5 ⟨rfl, hb5⟩; have hE5 := hE4.below hb5; have c0 := hE5.c0; have c1 := hE5.c1; obtain ⟨⟨xa, un⟩, hxa, cw, hwi⟩ := hE5.forX ha5 hbb HWI; have fw := hE5.frX a) | (go_at_call 28; (with_reducible refine (hwi.out _).mono ?_); rintro e w9 ⟨rfl, rfl⟩))
                    go_meet
                    case rel => exact ⟨rfl, Lib.hid (by rw [HC.out]; exact hE3)⟩
                  · go_wp2_with (first | (go_at_call 77; (with_reducible refine (HWR.out a i _ hE2.bw).mono ?_); rintro e w3 ⟨rfl, hb3⟩; rw [h1]; have hE3 := hE2.below hb3; have c0 := hE3.c0; have c1 := hE3.c1) | (go_at_call 77; (with_reducible refine (HWR.out b i _ hE3.bw).mono ?_); rintro e w4 ⟨rfl, hb4⟩; rw [h2]; have hE4 := hE3.below hb4; have c0 := hE4.c0; have c1 := hE4.c1) | (go_at_call 78; (with_reducible refine (HLA.out i cb _ (Nat.le_of_lt hcbl) hE4.bw).mono ?_); rintro e w5 ⟨rfl, hb5⟩; have hE5 := hE4.below hb5; have c0 := hE5.c0; have c1 := hE5.c1; obtain ⟨⟨xa, un⟩, hxa, cw, hwi⟩ := hE5.forX ha5 hbb HWI; have fw := hE5.frX a) | (go_at_call 28; (with_reducible refine (hwi.out _).mono ?_); rintro e w9 ⟨rfl, rfl⟩))
                    go_meet
                    case rel => exact ⟨rfl, Lib.hid (by rw [HC.out]; exact hE4)⟩
                  · go_wp2_with (first | (go_at_call 77; (with_reducible refine (HWR.out a i _ hE2.bw).mono ?_); rintro e w3 ⟨rfl, hb3⟩; rw [h1]; have hE3 := hE2.below hb3; have c0 := hE3.c0; have c1 := hE3.c1) | (go_at_call 77; (with_reducible refine (HWR.out b i _ hE3.bw).mono ?_); rintro e w4 ⟨rfl, hb4⟩; rw [h2]; have hE4 := hE3.below hb4; have c0 := hE4.c0; have c1 := hE4.c1) | (go_at_call 78; (with_reducible refine (HLA.out i cb _ (Nat.le_of_lt hcbl) hE4.bw).mono ?_); rintro e w5 ⟨rfl, hb5⟩; have hE5 := hE4.below hb5; have c0 := hE5.c0; have c1 := hE5.c1; obtain ⟨⟨xa, un⟩, hxa, cw, hwi⟩ := hE5.forX ha5 hbb HWI; have fw := hE5.frX a) | (go_at_call 28; (with_reducible refine (hwi.out _).mono ?_); rintro e w9 ⟨rfl, rfl⟩))
                    go_meet
                    case rel => exact ⟨rfl, Lib.hid (by rw [HC.out]; exact hE4)⟩
                  · go_wp2_with (first | (go_at_call 77; (with_reducible refine (HWR.out a i _ hE2.bw).mono ?_); rintro e w3 ⟨rfl, hb3⟩; rw [h1]; have hE3 := hE2.below hb3; have c0 := hE3.c0; have c1 := hE3.c1) | (go_at_call 77; (with_reducible refine (HWR.out b i _ hE3.bw).mono ?_); rintro e w4 ⟨rfl, hb4⟩; rw [h2]; have hE4 := hE3.below hb4; have c0 := hE4.c0; have c1 := hE4.c1) | (go_at_call 78; (with_reducible refine (HLA.out i cb _ (Nat.le_of_lt hcbl) hE4.bw).mono ?_); rintro e w5 ⟨rfl, hb5⟩; have hE5 := hE4.below hb5; have c0 := hE5.c0; have c1 := hE5.c1; obtain ⟨⟨xa, un⟩, hxa, cw, hwi⟩ := hE5.forX ha5 hbb HWI; have fw := hE5.frX a) | (go_at_call 28; (with_reducible refine (hwi.out _).mono ?_); rintro e w9 ⟨rfl, rfl⟩))
                    go_meet
                    case rel => exact ⟨rfl, Lib.hid (by rw [HC.out]; exact hE5)⟩
                  · go_wp2_with (first | (go_at_call 77; (with_reducible refine (HWR.out a i _ hE2.bw).mono ?_); rintro e w3 ⟨rfl, hb3⟩; rw [h1]; have hE3 := hE2.below hb3; have c0 := hE3.c0; have c1 := hE3.c1) | (go_at_call 77; (with_reducible refine (HWR.out b i _ hE3.bw).mono ?_); rintro e w4 ⟨rfl, hb4⟩; rw [h2]; have hE4 := hE3.below hb4; have c0 := hE4.c0; have c1 := hE4.c1) | (go_at_call 78; (with_reducible refine (HLA.out i cb _ (Nat.le_of_lt hcbl) hE4.bw).mono ?_); rintro e w5 ⟨rfl, hb5⟩; have hE5 := hE4.below hb5; have c0 := hE5.c0; have c1 := hE5.c1; obtain ⟨⟨xa, un⟩, hxa, cw, hwi⟩ := hE5.forX ha5 hbb HWI; have fw := hE5.frX a) | (go_at_call 28; (with_reducible refine (hwi.out _).mono ?_); rintro e w9 ⟨rfl, rfl⟩))
                    go_meet
                    case rel => exact ⟨rfl, Lib.hid (by rw [HC.out]; exact hE5.orX hbb hxa)⟩
                case rest =>
                  obtain ⟨rfl, hE1⟩ := hcut
                  refine hK1 _ _ ?_
                  clear hK1 hE
                  obtain ⟨X1, hX1⟩ : ∃ X1, X1 = Vw.moreIf (Vw.t1L (nats l) a b i) X a b := ⟨_, rfl⟩
                  rw [← hX1] at hE1
                  have HX1 := Lib.hid hX1
                  clear hX1
                  refine wp_seq_k (fun K2 hK2 => ?_)
                  go_cut [10] from 38 to 139 (fun s10 wX => s10 = nv i ∧ Hid (Eg w wX B g1 g2 (.slice A l.length cap) S (Vw.moreIf (Vw.t2L (nats l) a b i) X1 a b) Y))
                  case first =>
                    clear hK2 HNI hKR HNX2 HX1
                    have hE2 := hE1.out
                    have c0 := hE2.c0
                    have c1 := hE2.c1
                    have HT1 := Lib.hid (show Vw.t2L (nats l) a b i = (Vw.wroteL (nats l) a i && Vw.firstL (nats l) b i && decide (ca < db)) by unfold Vw.t2L; rw [hwa, hdb])
                    rcases three (Vw.wroteL (nats l) a i) (Vw.firstL (nats l) b i) (decide (ca < db)) with ⟨h1, hc⟩ | ⟨h1, h2, hc⟩ | ⟨h1, h2, h3, hc⟩ | ⟨h1, h2, h3, hc⟩
                    all_goals
                      have HC := Lib.hid (HT1.out.trans hc)
                      clear HT1 hc
                    · go_wp2_with (first | (go_at_call 77; (with_reducible refine (HWR.out a i _ hE2.bw).mono ?_); rintro e w3 ⟨rfl, hb3⟩; rw [h1]; have hE3 := hE2.below hb3; have c0 := hE3.c0; have c1 := hE3.c1) | (go_at_call 79; (with_reducible refine (HFI.out b i _ hE3.bw).mono ?_); rintro e w4 ⟨rfl, hb4⟩; rw [h2]; have hE4 := hE3.below hb4; have c0 := hE4.c0; have c1 := hE4.c1) | (go_at_call 76; (with_reducible refine (HW4.out b _ hE4.bw).mono ?_); rintro e w5 ⟨rfl, hb5⟩; rw [hwdb]; have hE5 := hE4.below hb5; have c0 := hE5.c0; have c1 := hE5.c1; obtain ⟨⟨xa, un⟩, hxa, cw, hwi⟩ := hE5.forX ha5 hbb HWI; have fw := hE5.frX a) | (go_at_call 28; (with_reducible refine (hwi.out _).mono ?_); rintro e w9 ⟨rfl, rfl⟩))
                      go_meet
                      case rel => exact ⟨rfl, Lib.hid (by rw [HC.out]; exact hE3)⟩
                    · go_wp2_with (first | (go_at_call 77; (with_reducible refine (HWR.out a i _ hE2.bw).mono ?_); rintro e w3 ⟨rfl, hb3⟩; rw [h1]; have hE3 := hE2.below hb3; have c0 := hE3.c0; have c1 := hE3.c1) | (go_at_call 79; (with_reducible refine (HFI.out b i _ hE3.bw).mono ?_); rintro e w4 ⟨rfl, hb4⟩; rw [h2]; have hE4 := hE3.below hb4; have c0 := hE4.c0; have c1 := hE4.c1) | (go_at_call 76; (with_reducible refine (HW4.out b _ hE4.bw).mono ?_); rintro e w5 ⟨rfl, hb5⟩; rw [hwdb]; have hE5 := hE4.below hb5; have c0 := hE5.c0; have c1 := hE5.c1; obtain ⟨⟨xa, un⟩, hxa, cw, hwi⟩ := hE5.forX ha5 hbb HWI; have fw := hE5.frX a) | (go_at_call 28; (with_reducible refine (hwi.out _).mono ?_); rintro e w9 ⟨rfl, rfl⟩))
                      go_meet
                      case rel => exact ⟨rfl, Lib.hid (by rw [HC.out]; exact hE4)⟩
                    · go_wp2_with (first | (go_at_call 77; (with_reducible refine (HWR.out a i _ hE2.bw).mono ?_); rintro e w3 ⟨rfl, hb3⟩; rw [h1]; have hE3 := hE2.below hb3; have c0 := hE3.c0; have c1 := hE3.c1) | (go_at_call 79; (with_reducible refine (HFI.out b i _ hE3.bw).mono ?_); rintro e w4 ⟨rfl, hb4⟩; rw [h2]; have hE4 := hE3.below hb4; have c0 := hE4.c0; have c1 := hE4.c1) | (go_at_call 76; (with_reducible refine (HW4.out b _ hE4.bw).mono ?_); rintro e w5 ⟨rfl, hb5⟩; rw [hwdb]; have hE5 := hE4.below hb5; have c0 := hE5.c0; have c1 := hE5.c1; obtain ⟨⟨xa, un⟩, hxa, cw, hwi⟩ := hE5.forX ha5 hbb HWI; have fw := hE5.frX a) | (go_at_call 28; (with_reducible refine (hwi.out _).mono ?_); rintro e w9 ⟨rfl, rfl⟩))
                      go_meet
                      case rel => exact ⟨rfl, Lib.hid (by rw [HC.out]; exact hE5)⟩
                    · go_wp2_with (first | (go_at_call 77; (with_reducible refine (HWR.out a i _ hE2.bw).mono ?_); rintro e w3 ⟨rfl, hb3⟩; rw [h1]; have hE3 := hE2.below hb3; have c0 := hE3.c0; have c1 := hE3.c1) | (go_at_call 79; (with_reducible refine (HFI.out b i _ hE3.bw).mono ?_); rintro e w4 ⟨rfl, hb4⟩; rw [h2]; have hE4 := hE3.below hb4; have c0 := hE4.c0; have c1 := hE4.c1) | (go_at_call 76; (with_reducible refine (HW4.out b _ hE4.bw).mono ?_); rintro e w5 ⟨rfl, hb5⟩; rw [hwdb]; have hE5 := hE4.below hb5; have c0 := hE5.c0; have c1 := hE5.c1; obtain ⟨⟨xa, un⟩, hxa, cw, hwi⟩ := hE5.forX ha5 hbb HWI; have fw := hE5.frX a) | (go_at_call 28; (with_reducible refine (hwi.out _).mono ?_); rintro e w9 ⟨rfl, rfl⟩))
                      go_meet
                      case rel => exact ⟨rfl, Lib.hid (by rw [HC.out]; exact hE5.orX hbb hxa)⟩
                  case rest =>
                    obtain ⟨rfl, hE2'⟩ := hcut
                    refine hK2 _ _ ?_
                    clear hK2 hE1
                    obtain ⟨X2, hX2⟩ : ∃ X2, X2 = Vw.moreIf (Vw.t2L (nats l) a b i) X1 a b := ⟨_, rfl⟩
                    rw [← hX2] at hE2'
                    have HX2 := Lib.hid hX2
                    clear hX2
                    have hE2 := hE2'.out
                    have c0 := hE2.c0
                    have c1 := hE2.c1
                    have HST := Lib.hid (show Vw.istepL (nats l) a b i (X, Y) = (Vw.moreIf (Vw.t3L (nats l) a b i) X2 a b, Vw.moreIf (Vw.t4L (nats l) a b i) Y a b) by rw [HX2.out, HX1.out]; rfl)
                    have HT1 := Lib.hid (show Vw.t3L (nats l) a b i = (Vw.firstL (nats l) a i && Vw.wroteL (nats l) b i && decide (da < cb)) by unfold Vw.t3L; rw [hwb, hda])
                    have HT4 := Lib.hid (show Vw.t4L (nats l) a b i = (Vw.t3L (nats l) a b i && decide (db < ca)) by unfold Vw.t4L; rw [hwa, hdb])
                    clear HX1 HX2 HNX2
                    rcases three (Vw.firstL (nats l) a i) (Vw.wroteL (nats l) b i) (decide (da < cb)) with ⟨h1, hc⟩ | ⟨h1, h2, hc⟩ | ⟨h1, h2, h3, hc⟩ | ⟨h1, h2, h3, hc⟩
                    · have HC := Lib.hid (HT1.out.trans hc)
                      clear hc HT1
                      go_wp2_with (first | (go_at_call 79; (with_reducible refine (HFI.out a i _ hE2.bw).mono ?_); rintro e w3 ⟨rfl, hb3⟩; rw [h1]; have hE3 := hE2.below hb3; have c0 := hE3.c0; have c1 := hE3.c1) | (go_at_call 77; (with_reducible refine (HWR.out b i _ hE3.bw).mono ?_); rintro e w4 ⟨rfl, hb4⟩; rw [h2]; have hE4 := hE3.below hb4; have c0 := hE4.c0; have c1 := hE4.c1) | (go_at_call 76; (with_reducible refine (HW4.out a _ hE4.bw).mono ?_); rintro e w5 ⟨rfl, hb5⟩; rw [hwda]; have hE5 := hE4.below hb5; have c0 := hE5.c0; have c1 := hE5.c1; obtain ⟨⟨xa, un⟩, hxa, cw, hwi⟩ := hE5.forX ha5 hbb HWI; have fw := hE5.frX a) | (go_at_call 28; (with_reducible refine (hwi.out _).mono ?_); rintro e w9 ⟨rfl, rfl⟩) | (go_at_call 76; (with_reducible refine (HW4.out b _ hE6.bw).mono ?_); rintro e w7 ⟨rfl, hb7⟩; rw [hwdb]; have hE7 := hE6.below hb7; have c0 := hE7.c0; have c1 := hE7.c1; obtain ⟨⟨ya, vn⟩, hya, cw, hwi7⟩ := hE7.forY ha5 hbb HWI; have fw := hE7.frY a) | (go_at_call 28; (with_reducible refine (hwi7.out _).mono ?_); rintro e w9 ⟨rfl, rfl⟩))
                      go_roundw
                      case rel => exact ⟨i + 1, by omega, by go_num, Lib.hid (by rw [HNI.out, HST.out, HT4.out, HC.out]; exact hE3)⟩
                      case measure => simp [intOf]; omega
                    · have HC := Lib.hid (HT1.out.trans hc)
                      clear hc HT1
                      go_wp2_with (first | (go_at_call 79; (with_reducible refine (HFI.out a i _ hE2.bw).mono ?_); rintro e w3 ⟨rfl, hb3⟩; rw [h1]; have hE3 := hE2.below hb3; have c0 := hE3.c0; have c1 := hE3.c1) | (go_at_call 77; (with_reducible refine (HWR.out b i _ hE3.bw).mono ?_); rintro e w4 ⟨rfl, hb4⟩; rw [h2]; have hE4 := hE3.below hb4; have c0 := hE4.c0; have c1 := hE4.c1) | (go_at_call 76; (with_reducible refine (HW4.out a _ hE4.bw).mono ?_); rintro e w5 ⟨rfl, hb5⟩; rw [hwda]; have hE5 := hE4.below hb5; have c0 := hE5.c0; have c1 := hE5.c1; obtain ⟨⟨xa, un⟩, hxa, cw, hwi⟩ := hE5.forX ha5 hbb HWI; have fw := hE5.frX a) | (go_at_call 28; (with_reducible refine (hwi.out _).mono ?_); rintro e w9 ⟨rfl, rfl⟩) | (go_at_call 76; (with_reducible refine (HW4.out b _ hE6.bw).mono ?_); rintro e w7 ⟨rfl, hb7⟩; rw [hwdb]; have hE7 := hE6.below hb7; have c0 := hE7.c0; have c1 := hE7.c1; obtain ⟨⟨ya, vn⟩, hya, cw, hwi7⟩ := hE7.forY ha5 hbb HWI; have fw := hE7.frY a) | (go_at_call 28; (with_reducible refine (hwi7.out _).mono ?_); rintro e w9 ⟨rfl, rfl⟩))
                      go_roundw
                      case rel => exact ⟨i + 1, by omega, by go_num, Lib.hid (by rw [HNI.out, HST.out, HT4.out, HC.out]; exact hE4)⟩
                      case measure => simp [intOf]; omega
                    · have HC := Lib.hid (HT1.out.trans hc)
                      clear hc HT1
                      go_wp2_with (first | (go_at_call 79; (with_reducible refine (HFI.out a i _ hE2.bw).mono ?_); rintro e w3 ⟨rfl, hb3⟩; rw [h1]; have hE3 := hE2.below hb3; have c0 := hE3.c0; have c1 := hE3.c1) | (go_at_call 77; (with_reducible refine (HWR.out b i _ hE3.bw).mono ?_); rintro e w4 ⟨rfl, hb4⟩; rw [h2]; have hE4 := hE3.below hb4; have c0 := hE4.c0; have c1 := hE4.c1) | (go_at_call 76; (with_reducible refine (HW4.out a _ hE4.bw).mono ?_); rintro e w5 ⟨rfl, hb5⟩; rw [hwda]; have hE5 := hE4.below hb5; have c0 := hE5.c0; have c1 := hE5.c1; obtain ⟨⟨xa, un⟩, hxa, cw, hwi⟩ := hE5.forX ha5 hbb HWI; have fw := hE5.frX a) | (go_at_call 28; (with_reducible refine (hwi.out _).mono ?_); rintro e w9 ⟨rfl, rfl⟩) | (go_at_call 76; (with_reducible refine (HW4.out b _ hE6.bw).mono ?_); rintro e w7 ⟨rfl, hb7⟩; rw [hwdb]; have hE7 := hE6.below hb7; have c0 := hE7.c0; have c1 := hE7.c1; obtain ⟨⟨ya, vn⟩, hya, cw, hwi7⟩ := hE7.forY ha5 hbb HWI; have fw := hE7.frY a) | (go_at_call 28; (with_reducible refine (hwi7.out _).mono ?_); rintro e w9 ⟨rfl, rfl⟩))
                      go_roundw
                      case rel => exact ⟨i + 1, by omega, by go_num, Lib.hid (by rw [HNI.out, HST.out, HT4.out, HC.out]; exact hE5)⟩
                      case measure => simp [intOf]; omega
                    · have HC := Lib.hid (HT1.out.trans hc)
                      clear hc HT1
                      cases h5 : decide (db < ca)
                      · go_wp2_with (first | (go_at_call 79; (with_reducible refine (HFI.out a i _ hE2.bw).mono ?_); rintro e w3 ⟨rfl, hb3⟩; rw [h1]; have hE3 := hE2.below hb3; have c0 := hE3.c0; have c1 := hE3.c1) | (go_at_call 77; (with_reducible refine (HWR.out b i _ hE3.bw).mono ?_); rintro e w4 ⟨rfl, hb4⟩; rw [h2]; have hE4 := hE3.below hb4; have c0 := hE4.c0; have c1 := hE4.c1) | (go_at_call 76; (with_reducible refine (HW4.out a _ hE4.bw).mono ?_); rintro e w5 ⟨rfl, hb5⟩; rw [hwda]; have hE5 := hE4.below hb5; have c0 := hE5.c0; have c1 := hE5.c1; obtain ⟨⟨xa, un⟩, hxa, cw, hwi⟩ := hE5.forX ha5 hbb HWI; have fw := hE5.frX a) | (go_at_call 28; (with_reducible refine (hwi.out _).mono ?_); rintro e w9 ⟨rfl, rfl⟩; have hE6 := hE5.orX hbb hxa; have c0 := hE6.c0; have c1 := hE6.c1) | (go_at_call 76; (with_reducible refine (HW4.out b _ hE6.bw).mono ?_); rintro e w7 ⟨rfl, hb7⟩; rw [hwdb]; have hE7 := hE6.below hb7; have c0 := hE7.c0; have c1 := hE7.c1; obtain ⟨⟨ya, vn⟩, hya, cw, hwi7⟩ := hE7.forY ha5 hbb HWI; have fw := hE7.frY a) | (go_at_call 28; (with_reducible refine (hwi7.out _).mono ?_); rintro e w9 ⟨rfl, rfl⟩))
                        go_roundw
                        case rel => exact ⟨i + 1, by omega, by go_num, Lib.hid (by rw [HNI.out, HST.out, HT4.out, HC.out, h5]; exact hE7)⟩
                        case measure => simp [intOf]; omega
                      · go_wp2_with (first | (go_at_call 79; (with_reducible refine (HFI.out a i _ hE2.bw).mono ?_); rintro e w3 ⟨rfl, hb3⟩; rw [h1]; have hE3 := hE2.below hb3; have c0 := hE3.c0; have c1 := hE3.c1) | (go_at_call 77; (with_reducible refine (HWR.out b i _ hE3.bw).mono ?_); rintro e w4 ⟨rfl, hb4⟩; rw [h2]; have hE4 := hE3.below hb4; have c0 := hE4.c0; have c1 := hE4.c1) | (go_at_call 76; (with_reducible refine (HW4.out a _ hE4.bw).mono ?_); rintro e w5 ⟨rfl, hb5⟩; rw [hwda]; have hE5 := hE4.below hb5; have c0 := hE5.c0; have c1 := hE5.c1; obtain ⟨⟨xa, un⟩, hxa, cw, hwi⟩ := hE5.forX ha5 hbb HWI; have fw := hE5.frX a) | (go_at_call 28; (with_reducible refine (hwi.out _).mono ?_); rintro e w9 ⟨rfl, rfl⟩; have hE6 := hE5.orX hbb hxa; have c0 := hE6.c0; have c1 := hE6.c1) | (go_at_call 76; (with_reducible refine (HW4.out b _ hE6.bw).mono ?_); rintro e w7 ⟨rfl, hb7⟩; rw [hwdb]; have hE7 := hE6.below hb7; have c0 := hE7.c0; have c1 := hE7.c1; obtain ⟨⟨ya, vn⟩, hya, cw, hwi7⟩ := hE7.forY ha5 hbb HWI; have fw := hE7.frY a) | (go_at_call 28; (with_reducible refine (hwi7.out _).mono ?_); rintro e w9 ⟨rfl, rfl⟩))
                        go_roundw
                        case rel => exact ⟨i + 1, by omega, by go_num, Lib.hid (by rw [HNI.out, HST.out, HT4.out, HC.out, h5]; exact hE7.orY hbb hya)⟩
                        case measure => simp [intOf]; omega
              · obtain rfl : i = 4 := by omega
                go_wp2_with fail
                go_roundw
                case rel => exact ⟨b + 1, by omega, by go_num, by rw [HNX2.out]; exact hE⟩
                case measure => simp [intOf]; omega
          · have hno := pair_no hp
            have HE1 := Lib.hid (show Eg w wr B g1 g2 (.slice A l.length cap) S (Vw.bToL (nats l) a (Vw.aToL (nats l) a) (b + 1)).1 (Vw.bToL (nats l) a (Vw.aToL (nats l) a) (b + 1)).2 by rw [HNX.out.trans (if_neg hp)]; exact hE.out)
            clear HNX hp
            rcases hno with t1 | ⟨t1, t2⟩ | ⟨t1, t2, t3⟩
            all_goals
              go_wp2_with (first | (go_at_call 76; (with_reducible refine (HW5.out a _ hE.out.bw).mono ?_); rintro e w3 ⟨rfl, hb3⟩; have hE3 := hE.out.below hb3; have c0 := hE3.c0; have c1 := hE3.c1) | (go_at_call 76; (with_reducible refine (HW5.out b _ hE3.bw).mono ?_); rintro e w4 ⟨rfl, hb4⟩))
              go_roundw
              case rel => exact ⟨b + 1, by omega, by go_num, Lib.hid ((HE1.out.below hb3).below hb4)⟩
              case measure => simp [intOf]; omega
        · obtain rfl : b = 5 := by omega
          go_wp2_with fail
          go_roundw
          case rel => exact ⟨a + 1, by omega, by go_num, hE⟩
          case measure => simp [intOf]; omega
    · obtain rfl : a = 5 := by omega
      go_wp2_with fail
      go_ret2
      exact ⟨_, _, rfl, by rw [← HBw.out]; exact hE.out.o1, by rw [← HBw.out]; exact hE.out.o2, by rw [← HBw.out]; exact hE.out.bw⟩
end Go.Proofs.YtkindaadadggoaaDoor
