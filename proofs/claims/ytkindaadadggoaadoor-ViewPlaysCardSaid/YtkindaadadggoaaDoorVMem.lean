/- A store of views in memory; contracts of view.New and seen. Conditions: each contract's own premises. -/
import Derived.Test.YtkindaadadggoaaDoorViewE
import Derived.Test.YtkindaadadggoaaDoorObj
import Derived.Test.YtkindaadadggoaaDoorCore
import Derived.Test.YtkindaadadggoaaDoorMem
import Derived.Test.YtkindaadadggoaaDoorRow12
import Derived.StillTailTactics
import Derived.Deep.AppendLies
namespace Go.Proofs.YtkindaadadggoaaDoor
open Go.RowKit

def vercells (l : List Vw.Ver) : List Value := l.flatMap fun p => [iv p.1, nv p.2]
@[simp] theorem length_vercells (l : List Vw.Ver) : (vercells l).length = l.length * 2 := by
  induction l with
  | nil => rfl
  | cons p l ih =>
    show (iv p.1 :: nv p.2 :: vercells l).length = _
    simp [ih]
    omega
theorem vercells_at (l : List Vw.Ver) (k : Nat) (hk : k < l.length) : (vercells l)[k * 2]? = some (iv (l.getD k Vw.dv).1) ∧ (vercells l)[k * 2 + 1]? = some (nv (l.getD k Vw.dv).2) := by
  induction l generalizing k with
  | nil => simp at hk
  | cons p l ih =>
    have e : vercells (p :: l) = iv p.1 :: nv p.2 :: vercells l := rfl
    cases k with
    | zero => rw [e]; exact ⟨rfl, rfl⟩
    | succ k =>
      have := ih k (by simpa using hk)
      rw [e, show (k + 1) * 2 = k * 2 + 2 by omega]
      exact this
/-- a slice of versions that lies in a block of its own -/
def OwnV (w : World) (base : Nat) (v : Value) (l : List Vw.Ver) : Prop := w.ownsRow base 106 2 v l.length (vercells l)
/-- the cells of a transaction -/
def tcell (t : Vw.T) : Nat → Value
  | 0 => nv t.ph
  | 1 => nv t.bg
  | 2 => nv t.en
  | 3 => nv t.rds
  | 4 => nv t.wrt
  | c + 5 => iv (t.frm.getD c 0)
/-- the cells of a store -/
def vcell (v : Vw.V) (vs : Nat → Value) (j : Nat) : Value :=
  if j = 0 then nv v.now else if j < 46 then tcell (Vw.tx v ((j - 1) / 9)) ((j - 1) % 9) else vs (j - 46)
def FarV (vs : Nat → Value) : Prop := ∀ i j, i < 4 → j < 4 → i ≠ j → ∀ k, (vs i).ownBlock = some k → (vs j).ownBlock ≠ some k
/-- a store in memory: its own block b, its versions in vs -/
def StAt (w : World) (b : Nat) (v : Vw.V) (vs : Nat → Value) : Prop := w.rowIs b 104 50 (vcell v vs) ∧ (∀ i, i < 4 → OwnV w (b + 1) (vs i) (Vw.verl v i)) ∧ FarV vs
/-- the blocks of a store -/
def FootV (b : Nat) (vs : Nat → Value) (k : Nat) : Prop := k = b ∨ ∃ i, i < 4 ∧ (vs i).ownBlock = some k
/-- behind a method: the store, and all else as it was -/
def StTo (w : World) (b : Nat) (vs : Nat → Value) (v : Vw.V) (w' : World) : Prop := ∃ vs', StAt w' b v vs' ∧ Only (FootV b vs) w w' ∧ ∀ k, FootV b vs' k → FootV b vs k ∨ w.heap.size ≤ k
section
variable {w w' : World} {b : Nat} {v : Vw.V} {vs : Nat → Value}
theorem StAt.now (h : StAt w b v vs) : w.cell? ⟨b, 0, none⟩ = some (nv v.now) := h.1.cell (i := 0) (by decide)
theorem StAt.tx (h : StAt w b v vs) {x c : Nat} (hx : x < 5) (hc : c < 9) : w.cell? ⟨b, 1 + x * 9 + c, none⟩ = some (tcell (Vw.tx v x) c) := by
  rw [h.1.cell (i := 1 + x * 9 + c) (by omega), vcell, if_neg (by omega), if_pos (by omega), show (1 + x * 9 + c - 1) / 9 = x by omega, show (1 + x * 9 + c - 1) % 9 = c by omega]
theorem StAt.ver (h : StAt w b v vs) {i : Nat} (hi : i < 4) : w.cell? ⟨b, 46 + i, none⟩ = some (vs i) := by
  rw [h.1.cell (i := 46 + i) (by omega), vcell, if_neg (by omega), if_neg (by omega), show 46 + i - 46 = i by omega]
theorem StAt.own (h : StAt w b v vs) {i : Nat} (hi : i < 4) : ∀ k, (vs i).ownBlock = some k → b + 1 ≤ k ∧ k < w.heap.size := row_lt (h.2.1 i hi)
theorem StAt.foot (h : StAt w b v vs) : ∀ k, FootV b vs k → b ≤ k ∧ k < w.heap.size := by
  rintro k (rfl | ⟨i, hi, hk⟩)
  · exact ⟨Nat.le_refl _, h.1.lt⟩
  · have := h.own hi k hk; omega
theorem StAt.alloc (h : StAt w b v vs) (o : Obj) : StAt (w.alloc o) b v vs := ⟨h.1.alloc o, fun i hi => World.ownsRow.alloc (h.2.1 i hi) o, h.2.2⟩
theorem StAt.drewN (h : StAt w b v vs) (n : Nat) : StAt (w.drewN n) b v vs := h
theorem StAt.only {S : Nat → Prop} (h : StAt w b v vs) (ho : Only S w w') (hS : ∀ k, FootV b vs k → ¬ S k) : StAt w' b v vs :=
  ⟨row_only' h.1 ho (hS b (.inl rfl)), fun i hi => row_only (h.2.1 i hi) ho (fun k hk => hS k (.inr ⟨i, hi, hk⟩)), h.2.2⟩
theorem StAt.below (h : StAt w b v vs) (hb : Below w.heap.size w w') : StAt w' b v vs := h.only (Only.of_below hb (Nat.le_refl _) (fun _ => False)) (fun _ _ h => h)
/-- a store into the store's own block -/
theorem StAt.set {v' : Vw.V} (h : StAt w b v vs) (i : Nat) (x : Value) (he : ∀ i, Vw.verl v' i = Vw.verl v i) (hc : ∀ j, j < 50 → (if j = i then x else vcell v vs j) = vcell v' vs j) : StAt (w.setCell ⟨b, i, none⟩ x) b v' vs := by
  refine ⟨(h.1.set i x).congr hc, fun k hk => ?_, h.2.2⟩
  unfold OwnV
  rw [he]
  exact ownsRow_setCell_below (h.2.1 k hk) (Nat.lt_succ_self b) x
/-- the shape of an item's versions -/
theorem StAt.lit (h : StAt w b v vs) {i : Nat} (hi : i < 4) (hl : 1 ≤ (Vw.verl v i).length) : ∃ g cap, vs i = .slice (some ⟨g, 0, none⟩) (Vw.verl v i).length cap ∧ b + 1 ≤ g ∧ g < w.heap.size ∧
    ∀ k, k < (Vw.verl v i).length → w.cell? ⟨g, k * 2, none⟩ = some (iv ((Vw.verl v i).getD k Vw.dv).1) ∧ w.cell? ⟨g, k * 2 + 1, none⟩ = some (nv ((Vw.verl v i).getD k Vw.dv).2) := by
  have ho := h.2.1 i hi
  have ho' := ho
  rcases ho.2 with ⟨hv, h0⟩ | ⟨g, cap, cur, hv, hb, hg, hn, hc, hs, ht⟩
  · omega
  · refine ⟨g, cap, hv, hb, (Array.getElem?_eq_some_iff.1 hg).1, fun k hk => ?_⟩
    obtain ⟨c0, c1⟩ := vercells_at (Vw.verl v i) k hk
    rw [hv] at ho'
    exact ⟨(World.ownsRow.cellAt ho' _ (by omega)).trans c0, (World.ownsRow.cellAt ho' _ (by omega)).trans c1⟩
end
theorem StTo.same {w : World} {b : Nat} {v : Vw.V} {vs : Nat → Value} (h : StAt w b v vs) {w' : World} (hb : Below w.heap.size w w') : StTo w b vs v w' :=
  ⟨vs, h.below hb, Only.of_below hb (Nat.le_refl _) _, fun _ hk => .inl hk⟩
/-- one of the transactions turns -/
theorem vcell_put {v : Vw.V} (hl : v.txs.length = 5) (vs : Nat → Value) {x c : Nat} (hx : x < 5) (hc : c < 9) (t : Vw.T) (y : Value) (ht : ∀ d, d < 9 → (if d = c then y else tcell (Vw.tx v x) d) = tcell t d) (j : Nat) (hj : j < 50) :
    (if j = 1 + x * 9 + c then y else vcell v vs j) = vcell (Vw.put v x t) vs j := by
  unfold vcell
  by_cases e : j = 1 + x * 9 + c
  · subst e
    rw [if_pos rfl, if_neg (by omega), if_pos (by omega), show (1 + x * 9 + c - 1) / 9 = x by omega, show (1 + x * 9 + c - 1) % 9 = c by omega, Vw.tx_put hl hx, if_pos rfl]
    have := ht c hc
    rw [if_pos rfl] at this
    exact this
  · rw [if_neg e]
    by_cases h0 : j = 0
    · subst h0; rfl
    · rw [if_neg h0, if_neg h0]
      by_cases h46 : j < 46
      · rw [if_pos h46, if_pos h46, Vw.tx_put hl hx]
        by_cases hq : (j - 1) / 9 = x
        · rw [if_pos hq, hq]
          have := ht ((j - 1) % 9) (by omega)
          rw [if_neg (by omega)] at this
          exact this
        · rw [if_neg hq]
      · rw [if_neg h46, if_neg h46]

/-- a store in the making -/
def PartV (w : World) (b : Nat) (i : Nat) : Prop := w.rowIs b 104 50 (fun j => if j < 46 then vcell Vw.v0 (fun _ => .nilIface) j else if j - 46 < i then .slice (some ⟨b + 1 + (j - 46), 0, none⟩) 1 1 else .slice none 0 0) ∧
  ∀ k, k < i → OwnV w (b + 1) (.slice (some ⟨b + 1 + k, 0, none⟩) 1 1) [Vw.dv]
theorem own_one (w : World) (B base : Nat) (hB : B = w.heap.size) (hb : base ≤ B) : OwnV (w.alloc (.cells #[.int .i64 (-1), .int .i64 0] 106)) base (.slice (some ⟨B, 0, none⟩) 1 1) [Vw.dv] := by
  subst hB
  refine ⟨rfl, .inr ⟨w.heap.size, 1, #[.int .i64 (-1), .int .i64 0], rfl, hb, by show (w.heap.push _)[w.heap.size]? = _; simp, Nat.le_refl _, by decide, rfl, rfl⟩⟩
theorem part_next {w : World} {b i : Nat} (h : PartV w b i) (hi : i < 4) (hs : w.heap.size = b + 1 + i) :
    PartV ((w.alloc (.cells #[.int .i64 (-1), .int .i64 0] 106)).setCell ⟨b, 46 + i, none⟩ (.slice (some ⟨b + 1 + i, 0, none⟩) 1 1)) b (i + 1) := by
  refine ⟨((h.1.alloc _).set (46 + i) _).congr fun j hj => ?_, fun k hk => ?_⟩
  · by_cases e : j = 46 + i
    · subst e
      rw [if_pos rfl, if_neg (by omega), if_pos (by omega), show 46 + i - 46 = i by omega]
    · rw [if_neg e]
      by_cases h46 : j < 46
      · rw [if_pos h46, if_pos h46]
      · rw [if_neg h46, if_neg h46]
        by_cases hji : j - 46 < i
        · rw [if_pos hji, if_pos (by omega)]
        · rw [if_neg hji, if_neg (by omega)]
  · refine ownsRow_setCell_below ?_ (Nat.lt_succ_self b) _
    by_cases e : k = i
    · subst e
      exact own_one w _ _ hs.symm (by omega)
    · exact World.ownsRow.alloc (h.2 k (by omega)) _
set_option maxRecDepth 20000 in
set_option maxHeartbeats 1000000 in
theorem vnew_calls (w : World) : Calls Tryd.prog 24 #[] w fun e w' => e = .returned (.pointer (some ⟨w.heap.size, 0, none⟩)) ∧ (∃ vs, StAt w' w.heap.size Vw.v0 vs ∧ ∀ k, FootV w.heap.size vs k → w.heap.size ≤ k) ∧ Below w.heap.size w w' := by
  go_enter Tryd.func24, Tryd.ntmps24
  go_wp2_with fail
  obtain ⟨b, hb⟩ : ∃ b, b = w.heap.size := ⟨_, rfl⟩
  rw [← hb]
  have HB := Lib.hid hb
  clear hb
  go_loopw [5] (fun iv wr => ∃ i : Nat, i ≤ 4 ∧ iv = nv i ∧ PartV wr b i ∧ wr.heap.size = b + 1 + i ∧ Below w.heap.size w wr) (fun iv _ => 4 - (intOf iv).toNat)
  case atStart =>
    refine ⟨0, by omega, rfl, ⟨?_, fun k hk => absurd hk (by omega)⟩, by rw [HB.out]; simp, (Below.refl _ _).alloc (Nat.le_refl _) _⟩
    rw [HB.out]
    refine World.rowIs_alloc w _ _ _ fun i hi => ?_
    have hi' : i < 50 := hi
    match i, hi' with
    | 0, _ => rfl
    | 1, _ => rfl
    | 2, _ => rfl
    | 3, _ => rfl
    | 4, _ => rfl
    | 5, _ => rfl
    | 6, _ => rfl
    | 7, _ => rfl
    | 8, _ => rfl
    | 9, _ => rfl
    | 10, _ => rfl
    | 11, _ => rfl
    | 12, _ => rfl
    | 13, _ => rfl
    | 14, _ => rfl
    | 15, _ => rfl
    | 16, _ => rfl
    | 17, _ => rfl
    | 18, _ => rfl
    | 19, _ => rfl
    | 20, _ => rfl
    | 21, _ => rfl
    | 22, _ => rfl
    | 23, _ => rfl
    | 24, _ => rfl
    | 25, _ => rfl
    | 26, _ => rfl
    | 27, _ => rfl
    | 28, _ => rfl
    | 29, _ => rfl
    | 30, _ => rfl
    | 31, _ => rfl
    | 32, _ => rfl
    | 33, _ => rfl
    | 34, _ => rfl
    | 35, _ => rfl
    | 36, _ => rfl
    | 37, _ => rfl
    | 38, _ => rfl
    | 39, _ => rfl
    | 40, _ => rfl
    | 41, _ => rfl
    | 42, _ => rfl
    | 43, _ => rfl
    | 44, _ => rfl
    | 45, _ => rfl
    | 46, _ => rfl
    | 47, _ => rfl
    | 48, _ => rfl
    | 49, _ => rfl
    | n + 50, h => exact absurd h (by omega)
  case round =>
    obtain ⟨i, hi, rfl, hp, hs, hb⟩ := hrel
    by_cases hi4 : i < 4
    · have hpa := hp.1.alloc (.cells #[.int .i64 (-1), .int .i64 0] 106)
      have g1 := hpa.cell (i := 46 + i) (by omega)
      have g2 := hpa.frozen (46 + i)
      have HP := Lib.hid (part_next hp hi4 hs)
      have HS := Lib.hid hs
      have HBB := Lib.hid ((hb.alloc hb.size (.cells #[.int .i64 (-1), .int .i64 0] 106)).setCell (p := ⟨b, 46 + i, none⟩) (by have := HB.out; simp; omega) (.slice (some ⟨b + 1 + i, 0, none⟩) 1 1))
      rw [if_neg (by omega), if_neg (by omega)] at g1
      clear hp hpa hs hb
      go_wp2_with fail
      rw [HS.out]
      go_roundw
      case rel => exact ⟨i + 1, by omega, by go_num, HP.out, by have := HS.out; simp; omega, HBB.out⟩
      case measure => simp [intOf]; omega
    · obtain rfl : i = 4 := by omega
      have HFIN := Lib.hid (show ∃ vs, StAt wr b Vw.v0 vs ∧ ∀ k, FootV b vs k → b ≤ k from by
        refine ⟨fun k => .slice (some ⟨b + 1 + k, 0, none⟩) 1 1, ⟨hp.1.congr fun j hj => ?_, fun i hi => ?_, fun i j _ _ hij k h1 h2 => ?_⟩, ?_⟩
        · by_cases h46 : j < 46
          · rw [if_pos h46]
            unfold vcell
            rw [if_pos h46, if_pos h46]
          · rw [if_neg h46, if_pos (by omega)]
            unfold vcell
            rw [if_neg (by omega), if_neg h46]
        · have hv : Vw.verl Vw.v0 i = [Vw.dv] := by
            have : i = 0 ∨ i = 1 ∨ i = 2 ∨ i = 3 := by omega
            rcases this with rfl | rfl | rfl | rfl <;> rfl
          rw [hv]
          exact hp.2 i hi
        · injection h1 with h1
          injection h2 with h2
          have h1' : b + 1 + i = k := h1
          have h2' : b + 1 + j = k := h2
          omega
        · rintro k (rfl | ⟨i, _, h1⟩)
          · exact Nat.le_refl _
          · injection h1 with h1
            have h1' : b + 1 + i = k := h1
            omega)
      clear hp hs hi4
      go_wp2_with fail
      go_ret
      rw [HB.out] at HFIN
      exact ⟨by rw [HB.out]; rfl, HFIN.out, hb⟩
set_option maxRecDepth 20000 in
set_option maxHeartbeats 1000000 in
theorem vseen_calls (v : Vw.V) (b : Nat) (vs : Nat → Value) (w : World) (h : StAt w b v vs) (i m : Nat) (hi : i < 4) (hhd : (Vw.verl v i)[0]? = some Vw.dv) (hfew : (Vw.verl v i).length ≤ 6) :
    Calls Tryd.prog 63 #[.pointer (some ⟨b, 0, none⟩), nv i, nv m] w fun e w' => e = .returned (.agg #[iv (Vw.seen (Vw.verl v i) m).1, nv (Vw.seen (Vw.verl v i) m).2]) ∧ Below w.heap.size w w' := by
  have hlen : 1 ≤ (Vw.verl v i).length := (List.getElem?_eq_some_iff.1 hhd).1
  obtain ⟨g, cap, hv, hg1, hg2, hc⟩ := h.lit hi hlen
  have h1 := (h.alloc (.cells #[.int .i64 0, .int .i64 0] 106)).ver hi
  rw [hv] at h1
  have HL := Lib.hid hlen
  have HC := Lib.hid (show ∀ k, k < (Vw.verl v i).length → (w.alloc (.cells #[.int .i64 0, .int .i64 0] 106)).cell? ⟨g, k * 2, none⟩ = some (iv ((Vw.verl v i).getD k Vw.dv).1) ∧ (w.alloc (.cells #[.int .i64 0, .int .i64 0] 106)).cell? ⟨g, k * 2 + 1, none⟩ = some (nv ((Vw.verl v i).getD k Vw.dv).2) from fun k hk =>
    ⟨(World.cell?_alloc_old w _ _ (by simp; omega)).trans (hc k hk).1, (World.cell?_alloc_old w _ _ (by simp; omega)).trans (hc k hk).2⟩)
  have H0 := Lib.hid (show ((Vw.verl v i).getD 0 Vw.dv).2 = 0 by
    rw [List.getD_eq_getElem?_getD, hhd]; rfl)
  have HSN := Lib.hid (show ∀ n, Vw.seenTo (Vw.verl v i) m (n + 1) = if ((Vw.verl v i).getD n Vw.dv).2 ≤ m then (Vw.verl v i).getD n Vw.dv else Vw.seenTo (Vw.verl v i) m n from fun n => rfl)
  have HSE := Lib.hid (show Vw.seen (Vw.verl v i) m = Vw.seenTo (Vw.verl v i) m (Vw.verl v i).length from rfl)
  have HLT := Lib.hid hg2
  clear h hhd hlen hv hc
  generalize Vw.seen (Vw.verl v i) m = res at *
  generalize hll : Vw.verl v i = l at *
  clear hll
  have e1 : IntKind.i64.wrap ((l.length : Int) - 1) = (l.length : Int) - 1 := IntWalk.i64_in _ (by constructor <;> omega)
  go_enter Tryd.func63, Tryd.ntmps63
  go_wp2_with fail
  clear e1 h1
  go_loop [8] (fun iv => ∃ n : Nat, n < l.length ∧ iv = nv n ∧ Hid (Vw.seenTo l m (n + 1) = res)) (fun iv => (intOf iv).toNat)
  case atStart =>
    have h0 := HL.out
    refine ⟨l.length - 1, by omega, congrArg (Value.int .i64) (by omega), Lib.hid ?_⟩
    rw [show l.length - 1 + 1 = l.length by omega]
    exact HSE.out.symm
  case round =>
    obtain ⟨n, hn, rfl, hres⟩ := hrel
    obtain ⟨c0, c1⟩ := HC.out n hn
    have hs := Lib.hid (hres.out.symm.trans (HSN.out n))
    have HN0 := Lib.hid fun (h : n = 0) => (show (l.getD n Vw.dv).2 = 0 by rw [h]; exact H0.out)
    generalize hp : l.getD n Vw.dv = p at *
    obtain ⟨p1, p2⟩ := p
    simp only at c0 c1
    by_cases hle : p2 ≤ m
    · have t1 : decide (p2 ≤ m) = true := by simpa using hle
      have hs' := Lib.hid (hs.out.trans (if_pos hle))
      clear hs hle hp HN0
      go_wp2_with fail
      refine bodyPost_ret (by simp [results, Tryd.results63, go_sem]; try rfl) rfl ?_
      exact ⟨by rw [hs'.out], (Below.refl _ _).alloc (Nat.le_refl _) _⟩
    · have t1 : decide (p2 ≤ m) = false := by simpa using hle
      have hs' := Lib.hid (hs.out.trans (if_neg hle))
      have hn0 : n ≠ 0 := fun h => hle (by have := HN0.out h; simp only at this; omega)
      have e1 : IntKind.i64.wrap ((n : Int) - 1) = (n : Int) - 1 := IntWalk.i64_in _ (by constructor <;> omega)
      clear hs hle hp HN0
      go_wp2_with fail
      go_round
      case rel => exact ⟨n - 1, by omega, congrArg (Value.int .i64) (by omega), Lib.hid (by rw [show n - 1 + 1 = n by omega]; exact hs'.out.symm)⟩
      case measure => simp [intOf]; omega
end Go.Proofs.YtkindaadadggoaaDoor
