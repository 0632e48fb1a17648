/- The walk of the statement ViewPlays: at every input it returns true. Conditions: none beyond the handles'. (Printed by wip/gen/vplays.py.) -/
import Derived.Test.YtkindaadadggoaaDoorRVEd
import Derived.Test.YtkindaadadggoaaDoorRViewZ
import Derived.Test.YtkindaadadggoaaDoorRSerial
import Derived.Test.YtkindaadadggoaaDoorVDanger
import Derived.Deep.RegionHeld3
namespace Go.Proofs.YtkindaadadggoaaDoor
open Go.RowKit

theorem Vw.irr_ed {v : Vw.V} (h : Vw.Inv v) (i : Nat) : Odr.rel (Vw.ed v).1 i i = false := by
  cases hr : Odr.rel (Vw.ed v).1 i i
  · rfl
  · exfalso
    obtain ⟨t, ht, g | g | g⟩ := (Vw.rel_ed h i i).1.1 hr
    · exact (Vw.Next.en_lt h ht g).1 rfl
    · exact g.1 rfl
    · exact g.1 rfl
/-- the program's store, and the box of the reference's -/
structure VM (w : World) (b q : Nat) (v : Vw.V) (vs : Nat → Value) (l : List Deed4V) (S : Nat) (A : Option Addr) (n : Nat) : Prop where
  st : StAt w b v vs
  lq : q < w.heap.size
  nq : ¬ FootV b vs q
  c0 : w.cell? ⟨q, 0, none⟩ = some (.slice A l.length n)
  c1 : w.cell? ⟨q, 1, none⟩ = some (nv S)
  f0 : w.frozen? ⟨q, 0, none⟩ = false
  f1 : w.frozen? ⟨q, 1, none⟩ = false
  h1 : VDeeds w w.heap.size (.slice A l.length n) l
  s1 : ∀ k, (Value.slice A l.length n).ownBlock = some k → k ≠ q ∧ k < w.heap.size ∧ ¬ FootV b vs k
section
variable {w w' : World} {b q : Nat} {v v' : Vw.V} {vs : Nat → Value} {l l' : List Deed4V} {S S' : Nat} {A A' : Option Addr} {n n' : Nat}
theorem VM.only {F : Nat → Prop} (h : VM w b q v vs l S A n) (ho : Only F w w') (hF : ∀ k, FootV b vs k → ¬ F k) (hq : ¬ F q) (o1 : Off F (.slice A l.length n)) : VM w' b q v vs l S A n :=
  ⟨h.st.only ho hF, Nat.lt_of_lt_of_le h.lq ho.size, h.nq, (ho.cell h.lq hq).trans h.c0, (ho.cell h.lq hq).trans h.c1, (ho.frozen h.lq hq).trans h.f0, (ho.frozen h.lq hq).trans h.f1, Rd.more (Rd.only h.h1 (Nat.le_refl _) ho o1) ho.size, fun k hk => ⟨(h.s1 k hk).1, Nat.lt_of_lt_of_le (h.s1 k hk).2.1 ho.size, (h.s1 k hk).2.2⟩⟩
theorem VM.below (h : VM w b q v vs l S A n) (hb : Below w.heap.size w w') : VM w' b q v vs l S A n :=
  h.only (Only.of_below hb (Nat.le_refl _) (fun _ => False)) (fun _ _ => id) id (fun _ _ => id)
/-- the program's step -/
theorem VM.did (h : VM w b q v vs l S A n) (ht : StTo w b vs v' w') : ∃ vs', VM w' b q v' vs' l S A n := by
  obtain ⟨vs', q1, q2, q3⟩ := ht
  refine ⟨vs', q1, Nat.lt_of_lt_of_le h.lq q2.size, fun hf => ?_, (q2.cell h.lq h.nq).trans h.c0, (q2.cell h.lq h.nq).trans h.c1, (q2.frozen h.lq h.nq).trans h.f0, (q2.frozen h.lq h.nq).trans h.f1, Rd.more (Rd.only h.h1 (Nat.le_refl _) q2 fun k hk => (h.s1 k hk).2.2) q2.size, fun k hk => ⟨(h.s1 k hk).1, Nat.lt_of_lt_of_le (h.s1 k hk).2.1 q2.size, fun hf => ?_⟩⟩
  · rcases q3 q hf with g | g
    · exact h.nq g
    · exact absurd h.lq (Nat.not_lt.2 g)
  · rcases q3 k hf with g | g
    · exact (h.s1 k hk).2.2 g
    · exact absurd (h.s1 k hk).2.1 (Nat.not_lt.2 g)
def AnsD (w : World) (base : Nat) (v v' : Value) (l l' : List Deed4V) : Prop := (v' = v ∧ l' = l) ∨ OwnD w base v' l'
theorem OwnD.down {base base' : Nat} {u : Value} (h : OwnD w base u l) (hb : base' ≤ base) : OwnD w base' u l := by
  refine ⟨h.1, h.2.imp id fun ⟨k, cap, cur, hv, hk, r⟩ => ⟨k, cap, cur, hv, Nat.le_trans hb hk, r⟩⟩
theorem AnsD.only {F : Nat → Prop} {base base' : Nat} {u u' : Value} (h : AnsD w base u u' l l') (ho : Only F w w') (hF : ∀ k, F k → k < base) (hb : base' ≤ base) : AnsD w' base' u u' l l' :=
  h.imp id fun g => OwnD.down (row_only g ho fun k hk hs => absurd (hF k hs) (Nat.not_lt.2 (row_lt g k hk).1)) hb
/-- the reference's step, its own writes behind it -/
theorem VM.view2 (h : VM w b q v vs l S A n) (hb : Below w.heap.size w w') (a1 : AnsD w' w.heap.size (.slice A l.length n) (.slice A' l'.length n') l l') :
    VM ((w'.setCell ⟨q, 0, none⟩ (.slice A' l'.length n')).setCell ⟨q, 1, none⟩ (nv S')) b q v vs l' S' A' n' := by
  have h1 := h.below hb
  have ho : Only (fun k => k = q) w' ((w'.setCell ⟨q, 0, none⟩ (.slice A' l'.length n')).setCell ⟨q, 1, none⟩ (nv S')) :=
    ((Only.refl (fun k => k = q) w').setCell (p := ⟨q, 0, none⟩) (.inl rfl) _).setCell (p := ⟨q, 1, none⟩) (.inl rfl) _
  have hlq := h.lq
  have k0 := h1.c0
  have k1 := h1.c1
  have l0 := h1.f0
  have l1 := h1.f1
  have r1 : VDeeds w' w'.heap.size (.slice A' l'.length n') l' ∧ ∀ k, (Value.slice A' l'.length n').ownBlock = some k → k ≠ q ∧ k < w'.heap.size ∧ ¬ FootV b vs k := by
    rcases a1 with ⟨e1, e2⟩ | g
    · rw [e1, e2]; exact ⟨h1.h1, h1.s1⟩
    · exact ⟨g.deeds, fun k hk => ⟨by have := (row_lt g k hk).1; omega, (row_lt g k hk).2, fun hf => by have := (row_lt g k hk).1; have := (h.st.foot k hf).2; omega⟩⟩
  refine ⟨h1.st.only ho fun k hk (e : k = q) => h.nq (e ▸ hk), Nat.lt_of_lt_of_le h1.lq ho.size, h.nq, ?_, ?_, ?_, ?_, Rd.more (Rd.only r1.1 (Nat.le_refl _) ho fun k hk (e : k = q) => (r1.2 k hk).1 e) ho.size, fun k hk => ⟨(r1.2 k hk).1, Nat.lt_of_lt_of_le (r1.2 k hk).2.1 ho.size, (r1.2 k hk).2.2⟩⟩
  all_goals simp [go_sem, k0, k1, l0, l1]
end
/-- the reference's step, told as a slice -/
theorem rview_s (l : List Deed4V) (S : Nat) (d : Deed4V) (A : Option Addr) (n : Nat) (w : World) (hr : VDeeds w w.heap.size (.slice A l.length n) l) (hok : ∀ d ∈ l, vokI d) (hl : l.length ≤ 1000) (hS : S < 32) :
    Calls Tryd.prog 54 #[.agg #[.slice A l.length n, nv S], .agg #[iv d.1, iv d.2.1, iv d.2.2.1, iv d.2.2.2]] w fun e w' =>
      ∃ B m, e = .returned (.tuple #[.agg #[.slice B (viewI l S d).1.1.length m, nv (viewI l S d).1.2], iv (viewI l S d).2.1, nv (viewI l S d).2.2]) ∧ AnsD w' w.heap.size (.slice A l.length n) (.slice B (viewI l S d).1.1.length m) l (viewI l S d).1.1 ∧ Below w.heap.size w w' := by
  refine (rview_calls l S d A n w hr hok hl hS).mono ?_
  rintro e w' ⟨v', h1, h2, h3⟩
  rcases h2 with ⟨e1, e2⟩ | g
  · rw [e2] at *
    exact ⟨A, n, by rw [h1, e1], .inl ⟨rfl, rfl⟩, h3⟩
  · obtain ⟨B, m, rfl⟩ := Rd.val g.deeds
    exact ⟨B, m, h1, .inr g, h3⟩
/-- what the law gathers amid the deeds of t -/
def gathC (l : List Deed4V) (t i : Nat) : Bool := (List.range i).any fun j => Vw.isAt t 5 (Vw.dat (nats l) j)
theorem gathC_succ (l : List Deed4V) (t i : Nat) : gathC l t (i + 1) = (gathC l t i || Vw.isAt t 5 (Vw.dat (nats l) i)) := by
  unfold gathC; rw [List.range_succ, List.any_append]; simp
theorem gathC_all {v : Vw.V} {l : List Deed4V} {S : Nat} (h : Vw.Rel v (nats l) S) {t : Nat} (ht : t < 5) : gathC l t l.length = decide ((Vw.tx v t).ph = 2) := by
  have hl := length_nats l
  have e : decide ((Vw.tx v t).ph = 2) = decide (Vw.whenN (nats l) t 5 < (nats l).length) := by
    rw [h.ph t ht, Bool.eq_iff_iff, decide_eq_true_eq, decide_eq_true_eq]
    exact h.hi.ph2 t
  rw [e, Bool.eq_iff_iff, decide_eq_true_eq]
  unfold gathC
  rw [List.any_eq_true]
  constructor
  · rintro ⟨j, hj, hat⟩
    have hj' := List.mem_range.1 hj
    obtain ⟨a1, a2⟩ := Vw.isAt_iff.1 hat
    exact Nat.lt_of_le_of_lt (Vw.when_le (L := nats l) (by omega) a1 a2) (by omega)
  · intro hw
    exact ⟨_, List.mem_range.2 (by omega), Vw.isAt_iff.2 (Vw.when_at hw)⟩
def gathS (v : Vw.V) (l : List Deed4V) (t i : Nat) : Nat := if gathC l t i = true then Vw.comTo v t ||| 2 ^ t else Vw.comTo v t
theorem gathS_zero (v : Vw.V) (l : List Deed4V) (t : Nat) : gathS v l t 0 = Vw.comTo v t := rfl
theorem gathS_lt {v : Vw.V} {l : List Deed4V} {t i : Nat} (ht : t < 5) : gathS v l t i < 32 := by
  have h1 := Vw.comTo_lt v t
  have h2 : (2 : Nat) ^ t < 2 ^ 5 := Nat.pow_lt_pow_right (by omega) ht
  unfold gathS
  split
  · exact Nat.or_lt_two_pow (n := 5) (by omega) h2
  · omega
theorem gathS_succ (v : Vw.V) (l : List Deed4V) (t i : Nat) : gathS v l t (i + 1) = if Vw.isAt t 5 (Vw.dat (nats l) i) = true then gathS v l t i ||| 2 ^ t else gathS v l t i := by
  unfold gathS
  rw [gathC_succ]
  cases gathC l t i <;> cases Vw.isAt t 5 (Vw.dat (nats l) i) <;> simp [Nat.or_assoc]
theorem gathS_all {v : Vw.V} {l : List Deed4V} {S : Nat} (h : Vw.Rel v (nats l) S) {t : Nat} (ht : t < 5) : gathS v l t l.length = Vw.comTo v (t + 1) := by
  unfold gathS
  rw [gathC_all h ht, Vw.comTo]
  simp
/-- the danger that the law reckons -/
def danU (O : List Nat) (t u : Nat) : Bool := (List.range u).any fun j => Odr.rel O t j && decide (O.getD j 0 ≠ 0)
def danT (O : List Nat) (t : Nat) : Bool := (List.range t).any fun i => danU O i 5
theorem danU_zero (O : List Nat) (t : Nat) : danU O t 0 = false := rfl
theorem danU_succ (O : List Nat) (t u : Nat) : danU O t (u + 1) = (danU O t u || (Odr.rel O t u && decide (O.getD u 0 ≠ 0))) := by
  unfold danU; rw [List.range_succ, List.any_append]; simp
theorem danT_succ (O : List Nat) (t : Nat) : danT O (t + 1) = (danT O t || danU O t 5) := by
  unfold danT; rw [List.range_succ, List.any_append]; simp
theorem danT_all {v : Vw.V} (h : Vw.Inv v) : danT (Vw.ed v).2 5 = Vw.danger v := Vw.dangB_ed h

set_option maxRecDepth 20000 in
set_option maxHeartbeats 16000000 in
theorem vplays_ok (s : List Deed4V) (v : Value) (w : World) (hr : VDeeds w w.heap.size v s) (hT : Tab w) (hE : ErrTy w) :
    Calls Tryd.prog 14 #[v] w fun e w' => e = .returned (.bool true) ∧ Below w.heap.size w w' := by
  have HR := Lib.hid hr
  have HE := Lib.hid hE
  have HT := Lib.hid hT
  obtain ⟨A, cap, rfl⟩ := Rd.val hr
  have hn := Lib.hid (vnew_calls w)
  clear hr hE hT
  go_enter Tryd.func14, Tryd.ntmps14
  go_wp2_with fail
  (with_reducible refine hn.out.mono ?_)
  rintro e w2 ⟨rfl, ⟨vs0, hs0, -⟩, hb2⟩
  have HQ := Lib.hid (show w.heap.size ≤ w2.heap.size from hb2.size)
  have HB0 := Lib.hid (hb2.alloc hb2.size (.cells #[.slice none 0 0, .int .i64 0] 83))
  have HM0 := Lib.hid (show VM (w2.alloc (.cells #[.slice none 0 0, .int .i64 0] 83)) w.heap.size w2.heap.size Vw.v0 vs0 [] 0 none 0 from
    ⟨hs0.alloc _, by simp, fun hk => by (have := (hs0.foot _ hk).2; omega), by rw [World.cell?_alloc_new]; rfl, by rw [World.cell?_alloc_new]; rfl, World.frozen?_alloc_new .., World.frozen?_alloc_new .., (OwnD.nil _ 0).deeds, fun k hk => by cases hk⟩)
  clear hn hb2 hs0
  go_upto_region 3 with fail
  rename_i hK3
  have HK3 := Lib.hid hK3
  clear hK3
  go_wp2_with fail
  refine HK3.out _ _ ?_
  clear HK3
  generalize w2.heap.size = q at *
  generalize w2.alloc _ = w3 at *
  go_cut [5] from 25 to 63 (fun s5 wX => ∃ (v : Vw.V) (vs : Nat → Value) (l : List Deed4V) (S : Nat) (A1 : Option Addr) (n1 : Nat), Hid (Vw.Inv v) ∧ Hid (Both2 v l S) ∧ Hid (VM wX w.heap.size q v vs l S A1 n1) ∧ Hid (Below w.heap.size w wX) ∧ Hid (l.length ≤ 60))
  case first =>
    go_wp2_with fail
    go_loopw [5] (fun i wr => ∃ (k : Nat) (v : Vw.V) (vs : Nat → Value) (l : List Deed4V) (S : Nat) (A1 : Option Addr) (n1 : Nat), k ≤ s.length ∧ i = nv k ∧ Hid (Vw.Inv v) ∧ Hid (Both2 v l S) ∧ Hid (VM wr w.heap.size q v vs l S A1 n1) ∧ Hid (Below w.heap.size w wr) ∧ Hid (l.length ≤ k ∧ l.length ≤ 60)) (fun i _ => s.length - (intOf i).toNat)
    case atStart => exact ⟨0, Vw.v0, _, [], 0, none, 0, Nat.zero_le _, rfl, Lib.hid Vw.inv0, Lib.hid both0, HM0, HB0, Lib.hid ⟨Nat.le_refl _, by simp⟩⟩
    case round =>
      clear HM0 HB0
      obtain ⟨k, v, vs, l, S, A1, n1, hk, rfl, hinv, hboth, hm, hb, hlk⟩ := hrel
      have hsz := hb.out.size
      by_cases hkl : k < s.length ∧ k < 60
      · obtain ⟨hk1, hk2⟩ := hkl
        obtain ⟨b1, off, cap', he, hbb, d0, d1, d2, d3⟩ := VDeeds.at_ (Rd.below HR.out hb.out) hk1
        cases he
        generalize hsk : s[k] = a at *
        clear hsk
        obtain ⟨hst1, hst2, hst3⟩ := hboth.out.step hinv.out a
        have hl60 := hlk.out
        have hll := Lib.hid (show (viewI l S a).1.1.length ≤ k + 1 ∧ (viewI l S a).1.1.length ≤ 60 from ⟨by omega, by omega⟩)
        have hp := Lib.hid fun (w5 : World) (h5 : Below wr.heap.size wr w5) => rview_s l S a A1 n1 w5 (hm.out.below h5).h1 hboth.out.ok (by omega) hboth.out.lt
        have hI := Lib.hid (Vw.Inv.stepI hinv.out a)
        have hbo := Lib.hid hst2
        have hdo := Lib.hid fun (w5 : World) (h5 : StAt w5 w.heap.size v vs) (hbw : Below w.heap.size w w5) => vdo_calls v a w.heap.size vs w5 h5 hinv.out (HT.out.below hbw) HT.out.lt
        rw [hst1] at hdo
        clear hst1 hst2 hst3 hlk hl60 hboth hinv
        obtain ⟨x, y, z, u⟩ := a
        simp only at d0 d1 d2 d3 hp hdo
        rw [show dval (iv x) (iv y) (iv z) (iv u) = .agg #[.int .i64 x, .int .i64 y, .int .i64 z, .int .i64 u] from rfl] at hdo
        generalize (viewI l S (x, y, z, u)).2.2 = c at *
        generalize (viewI l S (x, y, z, u)).2.1 = td at *
        generalize (viewI l S (x, y, z, u)).1.1 = l' at *
        generalize (viewI l S (x, y, z, u)).1.2 = S' at *
        generalize (vstepI v (x, y, z, u)).1 = v' at *
        obtain ⟨_, hq, _, c0, c1, f0, f1, _, _⟩ := hm.out
        have hbw : b1 < wr.heap.size := by omega
        have HBX := Lib.hid hb.out
        have HM := Lib.hid hm.out
        have HSZ := Lib.hid hsz
        clear hm hb
        go_wp2_with fail
        go_region_held3 (fun w' => w'.cell? ⟨q, 0, none⟩ = some (.slice A1 l.length n1) ∧ w'.cell? ⟨q, 1, none⟩ = some (nv S) ∧ w'.cell? ⟨b1, off + k * 4, none⟩ = some (.int .i64 x) ∧ w'.cell? ⟨b1, off + k * 4 + 1, none⟩ = some (.int .i64 y) ∧ w'.cell? ⟨b1, off + k * 4 + 2, none⟩ = some (.int .i64 z) ∧ w'.cell? ⟨b1, off + k * 4 + 3, none⟩ = some (.int .i64 u) ∧ Below wr.heap.size wr w')
          (first | exact ⟨c0, c1, d0, d1, d2, d3, (Below.refl _ _).drew⟩ | (refine ⟨(Below.cell (w := wr) (B := wr.heap.size) ?_ hq).trans c0, (Below.cell (w := wr) (B := wr.heap.size) ?_ hq).trans c1, (Below.cell (w := wr) (B := wr.heap.size) ?_ hbw).trans d0, (Below.cell (w := wr) (B := wr.heap.size) ?_ hbw).trans d1, (Below.cell (w := wr) (B := wr.heap.size) ?_ hbw).trans d2, (Below.cell (w := wr) (B := wr.heap.size) ?_ hbw).trans d3, ?_⟩ <;> go_grown))
          (first | (go_at_call 54; refine (hp.out wr.drew (Below.refl _ _).drew).mono ?_; rintro e w1 ⟨B1, m1, rfl, r1, hbl⟩; have hbz : Below wr.heap.size wr w1 := (Below.refl _ _).drew.trans hbl; have hsz1 : wr.heap.size ≤ w1.heap.size := hbz.size) | (go_at_call 54; refine (hp.out (wr.drew.alloc (.cells #[.slice none 0 0, .int .i64 0] 83)) ((Below.refl _ _).drew.alloc (Nat.le_refl _) _)).mono ?_; rintro e w1 ⟨B1, m1, rfl, r1, hbl⟩; have hbz : Below wr.heap.size wr w1 := ((Below.refl wr.heap.size wr).drew.alloc (Nat.le_refl _) _).trans (hbl.mono (by simp)); have hsz1 : wr.heap.size ≤ w1.heap.size := hbz.size; have y0 : w1.cell? ⟨wr.heap.size, 0, none⟩ = some (.slice none 0 0) := (hbl.cell (p := ⟨wr.heap.size, 0, none⟩) (by simp)).trans (by rw [show wr.heap.size = wr.drew.heap.size from rfl, World.cell?_alloc_new]; rfl); have y1 : w1.cell? ⟨wr.heap.size, 1, none⟩ = some (.int .i64 0) := (hbl.cell (p := ⟨wr.heap.size, 1, none⟩) (by simp)).trans (by rw [show wr.heap.size = wr.drew.heap.size from rfl, World.cell?_alloc_new]; rfl); have z0 : w1.frozen? ⟨wr.heap.size, 0, none⟩ = false := (World.frozen?_of_block (hbl.block wr.heap.size (by simp))).trans (World.frozen?_alloc_new ..); have z1 : w1.frozen? ⟨wr.heap.size, 1, none⟩ = false := (World.frozen?_of_block (hbl.block wr.heap.size (by simp))).trans (World.frozen?_alloc_new ..); have hY := Lib.hid hbl))
        · skip
          have hbW : Below wr.heap.size wr (w1.alloc (.cells #[.slice B1 l'.length m1, .int .i64 (S' : Int)] 83)) := hbz.alloc hsz1 _
          have HSS : ∀ j, (fun _ : Nat => False) j → j < wr.heap.size := fun _ h => h.elim
          have q1 : AnsD (w1.alloc (.cells #[.slice B1 l'.length m1, .int .i64 (S' : Int)] 83)) wr.heap.size (.slice A1 l.length n1) (.slice B1 l'.length m1) l l' := r1.only ((Only.refl (fun _ => False) w1).alloc _) HSS (by simp)
          have x0 : (w1.alloc (.cells #[.slice B1 l'.length m1, .int .i64 (S' : Int)] 83)).cell? ⟨w1.heap.size, 0, none⟩ = some (.slice B1 l'.length m1) := by rw [World.cell?_alloc_new]; rfl
          have x1 : (w1.alloc (.cells #[.slice B1 l'.length m1, .int .i64 (S' : Int)] 83)).cell? ⟨w1.heap.size, 1, none⟩ = some (.int .i64 (S' : Int)) := by rw [World.cell?_alloc_new]; rfl
          clear r1 hbl hbz HSS
          generalize w1.heap.size = yb at *
          generalize w1.alloc _ = WW at *
          have HM1 := Lib.hid (HM.out.below hbW)
          have HM7 := Lib.hid (HM.out.view2 (S' := S') hbW q1)
          have hb6 := Lib.hid (HBX.out.trans (hbW.mono HSZ.out))
          clear q1 c0 c1 f0 f1
          obtain ⟨_, _, _, c0, c1, f0, f1, _, _⟩ := HM1.out
          have hne : ∀ j j', (⟨q, j, none⟩ : Addr) ≠ ⟨b1, j', none⟩ := fun j j' e => by
            have h1 : q = b1 := congrArg Addr.block e
            have := HQ.out
            omega
          have e0 : ((WW.setCell ⟨q, 0, none⟩ (.slice B1 l'.length m1)).setCell ⟨q, 1, none⟩ (.int .i64 (S' : Int))).cell? ⟨b1, off + k * 4, none⟩ = some (.int .i64 x) := by rw [World.cell?_setCell_other (h := hne _ _), World.cell?_setCell_other (h := hne _ _)]; exact (hbW.cell hbw).trans d0
          have e1 : ((WW.setCell ⟨q, 0, none⟩ (.slice B1 l'.length m1)).setCell ⟨q, 1, none⟩ (.int .i64 (S' : Int))).cell? ⟨b1, off + k * 4 + 1, none⟩ = some (.int .i64 y) := by rw [World.cell?_setCell_other (h := hne _ _), World.cell?_setCell_other (h := hne _ _)]; exact (hbW.cell hbw).trans d1
          have e2 : ((WW.setCell ⟨q, 0, none⟩ (.slice B1 l'.length m1)).setCell ⟨q, 1, none⟩ (.int .i64 (S' : Int))).cell? ⟨b1, off + k * 4 + 2, none⟩ = some (.int .i64 z) := by rw [World.cell?_setCell_other (h := hne _ _), World.cell?_setCell_other (h := hne _ _)]; exact (hbW.cell hbw).trans d2
          have e3 : ((WW.setCell ⟨q, 0, none⟩ (.slice B1 l'.length m1)).setCell ⟨q, 1, none⟩ (.int .i64 (S' : Int))).cell? ⟨b1, off + k * 4 + 3, none⟩ = some (.int .i64 u) := by rw [World.cell?_setCell_other (h := hne _ _), World.cell?_setCell_other (h := hne _ _)]; exact (hbW.cell hbw).trans d3
          have hb7 := Lib.hid ((hb6.out.setCell (p := ⟨q, 0, none⟩) HQ.out (.slice B1 l'.length m1)).setCell (p := ⟨q, 1, none⟩) HQ.out (nv S'))
          clear hne hbW d0 d1 d2 d3
          go_wp2_with fail
          (with_reducible refine (hdo.out _ HM7.out.st hb7.out).mono ?_)
          rintro e w8 ⟨rfl, ht⟩
          obtain ⟨vs', hm8⟩ := HM7.out.did ht
          have HB8 := Lib.hid (ht.below hb7.out HM7.out.st (Nat.le_refl _))
          have her := Lib.hid (errorw c w8 (HE.out.below HB8.out))
          have HM8 := Lib.hid hm8
          clear ht hm8 HM7 hb7 hb6 HM1 hdo hp HM HBX HSZ e0 e1 e2 e3 c0 c1 f0 f1 x0 x1
          generalize errw c = ev at *
          have tss : (td != td) = false := by simp
          go_wp2_with fail
          (with_reducible refine her.out.mono ?_)
          rintro e w9 ⟨rfl, hb9⟩
          have HM9 := Lib.hid (HM8.out.below hb9)
          have HB9 := Lib.hid (HB8.out.trans (hb9.mono HB8.out.size))
          clear her hb9 HM8 HB8
          go_wp2_with fail
          go_roundw
          case rel => exact ⟨k + 1, v', vs', l', S', _, _, by omega, by go_num, hI, hbo, HM9, HB9, hll⟩
          case measure => simp [intOf]; omega
        · skip
          have hbW : Below wr.heap.size wr ((w1.setCell ⟨wr.heap.size, 0, none⟩ (.slice B1 l'.length m1)).setCell ⟨wr.heap.size, 1, none⟩ (.int .i64 (S' : Int))) := (hbz.setCell (p := ⟨wr.heap.size, 0, none⟩) (Nat.le_refl _) _).setCell (p := ⟨wr.heap.size, 1, none⟩) (Nat.le_refl _) _
          have HSS : ∀ j, (fun j : Nat => j = wr.heap.size) j → j < (wr.drew.alloc (.cells #[.slice none 0 0, .int .i64 0] 83)).heap.size := fun j (e : j = wr.heap.size) => by simp; omega
          have q1 : AnsD ((w1.setCell ⟨wr.heap.size, 0, none⟩ (.slice B1 l'.length m1)).setCell ⟨wr.heap.size, 1, none⟩ (.int .i64 (S' : Int))) wr.heap.size (.slice A1 l.length n1) (.slice B1 l'.length m1) l l' := r1.only (((Only.refl (fun j => j = wr.heap.size) w1).setCell (p := ⟨wr.heap.size, 0, none⟩) (.inl rfl) _).setCell (p := ⟨wr.heap.size, 1, none⟩) (.inl rfl) _) HSS (by simp)
          have x0 : ((w1.setCell ⟨wr.heap.size, 0, none⟩ (.slice B1 l'.length m1)).setCell ⟨wr.heap.size, 1, none⟩ (.int .i64 (S' : Int))).cell? ⟨wr.heap.size, 0, none⟩ = some (.slice B1 l'.length m1) := by simp [go_sem, y0]
          have x1 : ((w1.setCell ⟨wr.heap.size, 0, none⟩ (.slice B1 l'.length m1)).setCell ⟨wr.heap.size, 1, none⟩ (.int .i64 (S' : Int))).cell? ⟨wr.heap.size, 1, none⟩ = some (.int .i64 (S' : Int)) := by simp [go_sem, y1]
          clear r1 hbl hbz HSS y0 y1 z0 z1 hY
          generalize hWW : ((w1.setCell ⟨wr.heap.size, 0, none⟩ (.slice B1 l'.length m1)).setCell ⟨wr.heap.size, 1, none⟩ (.int .i64 (S' : Int))) = WW at *
          clear hWW
          have HM1 := Lib.hid (HM.out.below hbW)
          have HM7 := Lib.hid (HM.out.view2 (S' := S') hbW q1)
          have hb6 := Lib.hid (HBX.out.trans (hbW.mono HSZ.out))
          clear q1 c0 c1 f0 f1
          obtain ⟨_, _, _, c0, c1, f0, f1, _, _⟩ := HM1.out
          have hne : ∀ j j', (⟨q, j, none⟩ : Addr) ≠ ⟨b1, j', none⟩ := fun j j' e => by
            have h1 : q = b1 := congrArg Addr.block e
            have := HQ.out
            omega
          have e0 : ((WW.setCell ⟨q, 0, none⟩ (.slice B1 l'.length m1)).setCell ⟨q, 1, none⟩ (.int .i64 (S' : Int))).cell? ⟨b1, off + k * 4, none⟩ = some (.int .i64 x) := by rw [World.cell?_setCell_other (h := hne _ _), World.cell?_setCell_other (h := hne _ _)]; exact (hbW.cell hbw).trans d0
          have e1 : ((WW.setCell ⟨q, 0, none⟩ (.slice B1 l'.length m1)).setCell ⟨q, 1, none⟩ (.int .i64 (S' : Int))).cell? ⟨b1, off + k * 4 + 1, none⟩ = some (.int .i64 y) := by rw [World.cell?_setCell_other (h := hne _ _), World.cell?_setCell_other (h := hne _ _)]; exact (hbW.cell hbw).trans d1
          have e2 : ((WW.setCell ⟨q, 0, none⟩ (.slice B1 l'.length m1)).setCell ⟨q, 1, none⟩ (.int .i64 (S' : Int))).cell? ⟨b1, off + k * 4 + 2, none⟩ = some (.int .i64 z) := by rw [World.cell?_setCell_other (h := hne _ _), World.cell?_setCell_other (h := hne _ _)]; exact (hbW.cell hbw).trans d2
          have e3 : ((WW.setCell ⟨q, 0, none⟩ (.slice B1 l'.length m1)).setCell ⟨q, 1, none⟩ (.int .i64 (S' : Int))).cell? ⟨b1, off + k * 4 + 3, none⟩ = some (.int .i64 u) := by rw [World.cell?_setCell_other (h := hne _ _), World.cell?_setCell_other (h := hne _ _)]; exact (hbW.cell hbw).trans d3
          have hb7 := Lib.hid ((hb6.out.setCell (p := ⟨q, 0, none⟩) HQ.out (.slice B1 l'.length m1)).setCell (p := ⟨q, 1, none⟩) HQ.out (nv S'))
          clear hne hbW d0 d1 d2 d3
          go_wp2_with fail
          (with_reducible refine (hdo.out _ HM7.out.st hb7.out).mono ?_)
          rintro e w8 ⟨rfl, ht⟩
          obtain ⟨vs', hm8⟩ := HM7.out.did ht
          have HB8 := Lib.hid (ht.below hb7.out HM7.out.st (Nat.le_refl _))
          have her := Lib.hid (errorw c w8 (HE.out.below HB8.out))
          have HM8 := Lib.hid hm8
          clear ht hm8 HM7 hb7 hb6 HM1 hdo hp HM HBX HSZ e0 e1 e2 e3 c0 c1 f0 f1 x0 x1
          generalize errw c = ev at *
          have tss : (td != td) = false := by simp
          go_wp2_with fail
          (with_reducible refine her.out.mono ?_)
          rintro e w9 ⟨rfl, hb9⟩
          have HM9 := Lib.hid (HM8.out.below hb9)
          have HB9 := Lib.hid (HB8.out.trans (hb9.mono HB8.out.size))
          clear her hb9 HM8 HB8
          go_wp2_with fail
          go_roundw
          case rel => exact ⟨k + 1, v', vs', l', S', _, _, by omega, by go_num, hI, hbo, HM9, HB9, hll⟩
          case measure => simp [intOf]; omega
      · have hend : (((k : Int) < (s.length : Int)) ∧ decide ((k : Int) < 60) = false) ∨ ¬ k < s.length := by
          by_cases h : k < s.length
          · exact .inl ⟨by omega, by simp; omega⟩
          · exact .inr h
        clear hkl
        rcases hend with ⟨t1, t2⟩ | hkk
        · have t1' : k < s.length := by omega
          go_wp2_with fail
          go_meet
          case rel => exact ⟨v, vs, l, S, A1, n1, hinv, hboth, hm, hb, Lib.hid hlk.out.2⟩
        · go_wp2_with fail
          go_meet
          case rel => exact ⟨v, vs, l, S, A1, n1, hinv, hboth, hm, hb, Lib.hid hlk.out.2⟩
  case rest =>
    clear HM0 HB0 HR
    obtain ⟨v, vs, l, S, A1, n1, hinv, hboth, hm, hb, hll⟩ := hcut
    have c0 := hm.out.c0
    have c1 := hm.out.c1
    have hve := Lib.hid (redges3_calls l S (.slice A1 l.length n1) wc hm.out.h1 hboth.out.ok (by have := hll.out; omega) (fun x hx => by
      have hl := length_nats l
      exact Nat.lt_of_le_of_lt (hboth.out.rel.hi.begun (by omega)) (by omega)))
    rw [hboth.out.rel.ed hinv.out] at hve
    have hed := Lib.hid fun (w5 : World) (h5 : Below wc.heap.size wc w5) => vedges_calls v w.heap.size vs w5 (hm.out.below h5).st hinv.out (HT.out.below (hb.out.trans (h5.mono hb.out.size)))
    have hser := Lib.hid fun (w5 : World) (h5 : Below wc.heap.size wc w5) => vserial_calls v w.heap.size vs w5 (hm.out.below h5).st hinv.out (HT.out.below (hb.out.trans (h5.mono hb.out.size)))
    have hcom := Lib.hid fun (w5 : World) (h5 : Below wc.heap.size wc w5) => vcommitted_calls v w.heap.size vs w5 (hm.out.below h5).st
    have hdan := Lib.hid fun (w5 : World) (h5 : Below wc.heap.size wc w5) => vdanger_calls v w.heap.size vs w5 (hm.out.below h5).st hinv.out (HT.out.below (hb.out.trans (h5.mono hb.out.size)))
    rw [← danT_all hinv.out] at hdan
    have H5 := Lib.hid (Vw.five_ed hinv.out)
    have HIR := Lib.hid (Vw.irr_ed hinv.out)
    have HGA := Lib.hid fun (t : Nat) (ht : t < 5) => gathS_all hboth.out.rel ht
    have HOK := Lib.hid hboth.out.ok
    have HM := Lib.hid hm.out
    have HBW := Lib.hid hb.out
    have HLL := Lib.hid hll.out
    clear hm hb hll hboth hinv
    generalize Vw.ed v = E at *
    obtain ⟨E1, E2⟩ := E
    simp only at hve hed hser hdan H5 HIR
    go_wp2_with fail
    (with_reducible refine hve.out.mono ?_)
    rintro e w4 ⟨v1, v2, rfl, o1, o2, hb4⟩
    have K1 := Lib.hid (Kept.of o1.ints)
    have K2 := Lib.hid (Kept.of o2.ints)
    have B4 := Lib.hid hb4
    have hed4 := Lib.hid (hed.out w4 hb4)
    clear hve hed o1 o2 hb4 c0 c1
    go_wp2_with fail
    (with_reducible refine hed4.out.mono ?_)
    rintro e w5 ⟨a1, a2, rfl, o1, o2, hb5⟩
    have K3 := Lib.hid (Kept.of o1.ints)
    have K4 := Lib.hid (Kept.of o2.ints)
    have B5 := Lib.hid (B4.out.trans (hb5.mono B4.out.size))
    have K1' := Lib.hid (K1.out.next hb5)
    have K2' := Lib.hid (K2.out.next hb5)
    have hrs := Lib.hid (rserial_calls E1 v1 w5 K1'.out H5.out.1.2 (by have := H5.out.1.1; omega) HIR.out)
    clear hed4 o1 o2 hb5 K1 K2 B4 HIR
    go_wp2_with fail
    (with_reducible refine hrs.out.mono ?_)
    rintro e w6 ⟨v5, bb, rfl, hbb, k5, hb6⟩
    have B6 := Lib.hid (B5.out.trans (hb6.mono B5.out.size))
    have hs6 := Lib.hid ((hser.out w6 B6.out).mono (R' := fun e w' => ∃ v6, e = .returned (.tuple #[.bool bb, v6]) ∧ Kept w' v6 (zs ((Rw.row E1).getD [])) ∧ Below w6.heap.size w6 w') (fun e w' ⟨hb, hh⟩ => by
      rw [hbb]
      rcases hh with ⟨h1, h2⟩ | ⟨out, v', h1, h2, h3⟩
      · rw [h1]; exact ⟨_, h2, Kept.nil _, hb⟩
      · rw [h1]; exact ⟨v', h2, Kept.of h3.ints, hb⟩))
    have K1 := Lib.hid (K1'.out.next hb6)
    have K2 := Lib.hid (K2'.out.next hb6)
    have K3' := Lib.hid (K3.out.next hb6)
    have K4' := Lib.hid (K4.out.next hb6)
    have K5 := Lib.hid k5
    clear hrs hbb k5 hb6 K1' K2' K3 K4 B5 hser
    go_wp2_with fail
    (with_reducible refine hs6.out.mono ?_)
    rintro e w7 ⟨v6, rfl, k6, hb7⟩
    have B7 := Lib.hid (B6.out.trans (hb7.mono B6.out.size))
    have hj1 := Lib.hid fun (w9 : World) (h9 : Below w7.heap.size w7 w9) => ints_same ((K3'.out.next hb7).next h9) ((K1.out.next hb7).next h9)
    have hj2 := Lib.hid fun (w9 : World) (h9 : Below w7.heap.size w7 w9) => ints_same ((K4'.out.next hb7).next h9) ((K2.out.next hb7).next h9)
    have hj3 := Lib.hid fun (w9 : World) (h9 : Below w7.heap.size w7 w9) => ints_same (k6.next h9) ((K5.out.next hb7).next h9)
    have hco := Lib.hid fun (w9 : World) (h9 : Below w7.heap.size w7 w9) => hcom.out w9 (B7.out.trans (h9.mono B7.out.size))
    have hda := Lib.hid fun (w9 : World) (h9 : Below w7.heap.size w7 w9) => hdan.out w9 (B7.out.trans (h9.mono B7.out.size))
    have HM7 := Lib.hid (HM.out.below B7.out)
    have HK2 := Lib.hid (K2.out.next hb7)
    have HBE := Lib.hid fun (w9 : World) (h9 : Below w7.heap.size w7 w9) => HBW.out.trans ((B7.out.trans (h9.mono B7.out.size)).mono HBW.out.size)
    have HL2 := Lib.hid H5.out.2
    obtain ⟨AO, co, hv2⟩ := Rd.val HK2.out.ints
    rw [length_zs, HL2.out.1] at hv2
    subst hv2
    have hwi := Lib.hid (show ∀ (s i : Nat) (_ : s < 32) (_ : i < 5) (w5 : World), Calls Tryd.prog 28 #[nv s, nv i] w5 (fun e w' => e = .returned (nv (s ||| 2 ^ i)) ∧ w5 = w') from fun s i hs hi w5 => with_any s i w5 hs hi)
    clear hs6 k6 hb7 K1 K2 K3' K4' K5 B6 B7 HM hcom hdan H5 HT HBW
    go_wp2_with fail
    go_loopw [19, 20, 21] (fun sv dv tv wr => ∃ t : Nat, t ≤ 5 ∧ sv = nv (Vw.comTo v t) ∧ dv = .bool (danT E2 t) ∧ tv = nv t ∧ Hid (Below w7.heap.size w7 wr)) (fun _ _ tv _ => 5 - (intOf tv).toNat)
    case atStart => exact ⟨0, Nat.zero_le _, rfl, rfl, rfl, Lib.hid (Below.refl _ _)⟩
    case round =>
      obtain ⟨t, ht, rfl, rfl, rfl, hb⟩ := hrel
      by_cases ht5 : t < 5
      · have it : (t : Int) < 5 := by omega
        have HDT := Lib.hid (danT_succ E2 t)
        have HGT := Lib.hid (HGA.out t ht5)
        have HG0 := Lib.hid (gathS_zero v l t)
        generalize danT E2 t = dt at *
        go_wp2_with fail
        go_loopw [19, 22] (fun sv iv wr => ∃ i : Nat, i ≤ l.length ∧ sv = nv (gathS v l t i) ∧ iv = nv i ∧ Hid (Below w7.heap.size w7 wr)) (fun _ iv _ => l.length - (intOf iv).toNat)
        case atStart => exact ⟨0, Nat.zero_le _, by rw [HG0.out], rfl, hb⟩
        case round =>
          clear hb HG0
          obtain ⟨i, hi, rfl, rfl, hb⟩ := hrel
          have HMX := Lib.hid (HM7.out.below hb.out)
          have c0 := HMX.out.c0
          have hl60 := HLL.out
          by_cases hil : i < l.length
          · obtain ⟨b1, off, cap', he, -, K, X, z, u, hd, -, -, hX, -, d0, d1, -, -⟩ := VDeeds.nat_ HMX.out.h1 HOK.out hil
            cases he
            have hdat := dat_nats hil
            rw [hd] at hdat
            have HAT := Lib.hid (show Vw.isAt t 5 (Vw.dat (nats l) i) = (decide (X = t) && decide (K = 5)) by rw [hdat]; rfl)
            have HGS := Lib.hid (gathS_succ v l t i)
            have hw5 := Lib.hid (hwi.out (gathS v l t i) t (gathS_lt ht5) ht5)
            have ij : (i : Int) < (l.length : Int) := by omega
            generalize gathS v l t i = gs at *
            clear hd hdat
            by_cases g1 : X = t
            · have t1 : ((X : Int) == (t : Int)) = true := by simp; omega
              by_cases g2 : K = 5
              · have t2 : ((K : Int) == 5) = true := by simp; omega
                have HN := Lib.hid (HGS.out.trans (if_pos (by rw [HAT.out]; simp [g1, g2])))
                clear HGS HAT g1 g2
                generalize gs ||| 2 ^ t = gn at *
                go_wp2_with (go_at_call 28; (with_reducible refine (hw5.out _).mono ?_); rintro e w9 ⟨rfl, rfl⟩)
                go_roundw
                case rel => exact ⟨i + 1, by omega, by rw [HN.out], by go_num, hb⟩
                case measure => simp [intOf]; omega
              · have t2 : ((K : Int) == 5) = false := by simp; omega
                have HN := Lib.hid (HGS.out.trans (if_neg (by rw [HAT.out]; simp [g2])))
                clear HGS HAT g1 g2 hw5
                go_wp2_with fail
                go_roundw
                case rel => exact ⟨i + 1, by omega, by rw [HN.out], by go_num, hb⟩
                case measure => simp [intOf]; omega
            · have t1 : ((X : Int) == (t : Int)) = false := by simp; omega
              have HN := Lib.hid (HGS.out.trans (if_neg (by rw [HAT.out]; simp [g1])))
              clear HGS HAT g1 hw5
              go_wp2_with fail
              go_roundw
              case rel => exact ⟨i + 1, by omega, by rw [HN.out], by go_num, hb⟩
              case measure => simp [intOf]; omega
          · obtain rfl : i = l.length := by omega
            rw [HGT.out]
            generalize hcm : Vw.comTo v (t + 1) = cm at *
            have HCM := Lib.hid hcm
            clear hcm
            have HU0 := Lib.hid (danU_zero E2 t)
            go_wp2_with fail
            go_loopw [20, 23] (fun dv uv wr => ∃ u : Nat, u ≤ 5 ∧ dv = .bool (dt || danU E2 t u) ∧ uv = nv u ∧ Hid (Below w7.heap.size w7 wr)) (fun _ uv _ => 5 - (intOf uv).toNat)
            case atStart => exact ⟨0, Nat.zero_le _, by rw [HU0.out, Bool.or_false], rfl, hb⟩
            case round =>
              clear hb HU0 HMX c0
              obtain ⟨u, hu, rfl, rfl, hb⟩ := hrel
              by_cases hu5 : u < 5
              · have iu : (u : Int) < 5 := by omega
                have HUS := Lib.hid (show (dt || danU E2 t (u + 1)) = ((dt || danU E2 t u) || (Odr.rel E2 t u && decide (E2.getD u 0 ≠ 0))) by rw [danU_succ, Bool.or_assoc])
                generalize (dt || danU E2 t u) = D at *
                obtain ⟨bo, oo, cc, he, -, e0⟩ := Ints.at_ (Rd.below (HK2.out _ hb.out) (Below.refl _ _)) (k := t) (by rw [length_zs, HL2.out.1]; exact ht5)
                rw [length_zs, HL2.out.1] at he
                cases he
                obtain ⟨_, _, _, he, -, e1⟩ := Ints.at_ (Rd.below (HK2.out _ hb.out) (Below.refl _ _)) (k := u) (by rw [length_zs, HL2.out.1]; exact hu5)
                rw [length_zs, HL2.out.1] at he
                cases he
                rw [zs_getElem] at e0 e1
                have h32 := HL2.out.lt t
                have HRL := Lib.hid (show Odr.rel E2 t u = (E2.getD t 0).testBit u from rfl)
                generalize E2.getD t 0 = ot at *
                generalize E2.getD u 0 = ou at *
                have hbt := Lib.hid fun w5 : World => bit_calls ot u w5 (by omega) (by omega)
                cases D with
                | true =>
                  have HN := Lib.hid (HUS.out.trans (Bool.true_or _))
                  clear HUS HRL hbt
                  go_wp2_with fail
                  go_roundw
                  case rel => exact ⟨u + 1, by omega, by rw [HN.out], by go_num, hb⟩
                  case measure => simp [intOf]; omega
                | false =>
                  rw [← HRL.out] at hbt
                  cases hrl : Odr.rel E2 t u with
                  | false =>
                    rw [hrl] at hbt HUS
                    have HN := Lib.hid (HUS.out.trans rfl)
                    clear HUS HRL hrl
                    go_wp2_with (go_at_call 29; (with_reducible refine (hbt.out _).mono ?_); rintro e w9 ⟨rfl, rfl⟩)
                    go_roundw
                    case rel => exact ⟨u + 1, by omega, by rw [HN.out]; rfl, by go_num, hb⟩
                    case measure => simp [intOf]; omega
                  | true =>
                    rw [hrl] at hbt HUS
                    have HN := Lib.hid (HUS.out.trans (show _ = ((ou : Int) != 0) by
                      rw [Bool.eq_iff_iff]; simp))
                    clear HUS HRL hrl
                    go_wp2_with (go_at_call 29; (with_reducible refine (hbt.out _).mono ?_); rintro e w9 ⟨rfl, rfl⟩)
                    go_roundw
                    case rel => exact ⟨u + 1, by omega, by rw [HN.out], by go_num, hb⟩
                    case measure => simp [intOf]; omega
              · obtain rfl : u = 5 := by omega
                go_wp2_with fail
                go_roundw
                case rel => exact ⟨t + 1, by omega, by rw [HCM.out], by rw [HDT.out], by go_num, hb⟩
                case measure => simp [intOf]; omega
      · obtain rfl : t = 5 := by omega
        have HC5 := Lib.hid (show Vw.com v = Vw.comTo v 5 from rfl)
        rw [HC5.out] at hco
        generalize Vw.comTo v 5 = cm at *
        generalize danT E2 5 = dd at *
        have t1 : ((cm : Int) == (cm : Int)) = true := by simp
        have t2 : (bb == bb) = true := by simp
        have t3 : (dd == dd) = true := by simp
        go_wp2_with (first
          | (go_at_call 30; (with_reducible refine (hco.out _ hb.out).mono ?_); rintro e w10 ⟨rfl, hb10⟩; have b10 := hb.out.trans (hb10.mono hb.out.size))
          | (go_at_call 41; (with_reducible refine (hj1.out _ b10).mono ?_); rintro e w11 ⟨rfl, hb11⟩; have b11 := b10.trans (hb11.mono b10.size))
          | (go_at_call 41; (with_reducible refine (hj2.out _ b11).mono ?_); rintro e w12 ⟨rfl, hb12⟩; have b12 := b11.trans (hb12.mono b11.size))
          | (go_at_call 41; (with_reducible refine (hj3.out _ b12).mono ?_); rintro e w13 ⟨rfl, hb13⟩; have b13 := b12.trans (hb13.mono b12.size))
          | (go_at_call 27; (with_reducible refine (hda.out _ b13).mono ?_); rintro e w14 ⟨rfl, hb14⟩; have b14 := b13.trans (hb14.mono b13.size)))
        go_ret
        exact ⟨rfl, HBE.out _ b14⟩
/-- the law at every input -/
theorem vplays_calls (v : Value) (recs : List (List Int)) (w : World) (hr : Rd w w.heap.size 4 v recs.length (recs.flatMap fun r => r.map iv)) (hl : ∀ r ∈ recs, r.length = 4) (hT : Tab w) (hE : ErrTy w) :
    Calls Tryd.prog 14 #[v] w fun e w' => e = .returned (.bool true) ∧ Below w.heap.size w w' := by
  obtain ⟨s, hs⟩ := vdeeds_of_recs hr hl
  exact vplays_ok s v w hs hT hE
end Go.Proofs.YtkindaadadggoaaDoor
