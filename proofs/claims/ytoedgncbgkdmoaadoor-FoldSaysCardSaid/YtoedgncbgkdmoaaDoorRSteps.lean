/- Contract of the reference's Steps. Conditions: the contract's own premises. -/
import Derived.Test.YtoedgncbgkdmoaaDoorRAhead
import Derived.StillTailTactics
import Derived.Maps.AppendAt
namespace Go.Proofs.YtoedgncbgkdmoaaDoor
open Go.RowKit

section
variable {ops : Array Oper} {rest : List Oper} {o : Oper} {a : Act} {Q : Exit → Act → World → Prop} {w : World}
/-- 'append(out, y)', and where the new slice lies -/
theorem append_int_at (hgd : o.guard = none) (s x : Operand) (ho : o.op = .call { callee := .builtin .append, args := #[s, x], argTypes := #[22, 22] })
    (base : Nat) (v : Value) (l : List Int) (hs : a.eval s = v) (hown : Own w base v l) (g : Nat) (hx : a.eval x = .slice (some ⟨g, 0, none⟩) 1 1) (y : Int) (hc : w.cell? ⟨g, 0, none⟩ = some (iv y))
    (hlen : l.length < 1000000) (hbase : base ≤ w.heap.size)
    (h : ∀ v' w', Own w' base v' (l ++ [y]) → w.grownBy w' v.ownBlock → (v'.ownBlock = v.ownBlock ∨ v'.ownBlock = some w.heap.size) → wpList Tryd.prog ops Q rest (a.put o.dst v') w') : wpList Tryd.prog ops Q (o :: rest) a w := by
  obtain ⟨i0, hi, hz0, hz1, hz2⟩ := info_parts Tryd.infoInt
  refine wpList_append_own_at w hgd s x 22 ho base 3 i0 (.int .i64 0) 1 8 Tryd.underlying22 hi hz0 hz1 hz2 rfl (by decide) v l.length (l.map iv) hs hown ⟨g, 0, none⟩ 1 1 [iv y] hx rfl ?_ ?_ ?_ ?_ hbase ?_
  · intro j u hj
    match j, hj with
    | 0, hj => simp at hj; subst hj; exact hc
  · intro u hu; simp at hu; subst hu; rfl
  · unfold maxLen; omega
  · omega
  · intro v' w' hrow hg _ hat
    exact h v' w' (Own.of_row hrow) hg hat
end
/-- two slices of the call's own lie in two blocks -/
def Apart (u v : Value) : Prop := ∀ k, u.ownBlock = some k → v.ownBlock ≠ some k
theorem Apart.symm {u v : Value} (h : Apart u v) : Apart v u := fun k h1 h2 => h k h2 h1
theorem Apart.grow {w : World} {base : Nat} {u v v' : Value} {l : List Int} (h : Apart u v) (hu : Own w base u l) (hg : v'.ownBlock = v.ownBlock ∨ v'.ownBlock = some w.heap.size) : Apart u v' := by
  intro k hk
  rcases hg with e | e
  · rw [e]; exact h k hk
  · rw [e]
    have := (hu.lt k hk).2
    intro e2
    cases e2
    omega
theorem Own.apart {w w' : World} {base : Nat} {u v : Value} {l : List Int} (hu : Own w base u l) (h : Apart u v) (hg : w.grownBy w' v.ownBlock) : Own w' base u l :=
  World.ownsRow.kept (row := v.ownBlock) hu hg (by
    cases e : u.ownBlock with
    | none => exact .inl rfl
    | some k => exact .inr fun e2 => h k e e2.symm)
theorem Own.awayFrom {w : World} {base g i : Nat} {u x : Value} {l : List Int} (h : Own w base u l) (hg : ∀ k, u.ownBlock = some k → k ≠ g) : Own (w.setCell ⟨g, i, none⟩ x) base u l := by
  refine ⟨h.1, ?_⟩
  rcases h.2 with h2 | ⟨b, cap, cur, hv, hb, hh, r⟩
  · exact .inl h2
  · subst hv
    exact .inr ⟨b, cap, cur, rfl, hb, by rw [Below.heap_setCell _ _ _ b (by have := hg b rfl; simp; omega)]; exact hh, r⟩
theorem step_in {m out L : List Nat} {x n : Nat} (hp : Fld.pos m out x out.length = n) (hL : L = out ∧ n < out.length ∨ L = out ++ [0] ∧ n = out.length) : Fld.step m out x = L.set n (L.getD n 0 ||| 2 ^ x) := by
  rcases hL with ⟨rfl, hn⟩ | ⟨rfl, hn⟩
  · exact Fld.step_set hp (by omega)
  · rw [Fld.step_app (hp.trans hn), hn]
    congr 2
    simp [List.getD_eq_getElem?_getD]
set_option maxRecDepth 20000 in
set_option maxHeartbeats 4000000 in
theorem rsteps_calls (m t : List Nat) (v u : Value) (w : World) (hv : Ints w w.heap.size v (zs m)) (hu : Ints w w.heap.size u (zs t)) (hg : Fld.Good m) (hl : t.length ≤ 24) (ht : ∀ x ∈ t, x < m.length) :
    Calls Tryd.prog 20 #[v, u] w fun e w' => ∃ v', e = .returned v' ∧ Own w' w.heap.size v' (zs (Fld.steps m t)) ∧ Below w.heap.size w w' := by
  have HF := Lib.hid hv
  have HV := Lib.hid hu
  have HG := Lib.hid hg
  have HT := Lib.hid ht
  have hn := hg.1
  obtain ⟨Av, cv, rfl⟩ := Rd.val hu
  have hlz : (zs t).length = t.length := length_zs t
  rw [hlz] at HV ⊢
  clear hv hu hg ht hlz
  go_enter Tryd.func20, Tryd.ntmps20
  go_wp2_with fail
  go_loopw [5, 6, 7] (fun r o i wr => ∃ j : Nat, j ≤ t.length ∧ i = nv j ∧ Own wr w.heap.size r (zs (Fld.ranks (Fld.stay m t) j)) ∧ Own wr w.heap.size o (zs (Fld.steps m (t.take j))) ∧ Hid (Apart r o) ∧ Below w.heap.size w wr) (fun _ _ i _ => t.length - (intOf i).toNat)
  case atStart => exact ⟨0, Nat.zero_le _, rfl, Own.nil _ _, Own.nil _ _, Lib.hid (fun k hk => by cases hk), Below.refl _ _⟩
  case round =>
    obtain ⟨j, hj, rfl, hrk, hot, hap, hb⟩ := hrel
    obtain ⟨wo, rfl⟩ : ∃ wo : World, wo = wr := ⟨_, rfl⟩
    by_cases hjl : j < t.length
    · obtain ⟨Ar, cr, rfl⟩ := Rd.val hrk.ints
      obtain ⟨Ao, co, rfl⟩ := Rd.val hot.ints
      rw [length_zs, Fld.length_ranks] at hrk hap ⊢
      rw [length_zs] at hot hap ⊢
      have HR := Lib.hid hrk
      have HO := Lib.hid hot
      have HB := Lib.hid hb
      have hrb : ∀ i, Fld.rkAt (Fld.stay m t) i ≤ i := Fld.rkAt_le _
      obtain ⟨q1, q2, q3⟩ := Fld.steps_ranks (w := t) HG.out j hj
      have hpos := Lib.hid ((Fld.steps_ranks (w := t) HG.out (j + 1) hjl).2.2 j (by omega))
      have hnle : Fld.rkAt (Fld.stay m t) j ≤ (Fld.steps m (t.take j)).length := by
        rw [← hpos.out]; exact Fld.pos_le _ _ _ _
      have hst := Lib.hid (Fld.steps_take m t hjl)
      have hlt6 := Lib.hid (show ∀ k, (Fld.steps m (t.take j)).getD k 0 < 64 from fun k => by
        have h1 := Fld.Foata.lt (Fld.foata_steps (w := t.take j) HG.out fun x hx => HT.out x (List.mem_of_mem_take hx)) k
        have h2 : 2 ^ m.length ≤ 2 ^ 6 := Nat.pow_le_pow_right (by omega) hn
        omega)
      have hole : (Fld.steps m (t.take j)).length ≤ 24 := by
        rw [q1]
        have : ∀ i, Fld.longTo (Fld.stay m t) i ≤ i := fun i => by
          induction i with
          | zero => exact Nat.le_refl _
          | succ i ih => rw [Fld.longTo]; have := hrb i; omega
        have := this j
        omega
      clear q1 q2 q3 hrk hot hb
      generalize hOU : Fld.steps m (t.take j) = out at *
      clear hOU
      go_wp2_with fail
      go_loopw [8, 9] (fun nn i wr => ∃ i' k : Nat, i' ≤ j ∧ i = nv i' ∧ nn = nv (Fld.rankTo (Fld.stay m t) (Fld.ranks (Fld.stay m t) j) j i') ∧ wr = wo.drewN k) (fun _ i _ => j - (intOf i).toNat)
      case atStart => exact ⟨0, 0, by omega, rfl, rfl, rfl⟩
      case round =>
        obtain ⟨i, k, hi, rfl, rfl, rfl⟩ := hrel
        by_cases hij : i < j
        · have hS := Lib.hid (rstays_calls m t v _ i j w.heap.size (wo.drewN k) (Rd.below HF.out (drn HB.out k)) (Rd.below HV.out (drn HB.out k)) HG.out HT.out hij hjl)
          obtain ⟨b1, o1, d1, he, _, g1⟩ := Ints.atN (show Ints (wo.drewN k) (wo.drewN k).heap.size _ (zs (Fld.ranks (Fld.stay m t) j)) from HR.out.ints) (k := i) (by rw [Fld.length_ranks]; exact hij)
          rw [Fld.length_ranks] at he
          cases he
          rw [Fld.getD_ranks _ hij] at g1
          have hr24 := hrb i
          have hnx := Lib.hid (show Fld.rankTo (Fld.stay m t) (Fld.ranks (Fld.stay m t) j) j (i + 1) = if Fld.stay m t i j = true ∧ Fld.rankTo (Fld.stay m t) (Fld.ranks (Fld.stay m t) j) j i < Fld.rkAt (Fld.stay m t) i + 1 then Fld.rkAt (Fld.stay m t) i + 1 else Fld.rankTo (Fld.stay m t) (Fld.ranks (Fld.stay m t) j) j i by
            rw [Fld.rankTo, Fld.getD_ranks _ hij])
          generalize Fld.rankTo (Fld.stay m t) (Fld.ranks (Fld.stay m t) j) j i = nn at *
          generalize Fld.rkAt (Fld.stay m t) i = r at *
          have s1 : IntKind.i64.wrap ((r : Int) + 1) = (r : Int) + 1 := IntWalk.i64_in _ (by constructor <;> omega)
          cases hs : Fld.stay m t i j with
          | false =>
            rw [hs] at hS hnx
            have hnx' := Lib.hid (hnx.out.trans (if_neg fun h => by cases h.1))
            clear hs hnx
            go_wp2_with fail
            (with_reducible refine hS.out.mono ?_)
            rintro e w5 ⟨rfl, n2, rfl⟩
            clear hS s1
            go_wp2_with fail
            go_roundw
            case rel => exact ⟨i + 1, _, by omega, by go_num, by rw [hnx'.out], rfl⟩
            case measure => simp [intOf]; omega
          | true =>
            rw [hs] at hS hnx
            by_cases hlt : nn < r + 1
            · have hnx' := Lib.hid (hnx.out.trans (if_pos ⟨rfl, hlt⟩))
              have t1 : decide ((nn : Int) < (r : Int) + 1) = true := by simp; omega
              clear hs hnx hlt
              go_wp2_with fail
              (with_reducible refine hS.out.mono ?_)
              rintro e w5 ⟨rfl, n2, rfl⟩
              have g2 : (wo.drewN (k + n2)).cell? ⟨b1, o1 + i, none⟩ = some (nv r) := g1
              clear hS g1
              go_wp2_with fail
              clear s1
              go_roundw
              case rel => exact ⟨i + 1, _, by omega, by go_num, by rw [hnx'.out]; go_num, rfl⟩
              case measure => simp [intOf]; omega
            · have hnx' := Lib.hid (hnx.out.trans (if_neg fun h => hlt h.2))
              have t1 : decide ((nn : Int) < (r : Int) + 1) = false := by simp; omega
              clear hs hnx hlt
              go_wp2_with fail
              (with_reducible refine hS.out.mono ?_)
              rintro e w5 ⟨rfl, n2, rfl⟩
              have g2 : (wo.drewN (k + n2)).cell? ⟨b1, o1 + i, none⟩ = some (nv r) := g1
              clear hS g1
              go_wp2_with fail
              clear s1
              go_roundw
              case rel => exact ⟨i + 1, _, by omega, by go_num, by rw [hnx'.out], rfl⟩
              case measure => simp [intOf]; omega
        · obtain rfl : i = j := by omega
          have HRn := Lib.hid (HR.out.drewN k)
          have HOn := Lib.hid (HO.out.drewN k)
          have HBn := Lib.hid (drn HB.out k)
          clear HR HO HB hij hi
          rw [show Fld.rankTo (Fld.stay m t) (Fld.ranks (Fld.stay m t) i) i i = Fld.rkAt (Fld.stay m t) i from rfl]
          have HRK := Lib.hid (show Fld.ranks (Fld.stay m t) (i + 1) = Fld.ranks (Fld.stay m t) i ++ [Fld.rkAt (Fld.stay m t) i] from rfl)
          have hrli : (Fld.ranks (Fld.stay m t) i).length = i := Fld.length_ranks _ _
          have hnb := hrb i
          clear hrb
          generalize Fld.rkAt (Fld.stay m t) i = n at *
          generalize wo.drewN k = wX at *
          have hbs := HBn.out.size
          have hap' := hap
          go_wp2_with (at_builtin; refine append_int_at rfl _ _ rfl w.heap.size _ (zs (Fld.ranks (Fld.stay m t) i)) rfl (Own.alloc HRn.out _) wX.heap.size rfl (n : Int) (by simp) (by rw [length_zs, hrli]; omega) (by simp; omega) ?_; intro v' w6 hown6 hg6 hat6)
          have HR6 := Lib.hid (show Own w6 w.heap.size v' (zs (Fld.ranks (Fld.stay m t) (i + 1))) by rw [HRK.out]; simpa [zs] using hown6)
          have HO6 := Lib.hid (show Own w6 w.heap.size (.slice Ao out.length co) (zs out) from Own.apart (Own.alloc HOn.out _) hap.out.symm hg6)
          have HA6 := Lib.hid (show Apart v' (.slice Ao out.length co) from (Apart.grow hap.out.symm (Own.alloc HOn.out _) hat6).symm)
          have HB6 := Lib.hid (show Below w.heap.size w w6 from (HBn.out.alloc hbs _).grown hg6 (by simp; omega) (fun g hg => Own.blockLe HRn.out g hg))
          clear hown6 hg6 hat6 hap hap' HRn HOn HBn hbs
          go_wp2_with fail
          go_loopw [6] (fun o wr => ∃ L : List Nat, Hid (L = out ∨ L = out ++ [0] ∧ n = out.length) ∧ Own wr w.heap.size v' (zs (Fld.ranks (Fld.stay m t) (i + 1))) ∧ Own wr w.heap.size o (zs L) ∧ Hid (Apart v' o) ∧ Below w.heap.size w wr) (fun o _ => n + 1 - lenOf o)
          case atStart => exact ⟨out, Lib.hid (.inl rfl), HR6.out, HO6.out, HA6, HB6.out⟩
          case round =>
            clear HR6 HO6 HA6 HB6
            obtain ⟨L, hL, hr, ho, hap, hb⟩ := hrel
            obtain ⟨w7, rfl⟩ : ∃ w7 : World, w7 = wr := ⟨_, rfl⟩
            obtain ⟨Al, cl, rfl⟩ := Rd.val ho.ints
            rw [length_zs] at ho hap ⊢
            have hLL : L.length ≤ out.length + 1 := by
              rcases hL.out with h | ⟨h, _⟩ <;> rw [h] <;> simp
            have HB7 := Lib.hid hb
            have HR7 := Lib.hid hr
            have HO7 := Lib.hid ho
            have hbs := hb.size
            by_cases hln : L.length ≤ n
            · have e1 : L = out ∧ n = out.length := by
                rcases hL.out with h | ⟨h, h2⟩
                · subst h; exact ⟨rfl, by omega⟩
                · rw [h] at hln; simp at hln; omega
              have HE := Lib.hid e1
              have hll := Lib.hid (show (zs L).length = L.length from length_zs L)
              clear e1 hb hr ho
              go_wp2_with (at_builtin; refine append_int_at rfl _ _ rfl w.heap.size _ (zs L) rfl (Own.alloc HO7.out _) w7.heap.size rfl 0 (by simp) (by rw [hll.out]; omega) (by simp; omega) ?_; intro v8 w8 hown8 hg8 hat8)
              have HO8 := Lib.hid (show Own w8 w.heap.size v8 (zs (out ++ [0])) by rw [← HE.out.1]; simpa [zs] using hown8)
              have HR8 := Lib.hid (show Own w8 w.heap.size v' (zs (Fld.ranks (Fld.stay m t) (i + 1))) from Own.apart (Own.alloc HR7.out _) hap.out hg8)
              have HA8 := Lib.hid (show Apart v' v8 from Apart.grow hap.out (Own.alloc HR7.out _) hat8)
              have HB8 := Lib.hid (show Below w.heap.size w w8 from (HB7.out.alloc hbs _).grown hg8 (by simp; omega) (fun g hg => Own.blockLe HO7.out g hg))
              clear hown8 hg8 hat8
              obtain ⟨A8, c8, rfl⟩ := Rd.val HO8.out.ints
              go_roundw
              case rel => exact ⟨out ++ [0], Lib.hid (.inr ⟨rfl, HE.out.2⟩), HR8.out, HO8.out, HA8, HB8.out⟩
              case measure => have := HE.out; simp [lenOf]; omega
            · have hnl : n < L.length := by omega
              have HFIN := Lib.hid (hst.out.trans (step_in hpos.out (by
                rcases hL.out with h | h
                · exact .inl ⟨h, by rw [← h]; omega⟩
                · exact .inr h)))
              obtain ⟨g, cap2, he, gb, gs, _, gc, gf, gst⟩ := Own.shape ho (by rw [length_zs]; omega)
              rw [length_zs] at he
              cases he
              have gn := gc n (by rw [length_zs]; exact hnl)
              rw [zs_getElem] at gn
              have gfn := gf n
              have GST := Lib.hid gst
              have hy := hlt6.out n
              have hLn : L.getD n 0 < 64 := by
                rcases hL.out with h | ⟨h, h2⟩
                · rw [h]; exact hy
                · rw [h, h2]; simp [List.getD_eq_getElem?_getD]
              obtain ⟨b1, o1, d1, he, hbl, g1⟩ := Ints.atN (Rd.below HV.out hb) hjl
              cases he
              have hx := getD_memF HT.out hjl
              generalize t.getD i 0 = x at *
              have hwi := Lib.hid fun w5 : World => (rwith_calls (L.getD n 0) x w5 (by omega) (by omega)).mono (R' := fun e w' => e = .returned (nv (L.getD n 0 ||| 2 ^ x)) ∧ w' = w5) fun _ _ ⟨a, b⟩ => ⟨a, b.symm⟩
              have HZ := Lib.hid (show (zs L).set n ((L.getD n 0 ||| 2 ^ x : Nat) : Int) = zs (L.set n (L.getD n 0 ||| 2 ^ x)) by simp [zs])
              generalize L.getD n 0 = y at *
              generalize hun : y ||| 2 ^ x = un at *
              have HAP := Lib.hid (show ∀ k, v'.ownBlock = some k → k ≠ g from fun k hk e => hap.out k hk (by rw [e]; rfl))
              clear hun hln gc gf gst hb hr ho hap hy
              have i1 : (n : Int) < (L.length : Int) := by omega
              have i2 : (0 : Int) ≤ (n : Int) := by omega
              have i3 : (0 : Int) ≤ (i : Int) := by omega
              have i4 : (i : Int) < (t.length : Int) := by omega
              go_wp2_with fail
              refine wp_region_still_tail 12 (by kernel_rfl) (by kernel_rfl) ?_
              simp only [List.take_succ_cons, List.take_zero, List.drop_succ_cons, List.drop_zero]
              repeat (first | still_step | still_call (hwi.out _))
              refine wpStill_nil ?_
              go_wp2
              go_roundw
              case rel => exact ⟨i + 1, by omega, by go_num, (HR7.out.awayFrom HAP.out).drew, by rw [HFIN.out, ← HZ.out]; exact (GST.out n un).drew, Lib.hid (fun k hk e => HAP.out k hk (by cases e; rfl)), (HB7.out.setCell (p := ⟨_, _, none⟩) gb _).drew⟩
              case measure => simp [intOf]; omega
    · obtain rfl : j = t.length := by omega
      rw [List.take_length] at hot
      clear hjl
      go_wp2_with fail
      go_ret
      exact ⟨_, rfl, hot, hb⟩
end Go.Proofs.YtoedgncbgkdmoaaDoor
