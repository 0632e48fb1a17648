/- What hist.Check tells of any history: slices of ops, what is wrong with one, and the contract. Conditions: the contract's own premises. -/
import Derived.Test.YtjmjifcaobkobaaDoorCore
import Derived.Test.YtjmjifcaobkobaaDoorHistM
namespace Go.Proofs.YtjmjifcaobkobaaDoor
open Go.RowKit

/-- an op: its process, its object, whether it writes, its value, from when, to when -/
abbrev Z6 := Int × Int × Int × Int × Int × Int
def ocells (h : List Z6) : List Value := h.flatMap fun o => [iv o.1, iv o.2.1, iv o.2.2.1, iv o.2.2.2.1, iv o.2.2.2.2.1, iv o.2.2.2.2.2]
def Ops (w : World) (B : Nat) (v : Value) (h : List Z6) : Prop := Rd w B 6 v h.length (ocells h)
def errv (c : Nat) : Value := if c = 0 then .nilIface else .iface 38 (nv c)

theorem length_ocells (h : List Z6) : (ocells h).length = h.length * 6 := by
  induction h with
  | nil => rfl
  | cons a h ih =>
    have e : ocells (a :: h) = [iv a.1, iv a.2.1, iv a.2.2.1, iv a.2.2.2.1, iv a.2.2.2.2.1, iv a.2.2.2.2.2] ++ ocells h := rfl
    rw [e, List.length_append, ih, List.length_cons]; simp; omega
theorem take_ocells (h : List Z6) (k : Nat) : (ocells h).take (k * 6) = ocells (h.take k) := by
  induction h generalizing k with
  | nil => simp [ocells]
  | cons a h ih =>
    cases k with
    | zero => simp [ocells]
    | succ k =>
      have e : ocells (a :: h) = iv a.1 :: iv a.2.1 :: iv a.2.2.1 :: iv a.2.2.2.1 :: iv a.2.2.2.2.1 :: iv a.2.2.2.2.2 :: ocells h := rfl
      rw [show (k + 1) * 6 = k * 6 + 6 from by omega, e]
      show iv a.1 :: iv a.2.1 :: iv a.2.2.1 :: iv a.2.2.2.1 :: iv a.2.2.2.2.1 :: iv a.2.2.2.2.2 :: List.take (k * 6) (ocells h) = _
      rw [ih k]
      rfl
theorem ocells_at (h : List Z6) (k : Nat) (hk : k < h.length) : (ocells h)[k * 6]? = some (iv h[k].1) ∧ (ocells h)[k * 6 + 1]? = some (iv h[k].2.1) ∧ (ocells h)[k * 6 + 2]? = some (iv h[k].2.2.1) ∧ (ocells h)[k * 6 + 3]? = some (iv h[k].2.2.2.1) ∧ (ocells h)[k * 6 + 4]? = some (iv h[k].2.2.2.2.1) ∧ (ocells h)[k * 6 + 5]? = some (iv h[k].2.2.2.2.2) := by
  induction h generalizing k with
  | nil => simp at hk
  | cons a h ih =>
    cases k with
    | zero => simp [ocells]
    | succ k =>
      have := ih k (by simpa using hk)
      have e : ocells (a :: h) = iv a.1 :: iv a.2.1 :: iv a.2.2.1 :: iv a.2.2.2.1 :: iv a.2.2.2.2.1 :: iv a.2.2.2.2.2 :: ocells h := rfl
      rw [e, show (k + 1) * 6 = k * 6 + 6 from by omega]
      simp only [List.getElem_cons_succ]
      exact this
theorem Ops.at_ {w : World} {B : Nat} {v : Value} {h : List Z6} (hr : Ops w B v h) {k : Nat} (hk : k < h.length) :
    ∃ b off cap, v = .slice (some ⟨b, off, none⟩) h.length cap ∧ h.length ≤ cap ∧ cap ≤ maxLen ∧ b < B ∧ w.cell? ⟨b, off + k * 6, none⟩ = some (.int .i64 h[k].1) ∧ w.cell? ⟨b, off + k * 6 + 1, none⟩ = some (.int .i64 h[k].2.1) ∧ w.cell? ⟨b, off + k * 6 + 2, none⟩ = some (.int .i64 h[k].2.2.1) ∧ w.cell? ⟨b, off + k * 6 + 3, none⟩ = some (.int .i64 h[k].2.2.2.1) ∧ w.cell? ⟨b, off + k * 6 + 4, none⟩ = some (.int .i64 h[k].2.2.2.2.1) ∧ w.cell? ⟨b, off + k * 6 + 5, none⟩ = some (.int .i64 h[k].2.2.2.2.2) := by
  obtain ⟨b, off, cap, e, h1, h2, hb, hc⟩ := Rd.shape hr (by omega)
  obtain ⟨c0, c1, c2, c3, c4, c5⟩ := ocells_at h k hk
  exact ⟨b, off, cap, e, h1, h2, hb, hc _ _ c0, by rw [Nat.add_assoc]; exact hc _ _ c1, by rw [Nat.add_assoc]; exact hc _ _ c2, by rw [Nat.add_assoc]; exact hc _ _ c3, by rw [Nat.add_assoc]; exact hc _ _ c4, by rw [Nat.add_assoc]; exact hc _ _ c5⟩
theorem Ops.take {w : World} {B : Nat} {A : Option Addr} {cap : Nat} {h : List Z6} (hr : Ops w B (.slice A h.length cap) h) {k : Nat} (hk : k ≤ h.length) : Ops w B (.slice A k cap) (h.take k) := by
  have := Rd.take hr hk
  rw [take_ocells] at this
  unfold Ops
  rw [List.length_take, Nat.min_eq_left hk]
  exact this

def rngs (o : Z6) : Prop := (0 ≤ o.1 ∧ o.1 ≤ 4) ∧ (0 ≤ o.2.1 ∧ o.2.1 ≤ 2) ∧ (0 ≤ o.2.2.1 ∧ o.2.2.1 ≤ 1) ∧ (0 ≤ o.2.2.2.1 ∧ o.2.2.2.1 ≤ 1000000) ∧ (0 ≤ o.2.2.2.2.1 ∧ o.2.2.2.2.1 ≤ 1000000) ∧ (0 ≤ o.2.2.2.2.2 ∧ o.2.2.2.2.2 ≤ 1000000)
instance (o : Z6) : Decidable (rngs o) := by unfold rngs; infer_instance
def clash6 (p o : Z6) : Prop := p.1 = o.1 ∧ p.2.2.2.2.1 < o.2.2.2.2.2 ∧ o.2.2.2.2.1 < p.2.2.2.2.2
instance (p o : Z6) : Decidable (clash6 p o) := by unfold clash6; infer_instance
def z6 : Z6 := (0, 0, 0, 0, 0, 0)
/-- what is wrong with op k, beside those ahead of it -/
def codeAt (h : List Z6) (k : Nat) : Nat :=
  if rngs (h.getD k z6) then
    if (h.getD k z6).2.2.2.2.2 ≤ (h.getD k z6).2.2.2.2.1 then 3 else if ∃ p ∈ h.take k, clash6 p (h.getD k z6) then 6 else 0
  else 1
/-- what is wrong first, among the first k -/
def hcode (h : List Z6) : Nat → Nat
  | 0 => 0
  | k + 1 => if hcode h k = 0 then codeAt h k else hcode h k
def histCode (h : List Z6) : Nat := if 10 < h.length then 4 else hcode h h.length
theorem hcode_stay {h : List Z6} {k : Nat} (hk : hcode h k ≠ 0) : ∀ m, hcode h (k + m) = hcode h k := by
  intro m
  induction m with
  | zero => rfl
  | succ m ih => rw [← Nat.add_assoc, hcode, if_neg (by rw [ih]; exact hk), ih]
theorem hcode_first {h : List Z6} {k : Nat} (h0 : hcode h k = 0) (hc : codeAt h k ≠ 0) (hk : k < h.length) (hl : ¬ 10 < h.length) : histCode h = codeAt h k := by
  have h1 : hcode h (k + 1) = codeAt h k := by rw [hcode, if_pos h0]
  have := hcode_stay (h := h) (k := k + 1) (by rw [h1]; exact hc) (h.length - (k + 1))
  rw [show k + 1 + (h.length - (k + 1)) = h.length by omega, h1] at this
  unfold histCode
  rw [if_neg hl, this]
theorem getD_z6 {h : List Z6} {k : Nat} (hk : k < h.length) : h.getD k z6 = h[k] := by
  rw [List.getD_eq_getElem?_getD, List.getElem?_eq_getElem hk]; rfl
theorem hcode_zero {h : List Z6} : ∀ n, n ≤ h.length → hcode h n = 0 → ∀ k, k < n → codeAt h k = 0 := by
  intro n
  induction n with
  | zero => intro _ _ k hk; omega
  | succ n ih =>
    intro hn h0 k hk
    rw [hcode] at h0
    by_cases h1 : hcode h n = 0
    · rw [if_pos h1] at h0
      by_cases e : k = n
      · subst e; exact h0
      · exact ih (by omega) h1 k (by omega)
    · rw [if_neg h1] at h0; exact absurd h0 h1
theorem codeAt_zero {h : List Z6} {k : Nat} (h0 : codeAt h k = 0) : rngs (h.getD k z6) ∧ (h.getD k z6).2.2.2.2.1 < (h.getD k z6).2.2.2.2.2 ∧ ∀ p ∈ h.take k, ¬ clash6 p (h.getD k z6) := by
  unfold codeAt at h0
  by_cases h1 : rngs (h.getD k z6)
  · rw [if_pos h1] at h0
    by_cases h2 : (h.getD k z6).2.2.2.2.2 ≤ (h.getD k z6).2.2.2.2.1
    · rw [if_pos h2] at h0; cases h0
    · rw [if_neg h2] at h0
      by_cases h3 : ∃ p ∈ h.take k, clash6 p (h.getD k z6)
      · rw [if_pos h3] at h0; cases h0
      · exact ⟨h1, by omega, fun p hp hc => h3 ⟨p, hp, hc⟩⟩
  · rw [if_neg h1] at h0; cases h0


set_option maxRecDepth 20000 in
set_option maxHeartbeats 4000000 in
theorem hcheck_calls (h : List Z6) (v : Value) (w : World) (hr : Ops w w.heap.size v h) :
    Calls Tryd.prog 6 #[v] w fun e w' => e = .returned (errv (histCode h)) ∧ Below w.heap.size w w' := by
  by_cases hlen : 10 < h.length
  · have HC := Lib.hid (show errv (histCode h) = .iface 38 (.int .i64 4) by unfold histCode; rw [if_pos hlen]; rfl)
    rw [HC.out]
    obtain ⟨A, cap, rfl⟩ := Rd.val hr
    go_enter Tryd.func6, Tryd.ntmps6
    go_wp2_with fail
    go_ret
    exact ⟨rfl, Below.refl _ _⟩
  obtain ⟨A, cap, rfl⟩ := Rd.val hr
  have HLEN := Lib.hid hlen
  obtain ⟨ev, hev⟩ : ∃ ev, ev = errv (histCode h) := ⟨_, rfl⟩
  have HEV := Lib.hid hev
  rw [← hev]
  clear hev
  go_enter Tryd.func6, Tryd.ntmps6
  go_wp2_with fail
  go_loopw [13] (fun i wr => ∃ k : Nat, k ≤ h.length ∧ i = nv k ∧ Hid (hcode h k = 0) ∧ Below w.heap.size w wr) (fun i _ => h.length - (intOf i).toNat)
  case atStart => exact ⟨0, Nat.zero_le _, rfl, Lib.hid rfl, Below.refl _ _⟩
  case round =>
    clear hlen
    obtain ⟨k, hk, rfl, h0, hb⟩ := hrel
    by_cases hlt : k < h.length
    · obtain ⟨b, off, cap', he, hlc, hcm, hbB, d0, d1, d2, d3, d4, d5⟩ := Ops.at_ (Rd.below hr hb) hlt
      cases he
      have hwr := hb.size
      have HTK := Lib.hid (Ops.take hr (k := k) hk)
      have HO := Lib.hid (getD_z6 hlt)
      have HCD := Lib.hid (show codeAt h k = if rngs h[k] then if h[k].2.2.2.2.2 ≤ h[k].2.2.2.2.1 then 3 else if ∃ p ∈ h.take k, clash6 p h[k] then 6 else 0 else 1 by unfold codeAt; rw [getD_z6 hlt])
      have HBAD := Lib.hid fun hc => hcode_first h0.out hc hlt HLEN.out
      clear hr
      generalize h[k] = o at *
      by_cases hrg : rngs o
      · have HR := Lib.hid hrg
        obtain ⟨⟨a0, b0⟩, ⟨a1, b1⟩, ⟨a2, b2⟩, ⟨a3, b3⟩, ⟨a4, b4⟩, a5, b5⟩ := hrg
        obtain ⟨pr, ob, wt, vl, fr, to⟩ := o
        simp only at d0 d1 d2 d3 d4 d5 a0 b0 a1 b1 a2 b2 a3 b3 a4 b4 a5 b5
        by_cases hft : to ≤ fr
        · have HC := Lib.hid (show codeAt h k = 3 by rw [HCD.out, if_pos HR.out, if_pos hft])
          have HE := Lib.hid (show ev = .iface 38 (.int .i64 3) by rw [HEV.out, HBAD.out (by rw [HC.out]; decide), HC.out]; rfl)
          have t1 : decide (to ≤ fr) = true := by simpa using hft
          clear hft
          go_wp2_with (go_at_call 13; refine (within_yes _ _ _ _ (by omega) (by omega)).mono ?_; rintro e w' ⟨rfl, rfl⟩)
          go_ret
          exact ⟨by rw [HE.out]; rfl, hb.alloc (by omega) _⟩
        · have HFT := Lib.hid hft
          have t1 : decide (to ≤ fr) = false := by simp; omega
          clear hft
          have hsz := hb.size
          obtain ⟨wo, rfl⟩ : ∃ wo : World, wo = wr := ⟨_, rfl⟩
          have hk64 : (k : Int) ≤ (h.length : Int) := by omega
          go_wp2_with (go_at_call 13; refine (within_yes _ _ _ _ (by omega) (by omega)).mono ?_; rintro e w' ⟨rfl, rfl⟩)
          clear d0 d1 d2 d3 d4 d5
          have HLN := Lib.hid (show (h.take k).length = k by rw [List.length_take]; omega)
          generalize h.take k = tk at *
          go_loopw [63] (fun i wr => ∃ m : Nat, m ≤ k ∧ i = nv m ∧ Hid (∀ p ∈ tk.take m, ¬ clash6 p (pr, ob, wt, vl, fr, to)) ∧ Below w.heap.size w wr ∧
              wo.heap.size < wr.heap.size ∧ wr.cell? ⟨wo.heap.size, 0, none⟩ = some (iv pr) ∧ wr.cell? ⟨wo.heap.size, 4, none⟩ = some (iv fr) ∧ wr.cell? ⟨wo.heap.size, 5, none⟩ = some (iv to)) (fun i _ => k - (intOf i).toNat)
          case atStart => exact ⟨0, Nat.zero_le _, rfl, Lib.hid (fun p hp => by simp at hp), hb.alloc (by omega) _, by simp, by simp, by simp, by simp⟩
          case round =>
            obtain ⟨m, hm, rfl, hno, hb', hlt', c0, c4, c5⟩ := hrel
            have hsz' := hb'.size
            by_cases hmk : m < k
            · obtain ⟨b2, off2, cap2, he, _, _, hb2, e0, e1, e2, e3, e4, e5⟩ := Ops.at_ (Rd.below HTK.out hb') (k := m) (by rw [HLN.out]; omega)
              rw [HLN.out] at he
              cases he
              have hmt : m < tk.length := by rw [HLN.out]; exact hmk
              have HIN := Lib.hid (List.getElem_mem hmt)
              have HSN := Lib.hid (List.take_succ_eq_append_getElem hmt)
              generalize tk[m] = q at *
              obtain ⟨q0, q1, q2, q3, q4, q5⟩ := q
              simp only at e0 e1 e2 e3 e4 e5
              by_cases hcl : clash6 (q0, q1, q2, q3, q4, q5) (pr, ob, wt, vl, fr, to)
              · have HC := Lib.hid (show codeAt h k = 6 by rw [HCD.out, if_pos HR.out, if_neg (Int.not_le.2 HFT.out), if_pos ⟨_, HIN.out, hcl⟩])
                have HE := Lib.hid (show ev = .iface 38 (.int .i64 6) by rw [HEV.out, HBAD.out (by rw [HC.out]; decide), HC.out]; rfl)
                obtain ⟨g1, g2, g3⟩ := hcl
                simp only at g1 g2 g3
                subst g1
                go_wp2_with fail
                go_ret
                exact ⟨by rw [HE.out]; rfl, hb'.alloc (by omega) _⟩
              · have HN := Lib.hid (show ∀ p ∈ tk.take (m + 1), ¬ clash6 p (pr, ob, wt, vl, fr, to) by
                  intro p hp
                  rw [HSN.out] at hp
                  rcases List.mem_append.1 hp with h1 | h1
                  · exact hno.out p h1
                  · rw [List.mem_singleton.1 h1]; exact hcl)
                have hw : (q0 ≠ pr) ∨ (q0 = pr ∧ ¬ q4 < to) ∨ (q0 = pr ∧ q4 < to ∧ ¬ fr < q5) := by
                  by_cases g1 : q0 = pr
                  · by_cases g2 : q4 < to
                    · exact .inr (.inr ⟨g1, g2, fun g3 => hcl ⟨g1, g2, g3⟩⟩)
                    · exact .inr (.inl ⟨g1, g2⟩)
                  · exact .inl g1
                clear hcl HSN HIN hno
                rcases hw with g1 | ⟨g1, g2⟩ | ⟨g1, g2, g3⟩
                · have t2 : (q0 == pr) = false := by simpa using g1
                  clear g1
                  go_wp2_with fail
                  go_roundw
                  case rel => exact ⟨m + 1, by omega, by go_num, HN, hb'.alloc (by omega) _, by simp; omega, by simp [World.cell?_alloc_past, hlt', c0], by simp [World.cell?_alloc_past, hlt', c4], by simp [World.cell?_alloc_past, hlt', c5]⟩
                  case measure => simp [intOf]; omega
                · subst g1
                  have t2 : decide (q4 < to) = false := by simpa using g2
                  clear g2
                  go_wp2_with fail
                  go_roundw
                  case rel => exact ⟨m + 1, by omega, by go_num, HN, hb'.alloc (by omega) _, by simp; omega, by simp [World.cell?_alloc_past, hlt', c0], by simp [World.cell?_alloc_past, hlt', c4], by simp [World.cell?_alloc_past, hlt', c5]⟩
                  case measure => simp [intOf]; omega
                · subst g1
                  have t2 : decide (fr < q5) = false := by simpa using g3
                  clear g3
                  go_wp2_with fail
                  go_roundw
                  case rel => exact ⟨m + 1, by omega, by go_num, HN, hb'.alloc (by omega) _, by simp; omega, by simp [World.cell?_alloc_past, hlt', c0], by simp [World.cell?_alloc_past, hlt', c4], by simp [World.cell?_alloc_past, hlt', c5]⟩
                  case measure => simp [intOf]; omega
            · obtain rfl : m = k := by omega
              have HC := Lib.hid (show codeAt h m = 0 by
                rw [HCD.out, if_pos HR.out, if_neg (Int.not_le.2 HFT.out), if_neg]
                rintro ⟨p, hp, hc⟩
                refine hno.out p ?_ hc
                rw [← HLN.out, List.take_length]; exact hp)
              have HN := Lib.hid (show hcode h (m + 1) = 0 by rw [hcode, if_pos h0.out, HC.out])
              clear hmk
              go_wp2_with fail
              go_roundw
              case rel => exact ⟨m + 1, by omega, by go_num, HN, hb'⟩
              case measure => simp [intOf]; omega
      · have HC := Lib.hid (show codeAt h k = 1 by rw [HCD.out, if_neg hrg])
        have HE := Lib.hid (show ev = .iface 38 (.int .i64 1) by rw [HEV.out, HBAD.out (by rw [HC.out]; decide), HC.out]; rfl)
        obtain ⟨pr, ob, wt, vl, fr, to⟩ := o
        simp only at d0 d1 d2 d3 d4 d5
        have hsz := hb.size
        unfold rngs at hrg
        simp only at hrg
        clear HCD HBAD HC HO HTK
        by_cases h0' : (0 ≤ pr ∧ pr ≤ 4)
        · by_cases h1 : (0 ≤ ob ∧ ob ≤ 2)
          · by_cases h2 : (0 ≤ wt ∧ wt ≤ 1)
            · by_cases h3 : (0 ≤ vl ∧ vl ≤ 1000000)
              · by_cases h4 : (0 ≤ fr ∧ fr ≤ 1000000)
                · have h5 : ¬ (0 ≤ to ∧ to ≤ 1000000) := fun h => hrg ⟨h0', h1, h2, h3, h4, h⟩
                  have H := Lib.hid h5
                  clear h5 hrg
                  obtain ⟨a0, b0⟩ := h0'
                  obtain ⟨a1, b1⟩ := h1
                  obtain ⟨a2, b2⟩ := h2
                  obtain ⟨a3, b3⟩ := h3
                  obtain ⟨a4, b4⟩ := h4
                  go_wp2_with (go_at_call 13; first | (refine (within_yes _ _ _ _ (by omega) (by omega)).mono ?_; rintro e w' ⟨rfl, rfl⟩) | (refine (within_no _ _ _ _ H.out).mono ?_; rintro e w' ⟨rfl, rfl⟩))
                  go_ret
                  exact ⟨by rw [HE.out]; rfl, hb.alloc (by omega) _⟩
                · have H := Lib.hid h4
                  clear h4 hrg
                  obtain ⟨a0, b0⟩ := h0'
                  obtain ⟨a1, b1⟩ := h1
                  obtain ⟨a2, b2⟩ := h2
                  obtain ⟨a3, b3⟩ := h3
                  go_wp2_with (go_at_call 13; first | (refine (within_yes _ _ _ _ (by omega) (by omega)).mono ?_; rintro e w' ⟨rfl, rfl⟩) | (refine (within_no _ _ _ _ H.out).mono ?_; rintro e w' ⟨rfl, rfl⟩))
                  go_ret
                  exact ⟨by rw [HE.out]; rfl, hb.alloc (by omega) _⟩
              · have H := Lib.hid h3
                clear h3 hrg
                obtain ⟨a0, b0⟩ := h0'
                obtain ⟨a1, b1⟩ := h1
                obtain ⟨a2, b2⟩ := h2
                go_wp2_with (go_at_call 13; first | (refine (within_yes _ _ _ _ (by omega) (by omega)).mono ?_; rintro e w' ⟨rfl, rfl⟩) | (refine (within_no _ _ _ _ H.out).mono ?_; rintro e w' ⟨rfl, rfl⟩))
                go_ret
                exact ⟨by rw [HE.out]; rfl, hb.alloc (by omega) _⟩
            · have H := Lib.hid h2
              clear h2 hrg
              obtain ⟨a0, b0⟩ := h0'
              obtain ⟨a1, b1⟩ := h1
              go_wp2_with (go_at_call 13; first | (refine (within_yes _ _ _ _ (by omega) (by omega)).mono ?_; rintro e w' ⟨rfl, rfl⟩) | (refine (within_no _ _ _ _ H.out).mono ?_; rintro e w' ⟨rfl, rfl⟩))
              go_ret
              exact ⟨by rw [HE.out]; rfl, hb.alloc (by omega) _⟩
          · have H := Lib.hid h1
            clear h1 hrg
            obtain ⟨a0, b0⟩ := h0'
            go_wp2_with (go_at_call 13; first | (refine (within_yes _ _ _ _ (by omega) (by omega)).mono ?_; rintro e w' ⟨rfl, rfl⟩) | (refine (within_no _ _ _ _ H.out).mono ?_; rintro e w' ⟨rfl, rfl⟩))
            go_ret
            exact ⟨by rw [HE.out]; rfl, hb.alloc (by omega) _⟩
        · have H := Lib.hid h0'
          clear h0' hrg
          go_wp2_with (go_at_call 13; first | (refine (within_yes _ _ _ _ (by omega) (by omega)).mono ?_; rintro e w' ⟨rfl, rfl⟩) | (refine (within_no _ _ _ _ H.out).mono ?_; rintro e w' ⟨rfl, rfl⟩))
          go_ret
          exact ⟨by rw [HE.out]; rfl, hb.alloc (by omega) _⟩
    · obtain rfl : k = h.length := by omega
      have HE := Lib.hid (show ev = .nilIface by rw [HEV.out]; unfold histCode; rw [if_neg HLEN.out, h0.out]; rfl)
      clear hlt
      go_wp2_with fail
      go_ret
      exact ⟨by rw [HE.out]; rfl, hb⟩
end Go.Proofs.YtjmjifcaobkobaaDoor
