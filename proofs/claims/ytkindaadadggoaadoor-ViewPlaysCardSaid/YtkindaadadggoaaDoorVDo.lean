/- Contracts of view.Do but for reads and commits. Conditions: each contract's own premises. -/
import Derived.Test.YtkindaadadggoaaDoorVMem
import Derived.Test.YtkindaadadggoaaDoorAs
namespace Go.Proofs.YtkindaadadggoaaDoor
open Go.RowKit

section
variable {w w' : World} {b : Nat} {v : Vw.V} {vs : Nat → Value}
theorem StAt.ph (h : StAt w b v vs) {x : Nat} (hx : x < 5) : w.cell? ⟨b, 1 + x * 9, none⟩ = some (nv (Vw.tx v x).ph) := h.tx hx (c := 0) (by decide)
theorem StAt.bg (h : StAt w b v vs) {x : Nat} (hx : x < 5) : w.cell? ⟨b, 1 + x * 9 + 1, none⟩ = some (nv (Vw.tx v x).bg) := h.tx hx (c := 1) (by decide)
theorem StAt.en (h : StAt w b v vs) {x : Nat} (hx : x < 5) : w.cell? ⟨b, 1 + x * 9 + 2, none⟩ = some (nv (Vw.tx v x).en) := h.tx hx (c := 2) (by decide)
theorem StAt.rds (h : StAt w b v vs) {x : Nat} (hx : x < 5) : w.cell? ⟨b, 1 + x * 9 + 3, none⟩ = some (nv (Vw.tx v x).rds) := h.tx hx (c := 3) (by decide)
theorem StAt.wrt (h : StAt w b v vs) {x : Nat} (hx : x < 5) : w.cell? ⟨b, 1 + x * 9 + 4, none⟩ = some (nv (Vw.tx v x).wrt) := h.tx hx (c := 4) (by decide)
theorem StAt.frm (h : StAt w b v vs) {x i : Nat} (hx : x < 5) (hi : i < 4) : w.cell? ⟨b, 1 + x * 9 + 5 + i, none⟩ = some (iv ((Vw.tx v x).frm.getD i 0)) := by
  have := h.tx hx (c := 5 + i) (by omega)
  rw [show 1 + x * 9 + (5 + i) = 1 + x * 9 + 5 + i by omega, show 5 + i = i + 5 by omega] at this
  exact this
theorem StAt.put (h : StAt w b v vs) (hl : v.txs.length = 5) {x c : Nat} (hx : x < 5) (hc : c < 9) (y : Value) (t : Vw.T) (ht : ∀ d, d < 9 → (if d = c then y else tcell (Vw.tx v x) d) = tcell t d) :
    StAt (w.setCell ⟨b, 1 + x * 9 + c, none⟩ y) b (Vw.put v x t) vs := h.set _ y (fun _ => rfl) (vcell_put hl vs hx hc t y ht)
theorem put_put (v : Vw.V) (x : Nat) (t t' : Vw.T) : Vw.put (Vw.put v x t) x t' = Vw.put v x t' := by
  unfold Vw.put
  simp
theorem length_put (v : Vw.V) (x : Nat) (t : Vw.T) : (Vw.put v x t).txs.length = v.txs.length := by
  unfold Vw.put
  simp
end
theorem bits_and_shlV (x j : Nat) (hx : x < 2 ^ 63) (hj : j < 62) : bits .and .i64 (x : Int) (wrap64 (2 ^ j)) = ((x &&& 2 ^ j : Nat) : Int) := by
  have h1 : 2 ^ j < 2 ^ 62 := Nat.pow_lt_pow_right (by omega) hj
  have : (2 : Int) ^ j = ((2 ^ j : Nat) : Int) := by rw [Int.natCast_pow]; rfl
  rw [wrap_two_pow j hj, this]
  exact bits_and _ _ hx (by omega)
theorem and_powV (x j : Nat) : x &&& 2 ^ j = if x.testBit j = true then 2 ^ j else 0 := by
  apply Nat.eq_of_testBit_eq
  intro i
  rw [Nat.testBit_and, Nat.testBit_two_pow]
  by_cases h : j = i
  · subst h
    split
    · rename_i hb; rw [hb, Nat.testBit_two_pow]; simp
    · rename_i hb
      have : x.testBit j = false := by simpa using hb
      rw [this, Nat.zero_testBit]; rfl
  · have : decide (j = i) = false := by simpa using h
    rw [this]
    split
    · rw [Nat.testBit_two_pow, this]; simp
    · rw [Nat.zero_testBit]; simp
abbrev Deed4V := Int × Int × Int × Int
abbrev dval (k x i u : Value) : Value := .agg #[k, x, i, u]
abbrev dobj (k x i u : Value) : Obj := .cells #[k, x, i, u] 49

set_option maxRecDepth 20000 in
set_option maxHeartbeats 1000000 in
theorem vdo_begun (v : Vw.V) (x : Nat) (i u : Int) (b : Nat) (vs : Nat → Value) (w : World) (h : StAt w b v vs) (hI : Vw.Inv v) (hx : x < 5) (hp : (Vw.tx v x).ph ≠ 0) :
    Calls Tryd.prog 25 #[.pointer (some ⟨b, 0, none⟩), dval (.int .i64 4) (nv x) (iv i) (iv u)] w fun e w' => e = .returned (.tuple #[.int .i64 0, .iface 93 (.int .i64 7)]) ∧ Below w.heap.size w w' := by
  have h0 := h.alloc (dobj (.int .i64 4) (nv x) (iv i) (iv u))
  have h1 := h0.ph hx
  have hb := h.1.lt
  have hp3 := hI.pht x
  have t1 : (((Vw.tx v x).ph : Int) != 0) = true := by simp; omega
  generalize (Vw.tx v x).ph = p at *
  clear h h0 hI hp
  go_enter Tryd.func25, Tryd.ntmps25
  go_wp2_with (go_at_call 57; refine (within_yes _ _ _ _ (by omega) (by omega)).mono ?_; rintro e w' ⟨rfl, rfl⟩)
  go_quiet (fail)
  go_wp2_with fail
  go_ret2
  exact ⟨rfl, drn ((Below.refl _ _).alloc (Nat.le_refl _) _) _⟩
set_option maxRecDepth 20000 in
set_option maxHeartbeats 1000000 in
theorem vdo_begin (v : Vw.V) (x : Nat) (i u : Int) (b : Nat) (vs : Nat → Value) (w : World) (h : StAt w b v vs) (hI : Vw.Inv v) (hx : x < 5) (hp : (Vw.tx v x).ph = 0) :
    Calls Tryd.prog 25 #[.pointer (some ⟨b, 0, none⟩), dval (.int .i64 4) (nv x) (iv i) (iv u)] w fun e w' => e = .returned (.tuple #[.int .i64 (-1), .nilIface]) ∧ StTo w b vs (Vw.put v x { Vw.tx v x with ph := 1, bg := v.now }) w' := by
  have h0 := h.alloc (dobj (.int .i64 4) (nv x) (iv i) (iv u))
  have h1 := h0.ph hx
  have h2 := h0.bg hx
  have h3 := h0.now
  have h4 := h0.1.frozen (1 + x * 9)
  have h5 := h0.1.frozen (1 + x * 9 + 1)
  have hb := h.1.lt
  have HF := Lib.hid (show ∀ n, StTo w b vs (Vw.put v x { Vw.tx v x with ph := 1, bg := v.now }) ((((w.alloc (dobj (.int .i64 4) (nv x) (iv i) (iv u))).drewN n).setCell ⟨b, 1 + x * 9, none⟩ (.int .i64 1)).setCell ⟨b, 1 + x * 9 + 1, none⟩ (nv v.now)) from fun n => by
    have g1 := (h0.drewN n).put hI.ltx hx (c := 0) (by decide) (.int .i64 1) { Vw.tx v x with ph := 1 } (fun d hd => by
      match d with
      | 0 => rfl
      | 1 => rfl
      | 2 => rfl
      | 3 => rfl
      | 4 => rfl
      | d + 5 => rfl)
    have g2 := g1.put (by rw [length_put]; exact hI.ltx) hx (c := 1) (by decide) (nv v.now) { Vw.tx v x with ph := 1, bg := v.now } (fun d hd => by
      rw [Vw.tx_put hI.ltx hx, if_pos rfl]
      match d with
      | 0 => rfl
      | 1 => rfl
      | 2 => rfl
      | 3 => rfl
      | 4 => rfl
      | d + 5 => rfl)
    rw [put_put] at g2
    exact ⟨vs, g2, ((((Only.refl _ _).alloc _).drewN n).setCell (.inl (.inl rfl)) _).setCell (.inl (.inl rfl)) _, fun _ hk => .inl hk⟩)
  rw [hp] at h1
  generalize v.now = nw at *
  clear h h0 hI hp
  go_enter Tryd.func25, Tryd.ntmps25
  go_wp2_with (go_at_call 57; refine (within_yes _ _ _ _ (by omega) (by omega)).mono ?_; rintro e w' ⟨rfl, rfl⟩)
  go_quiet (fail)
  go_wp2_with fail
  go_ret2
  exact ⟨rfl, HF.out _⟩
set_option maxRecDepth 20000 in
set_option maxHeartbeats 1000000 in
theorem vdo_shut (v : Vw.V) (k x : Nat) (i u : Int) (b : Nat) (vs : Nat → Value) (w : World) (h : StAt w b v vs) (hI : Vw.Inv v) (hk : k = 3 ∧ 0 ≤ i ∧ i ≤ 3 ∧ 0 ≤ u ∧ u ≤ 1 ∨ k = 5) (hx : x < 5) (hp : (Vw.tx v x).ph ≠ 1) :
    Calls Tryd.prog 25 #[.pointer (some ⟨b, 0, none⟩), dval (nv k) (nv x) (iv i) (iv u)] w fun e w' => e = .returned (.tuple #[.int .i64 0, .iface 93 (.int .i64 7)]) ∧ Below w.heap.size w w' := by
  have h0 := h.alloc (dobj (nv k) (nv x) (iv i) (iv u))
  have h1 := h0.ph hx
  have hb := h.1.lt
  have hp3 := hI.pht x
  have t1 : (((Vw.tx v x).ph : Int) != 1) = true := by simp; omega
  generalize (Vw.tx v x).ph = p at *
  clear h h0 hI hp
  rcases hk with ⟨rfl, hi1, hi2, hu1, hu2⟩ | rfl
  all_goals
    go_enter Tryd.func25, Tryd.ntmps25
    go_wp2_with (go_at_call 57; refine (within_yes _ _ _ _ (by omega) (by omega)).mono ?_; rintro e w' ⟨rfl, rfl⟩)
    go_quiet (fail)
    go_wp2_with fail
    go_ret2
    exact ⟨rfl, drn ((Below.refl _ _).alloc (Nat.le_refl _) _) _⟩
set_option maxRecDepth 20000 in
set_option maxHeartbeats 1000000 in
theorem vdo_write (v : Vw.V) (x i : Nat) (b : Nat) (vs : Nat → Value) (w : World) (h : StAt w b v vs) (hI : Vw.Inv v) (hx : x < 5) (hi : i < 4) (hp : (Vw.tx v x).ph = 1) :
    Calls Tryd.prog 25 #[.pointer (some ⟨b, 0, none⟩), dval (.int .i64 3) (nv x) (nv i) (.int .i64 1)] w fun e w' => e = .returned (.tuple #[.int .i64 (-1), .nilIface]) ∧ StTo w b vs (Vw.put v x { Vw.tx v x with wrt := (Vw.tx v x).wrt ||| 2 ^ i }) w' := by
  have h0 := h.alloc (dobj (.int .i64 3) (nv x) (nv i) (.int .i64 1))
  have h1 := h0.ph hx
  have h2 := h0.wrt hx
  have h4 := h0.1.frozen (1 + x * 9 + 4)
  have hb := h.1.lt
  have hw := hI.wlt x
  have HF := Lib.hid (show ∀ n, StTo w b vs (Vw.put v x { Vw.tx v x with wrt := (Vw.tx v x).wrt ||| 2 ^ i }) (((w.alloc (dobj (.int .i64 3) (nv x) (nv i) (.int .i64 1))).drewN n).setCell ⟨b, 1 + x * 9 + 4, none⟩ (nv ((Vw.tx v x).wrt ||| 2 ^ i))) from fun n => by
    have g1 := (h0.drewN n).put hI.ltx hx (c := 4) (by decide) (nv ((Vw.tx v x).wrt ||| 2 ^ i)) { Vw.tx v x with wrt := (Vw.tx v x).wrt ||| 2 ^ i } (fun d hd => by
      match d with
      | 0 => rfl
      | 1 => rfl
      | 2 => rfl
      | 3 => rfl
      | 4 => rfl
      | d + 5 => rfl)
    exact ⟨vs, g1, (((Only.refl _ _).alloc _).drewN n).setCell (.inl (.inl rfl)) _, fun _ hk => .inl hk⟩)
  have hor := bits_or_shl (Vw.tx v x).wrt i (by omega) (by omega)
  rw [hp] at h1
  generalize (Vw.tx v x).wrt ||| 2 ^ i = nw at *
  generalize (Vw.tx v x).wrt = ow at *
  clear h h0 hI hp
  go_enter Tryd.func25, Tryd.ntmps25
  go_wp2_with (go_at_call 57; refine (within_yes _ _ _ _ (by omega) (by omega)).mono ?_; rintro e w' ⟨rfl, rfl⟩)
  go_quiet (fail)
  go_wp2_with fail
  go_ret2
  exact ⟨rfl, HF.out _⟩
set_option maxRecDepth 20000 in
set_option maxHeartbeats 1000000 in
theorem vdo_own (v : Vw.V) (x i : Nat) (b : Nat) (vs : Nat → Value) (w : World) (h : StAt w b v vs) (hI : Vw.Inv v) (hx : x < 5) (hi : i < 4) (hp : (Vw.tx v x).ph = 1) (hw : (Vw.tx v x).wrt.testBit i = true) :
    Calls Tryd.prog 25 #[.pointer (some ⟨b, 0, none⟩), dval (.int .i64 3) (nv x) (nv i) (.int .i64 0)] w fun e w' => e = .returned (.tuple #[nv x, .nilIface]) ∧ Below w.heap.size w w' := by
  have h0 := h.alloc (dobj (.int .i64 3) (nv x) (nv i) (.int .i64 0))
  have h1 := h0.ph hx
  have h2 := h0.wrt hx
  have hb := h.1.lt
  have hw16 := hI.wlt x
  have hand := bits_and_shlV (Vw.tx v x).wrt i (by omega) (by omega)
  rw [and_powV, if_pos hw] at hand
  have t1 : ((((2 ^ i : Nat) : Int)) != 0) = true := by
    have h0 := Nat.two_pow_pos i
    generalize 2 ^ i = q at *
    simp
    omega
  rw [hp] at h1
  generalize 2 ^ i = q at *
  generalize (Vw.tx v x).wrt = ow at *
  clear h h0 hI hp hw
  go_enter Tryd.func25, Tryd.ntmps25
  go_wp2_with (go_at_call 57; refine (within_yes _ _ _ _ (by omega) (by omega)).mono ?_; rintro e w' ⟨rfl, rfl⟩)
  go_quiet (fail)
  go_wp2_with fail
  go_ret2
  exact ⟨rfl, drn ((Below.refl _ _).alloc (Nat.le_refl _) _) _⟩
end Go.Proofs.YtkindaadadggoaaDoor
