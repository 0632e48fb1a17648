/- Words for walks of many calls: a slice that reads as a list in every later world; the contracts of orders in these words. Conditions: each contract's own premises. -/
import Derived.Test.YtpicjikjinkkpaaDoorRefT
import Derived.Test.YtpicjikjinkkpaaDoorTurned
import Derived.Test.YtpicjikjinkkpaaDoorAs
namespace Go.Proofs.YtpicjikjinkkpaaDoor
open Go.RowKit

/-- in every world from w on the slice reads as the list -/
def Kept (w : World) (v : Value) (l : List Int) : Prop := ∀ w', Below w.heap.size w w' → Ints w' w'.heap.size v l
theorem Kept.of {w : World} {v : Value} {l : List Int} (h : Ints w w.heap.size v l) : Kept w v l := fun _ hb => (Rd.below h hb).more hb.size
theorem Kept.ints {w : World} {v : Value} {l : List Int} (h : Kept w v l) : Ints w w.heap.size v l := h w (Below.refl _ _)
theorem Kept.next {w w1 : World} {v : Value} {l : List Int} (h : Kept w v l) (hb : Below w.heap.size w w1) : Kept w1 v l := fun w' hb' => h w' (hb.trans (hb'.mono hb.size))
theorem Kept.nil (w : World) : Kept w (.slice none 0 0) [] := fun _ _ => Rd.nil _ _ _
theorem ints_same {w : World} {v u : Value} {l : List Int} (hv : Kept w v l) (hu : Kept w u l) : Calls Tryd.prog 22 #[v, u] w fun e w' => e = .returned (.bool true) ∧ Below w.heap.size w w' := by
  have h := ints_calls v u l l w.heap.size w (Nat.le_refl _) hv.ints hu.ints
  rw [decide_eq_true rfl] at h
  exact h
theorem errorn (c : Nat) (w : World) (hg : ErrTy w) (hc : c ≠ 0) : Calls Tryd.prog 44 #[.iface 56 (nv c), nv c] w fun e w' => e = .returned (.bool true) ∧ Below w.heap.size w w' := by
  have h := error_calls c (c : Int) w hg
  rw [decide_eq_true rfl] at h
  unfold errw at h
  rw [if_neg hc] at h
  exact h
theorem error1 (w : World) (hg : ErrTy w) : Calls Tryd.prog 44 #[.iface 56 (.int .i64 1), .int .i64 1] w fun e w' => e = .returned (.bool true) ∧ Below w.heap.size w w' := by
  have h := error_calls 1 1 w hg
  have e1 : errw 1 = .iface 56 (.int .i64 1) := by unfold errw; rw [if_neg (by decide)]; rfl
  have e2 : decide (((1 : Nat) : Int) = 1) = true := by decide
  rw [e1, e2] at h
  exact h
theorem error0 (w : World) : Calls Tryd.prog 44 #[.nilIface, .int .i64 0] w fun e w' => e = .returned (.bool true) ∧ Below w.heap.size w w' := by
  have hT := Lib.hid (told_nil w)
  go_enter Tryd.func44, Tryd.ntmps44
  go_wp2_with fail
  refine hT.out.mono ?_
  rintro e w1 ⟨rfl, rfl⟩
  clear hT
  go_wp2_with fail
  go_ret
  exact ⟨rfl, Below.refl _ _⟩
theorem rorder0 (m : List Nat) (v : Value) (w : World) (hr : Ints w w.heap.size v (zs m)) (hv : Odr.Valid m) : Calls Tryd.prog 46 #[v] w fun e w' => e = .returned (.int .i64 0) ∧ Below w.heap.size w w' := by
  have h := rorder_calls (zs m) v w hr
  rw [orderCode_fits hv.few hv.fits, if_pos ((valid_iff hv.few hv.fits).2 hv)] at h
  exact h
theorem rorder6 (m : List Nat) (v : Value) (w : World) (hr : Ints w w.heap.size v (zs m)) (hl : m.length ≤ 12) (hf : Odr.Fits m) (hi : ¬ irrOk m) : Calls Tryd.prog 46 #[v] w fun e w' => e = .returned (.int .i64 6) ∧ Below w.heap.size w w' := by
  have h := rorder_calls (zs m) v w hr
  rw [orderCode_fits hl hf, if_neg hi] at h
  exact h
theorem behind_k (m : List Nat) (v : Value) (w : World) (hr : Ints w w.heap.size v (zs m)) (hv : Odr.Valid m) :
    Calls Tryd.prog 20 #[v] w fun e w' => (∃ v', e = .returned (.tuple #[v', .nilIface]) ∧ Kept w' v' (zs (Odr.closed m))) ∧ Below w.heap.size w w' :=
  (behind_ok m v w hr hv).mono fun _ _ ⟨v', h1, h2, h3⟩ => ⟨⟨v', h1, Kept.of h2.ints⟩, h3⟩
theorem turned_k (m : List Nat) (v : Value) (w : World) (hr : Ints w w.heap.size v (zs m)) (hv : Odr.Valid m) (hT : Tab w) :
    Calls Tryd.prog 21 #[v] w fun e w' => (∃ v', e = .returned (.tuple #[v', .nilIface]) ∧ Kept w' v' (zs (Odr.turned m))) ∧ Below w.heap.size w w' :=
  (turned_ok m v w hr hv hT).mono fun _ _ ⟨v', h1, h2, h3⟩ => ⟨⟨v', h1, Kept.of h2.ints⟩, h3⟩
theorem rclosed_k (m : List Nat) (v : Value) (w : World) (hr : Ints w w.heap.size v (zs m)) (hv : Odr.Valid m) :
    Calls Tryd.prog 47 #[v] w fun e w' => (∃ v', e = .returned v' ∧ Kept w' v' (zs (Odr.closed m))) ∧ Below w.heap.size w w' :=
  (rclosed_calls m v w.heap.size w (Nat.le_refl _) hr hv.few hv.fits).mono fun _ _ ⟨v', h1, h2, h3⟩ => ⟨⟨v', h1, Kept.of h2.ints⟩, h3⟩
theorem rturned_k (m : List Nat) (v : Value) (w : World) (hr : Ints w w.heap.size v (zs m)) (hv : Odr.Valid m) :
    Calls Tryd.prog 48 #[v] w fun e w' => (∃ v', e = .returned v' ∧ Kept w' v' (zs (Odr.turned m))) ∧ Below w.heap.size w w' :=
  (rturned_calls m v w hr hv.few hv.fits).mono fun _ _ ⟨v', h1, h2, h3⟩ => ⟨⟨v', h1, Kept.of h2.ints⟩, h3⟩
theorem rmore_k (m : List Nat) (v : Value) (a b : Nat) (w : World) (hr : Ints w w.heap.size v (zs m)) (hv : Odr.Valid m) (hb : b < 12) :
    Calls Tryd.prog 49 #[v, nv a, nv b] w fun e w' => (∃ v', e = .returned v' ∧ Kept w' v' (zs (Odr.more m a b))) ∧ Below w.heap.size w w' :=
  (rmore_calls m v a b w hr hv.few hv.fits hb).mono fun _ _ ⟨v', h1, h2, h3⟩ => ⟨⟨v', h1, Kept.of h2.ints⟩, h3⟩
theorem with_yes_k (m : List Nat) (v : Value) (a b : Nat) (w : World) (hr : Ints w w.heap.size v (zs m)) (hv : Odr.Valid m) (ha : a < m.length) (hb : b < m.length) (h : irrOk (Odr.more m a b)) :
    Calls Tryd.prog 32 #[v, nv a, nv b] w fun e w' => (∃ v', e = .returned (.tuple #[v', .nilIface]) ∧ Kept w' v' (zs (Odr.closed (Odr.more m a b)))) ∧ Below w.heap.size w w' :=
  (with_ok m v a b w hr hv ha hb).mono fun _ _ ⟨h1, h2⟩ => by
    rcases h2 with ⟨_, v', h3, h4⟩ | ⟨h3, _⟩
    · exact ⟨⟨v', h3, Kept.of h4.ints⟩, h1⟩
    · exact absurd h h3
theorem with_no_k (m : List Nat) (v : Value) (a b : Nat) (w : World) (hr : Ints w w.heap.size v (zs m)) (hv : Odr.Valid m) (ha : a < m.length) (hb : b < m.length) (h : ¬ irrOk (Odr.more m a b)) :
    Calls Tryd.prog 32 #[v, nv a, nv b] w fun e w' => e = .returned (.tuple #[.slice none 0 0, .iface 56 (.int .i64 6)]) ∧ Below w.heap.size w w' :=
  (with_ok m v a b w hr hv ha hb).mono fun _ _ ⟨h1, h2⟩ => by
    rcases h2 with ⟨h3, _⟩ | ⟨_, h3⟩
    · exact absurd h3 h
    · exact ⟨h3, h1⟩
end Go.Proofs.YtpicjikjinkkpaaDoor
