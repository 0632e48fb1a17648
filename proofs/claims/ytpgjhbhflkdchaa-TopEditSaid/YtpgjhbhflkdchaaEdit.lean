/- Package edit: what is wrong with an edit, an edit turned over one that puts in a byte, an edit that puts in a byte applied. Conditions: each contract's own premises. -/
import Derived.WalkKit
import Derived.WalkSpells
import Derived.WalkLawsBesides
import Derived.Lib.Hide
import Derived.Deep.Draws
import Derived.Test.YtpgjhbhflkdchaaEditM
import Derived.Test.YtpgjhbhflkdchaaProg
namespace Go.Proofs.Ytpgjhbhflkdchaa
open Go.RowKit

theorem within_yes (n lo hi : Int) (w : World) (h1 : lo ≤ n) (h2 : n ≤ hi) : Calls Try.prog 8 #[.int .i64 n, .int .i64 lo, .int .i64 hi] w fun e w' => e = .returned (.bool true) ∧ w = w' := by
  go_enter Try.func8, Try.ntmps8
  go_wp2
  go_ret
  exact ⟨rfl, rfl⟩
theorem within_no (n lo hi : Int) (w : World) (h : ¬ (lo ≤ n ∧ n ≤ hi)) : Calls Try.prog 8 #[.int .i64 n, .int .i64 lo, .int .i64 hi] w fun e w' => e = .returned (.bool false) ∧ w = w' := by
  by_cases h1 : lo ≤ n
  · have h2 : decide (n ≤ hi) = false := by simp; omega
    clear h
    go_enter Try.func8, Try.ntmps8
    go_wp2
    go_ret
    exact ⟨rfl, rfl⟩
  · clear h
    go_enter Try.func8, Try.ntmps8
    go_wp2
    go_ret
    exact ⟨rfl, rfl⟩

abbrev ev (a b c : Int) : Value := .agg #[.int .i64 a, .int .i64 b, .int .i64 c]
abbrev ec (n : Int) : Value := .iface 31 (.int .i64 n)

def edOk (a b c : Int) : Prop := (0 ≤ a ∧ a ≤ 60) ∧ (-2 ≤ b ∧ b ≤ 255) ∧ (0 ≤ c ∧ c ≤ 4)
instance (a b c : Int) : Decidable (edOk a b c) := by unfold edOk; infer_instance

theorem echeck_ok (a b c : Int) (w : World) (h : edOk a b c) :
    Calls Try.prog 6 #[ev a b c] w fun e w' => e = .returned .nilIface ∧ Below w.heap.size w w' := by
  obtain ⟨⟨h1, h2⟩, ⟨h3, h4⟩, h5, h6⟩ := h
  go_enter Try.func6, Try.ntmps6
  go_wp2_with (go_at_call 8; refine (within_yes _ _ _ _ (by omega) (by omega)).mono ?_; rintro e w' ⟨rfl, rfl⟩)
  go_ret
  exact ⟨rfl, (Below.refl _ _).alloc (Nat.le_refl _) _⟩

theorem echeck_no (a b c : Int) (w : World) (h : ¬ edOk a b c) :
    Calls Try.prog 6 #[ev a b c] w fun e w' => e = .returned (ec 1) ∧ Below w.heap.size w w' := by
  by_cases h1 : 0 ≤ a ∧ a ≤ 60
  · by_cases h2 : -2 ≤ b ∧ b ≤ 255
    · have h3 := Lib.hid (show ¬ (0 ≤ c ∧ c ≤ 4) from fun h3 => h ⟨h1, h2, h3⟩)
      obtain ⟨g1, g2⟩ := h1
      obtain ⟨g3, g4⟩ := h2
      clear h
      go_enter Try.func6, Try.ntmps6
      go_wp2_with (go_at_call 8; first | (refine (within_yes _ _ _ _ (by omega) (by omega)).mono ?_; rintro e w' ⟨rfl, rfl⟩) | (refine (within_no _ _ _ _ h3.out).mono ?_; rintro e w' ⟨rfl, rfl⟩))
      go_ret
      exact ⟨rfl, (Below.refl _ _).alloc (Nat.le_refl _) _⟩
    · have h3 := Lib.hid h2
      obtain ⟨g1, g2⟩ := h1
      clear h h2
      go_enter Try.func6, Try.ntmps6
      go_wp2_with (go_at_call 8; first | (refine (within_yes _ _ _ _ (by omega) (by omega)).mono ?_; rintro e w' ⟨rfl, rfl⟩) | (refine (within_no _ _ _ _ h3.out).mono ?_; rintro e w' ⟨rfl, rfl⟩))
      go_ret
      exact ⟨rfl, (Below.refl _ _).alloc (Nat.le_refl _) _⟩
  · have h3 := Lib.hid h1
    clear h h1
    go_enter Try.func6, Try.ntmps6
    go_wp2_with (go_at_call 8; refine (within_no _ _ _ _ h3.out).mono ?_; rintro e w' ⟨rfl, rfl⟩)
    go_ret
    exact ⟨rfl, (Below.refl _ _).alloc (Nat.le_refl _) _⟩
/-- a struct of three ints, laid down in a block of its own -/
theorem box3 (w : World) (a b c : Int) : ∃ w1, w.alloc (.cells #[.int .i64 a, .int .i64 b, .int .i64 c] 23) = w1 ∧ w1.heap.size = w.heap.size + 1 ∧ Below w.heap.size w w1 ∧
    w1.cell? ⟨w.heap.size, 0, none⟩ = some (.int .i64 a) ∧ w1.cell? ⟨w.heap.size, 1, none⟩ = some (.int .i64 b) ∧ w1.cell? ⟨w.heap.size, 2, none⟩ = some (.int .i64 c) ∧
    w1.frozen? ⟨w.heap.size, 0, none⟩ = false ∧ w1.frozen? ⟨w.heap.size, 1, none⟩ = false ∧ w1.frozen? ⟨w.heap.size, 2, none⟩ = false :=
  ⟨_, rfl, by simp, (Below.refl _ _).alloc (Nat.le_refl _) _, by simp, by simp, by simp, by simp, by simp, by simp⟩

/-- the struct lies at block B of a world, and may be written -/
def At3 (w : World) (B : Nat) (a b c : Int) : Prop := (w.cell? ⟨B, 0, none⟩ = some (.int .i64 a) ∧ w.cell? ⟨B, 1, none⟩ = some (.int .i64 b) ∧ w.cell? ⟨B, 2, none⟩ = some (.int .i64 c)) ∧
  w.frozen? ⟨B, 0, none⟩ = false ∧ w.frozen? ⟨B, 1, none⟩ = false ∧ w.frozen? ⟨B, 2, none⟩ = false
theorem At3.below {w w' : World} {B K : Nat} {a b c : Int} (h : At3 w B a b c) (g : Below K w w') (hB : B < K) : At3 w' B a b c := by
  obtain ⟨⟨h1, h2, h3⟩, h4, h5, h6⟩ := h
  exact ⟨⟨(g.cell (p := ⟨B, 0, none⟩) hB).trans h1, (g.cell (p := ⟨B, 1, none⟩) hB).trans h2, (g.cell (p := ⟨B, 2, none⟩) hB).trans h3⟩, (g.frozen (p := ⟨B, 0, none⟩) hB).trans h4, (g.frozen (p := ⟨B, 1, none⟩) hB).trans h5, (g.frozen (p := ⟨B, 2, none⟩) hB).trans h6⟩

/-- an edit that puts in a byte, turned over another one that does, at another place -/
theorem turn_ok (a b c o p q : Int) (w : World) (h : edOk a b c) (h' : edOk o p q) (hb : 0 ≤ b) (hp : 0 ≤ p) (hc : c ≠ q) (hao : a ≠ o) (hfit : a + (if o < a then 1 else 0) ≤ 60) :
    Calls Try.prog 7 #[ev a b c, ev o p q] w fun e w' => e = .returned (.tuple #[ev (a + (if o < a then 1 else 0)) b c, .nilIface]) ∧ Below w.heap.size w w' := by
  obtain ⟨⟨a1, a2⟩, _⟩ := id h
  obtain ⟨⟨o1, o2⟩, _⟩ := id h'
  have H := fun w => Lib.hid (echeck_ok a b c w h)
  have H' := fun w => Lib.hid (echeck_ok o p q w h')
  clear h h'
  have e1 : (c == q) = false := by simpa using hc
  have e2 : decide (0 ≤ b) = true := by simpa using hb
  have e3 : decide (0 ≤ p) = true := by simpa using hp
  have e4 : (b == -2) = false := by simp; omega
  have e5 : (p == -2) = false := by simp; omega
  have e6 : (o == a) = false := by simp; omega
  by_cases hlt : o < a
  · rw [if_pos hlt] at hfit ⊢
    go_enter Try.func7, Try.ntmps7
    go_wp2_with fail
    obtain ⟨wa, hwa, sa, ba, ka⟩ := box3 w a b c
    obtain ⟨wb, hwb, sb, bb, kb⟩ := box3 wa o p q
    obtain ⟨wc, hwc, sc, bc, kc⟩ := box3 wb 0 0 0
    rw [hwa, hwb, hwc]
    obtain ⟨B, hB⟩ : ∃ B, B = w.heap.size := ⟨_, rfl⟩
    rw [← hB] at sa ka ⊢
    rw [sa] at sb kb
    rw [sb] at sc kc
    refine (H _).out.mono ?_
    rintro e w1 ⟨rfl, hb1⟩
    have bab := bb.trans (bc.mono (by omega))
    have bw : Below B w wc := by rw [hB]; exact ba.trans (bab.mono (by omega))
    have ka' : At3 wc B a b c := At3.below ⟨⟨ka.1, ka.2.1, ka.2.2.1⟩, ka.2.2.2⟩ bab (by omega)
    have kb' : At3 wc (B + 1) o p q := At3.below ⟨⟨kb.1, kb.2.1, kb.2.2.1⟩, kb.2.2.2⟩ bc (by omega)
    have kc' : At3 wc (B + 1 + 1) 0 0 0 := ⟨⟨kc.1, kc.2.1, kc.2.2.1⟩, kc.2.2.2⟩
    obtain ⟨⟨x1, x2, x3⟩, x4, x5, x6⟩ := ka'.below hb1 (by omega)
    obtain ⟨⟨y1, y2, y3⟩, y4, y5, y6⟩ := kb'.below hb1 (by omega)
    obtain ⟨⟨z1, z2, z3⟩, z4, z5, z6⟩ := kc'.below hb1 (by omega)
    have bw1 : Below B w w1 := bw.trans (hb1.mono (by omega))
    have s1 := hb1.size
    rw [sc] at s1
    have HB := Lib.hid hB
    have S1 := Lib.hid s1
    clear ka kb kc ka' kb' kc' hwa hwb hwc hB sa sb sc ba bb bc bab s1 hb1 bw
    go_wp2_with fail
    refine (H' _).out.mono ?_
    rintro e w2 ⟨rfl, hb2⟩
    have s1 := S1.out
    obtain ⟨⟨x1, x2, x3⟩, x4, x5, x6⟩ := At3.below ⟨⟨x1, x2, x3⟩, x4, x5, x6⟩ hb2 (show B < w1.heap.size by omega)
    obtain ⟨⟨y1, y2, y3⟩, y4, y5, y6⟩ := At3.below ⟨⟨y1, y2, y3⟩, y4, y5, y6⟩ hb2 (show B + 1 < w1.heap.size by omega)
    obtain ⟨⟨z1, z2, z3⟩, z4, z5, z6⟩ := At3.below ⟨⟨z1, z2, z3⟩, z4, z5, z6⟩ hb2 (show B + 1 + 1 < w1.heap.size by omega)
    have bw2 : Below B w w2 := bw1.trans (hb2.mono (by omega))
    clear s1 hb2 bw1
    go_wp2_with fail
    (try simp only [Exit.inBlock, Exit.then])
    refine bodyPost_ret (by simp [results, Try.results7, go_sem, z1, z2, z3]; try rfl) rfl ?_
    exact ⟨rfl, by rw [← HB.out]; exact ((((bw2.setCell (by simp <;> omega) _).setCell (by simp <;> omega) _).setCell (by simp <;> omega) _).setCell (by simp <;> omega) _)⟩
  · rw [if_neg hlt] at hfit ⊢
    rw [Int.add_zero] at hfit ⊢
    go_enter Try.func7, Try.ntmps7
    go_wp2_with fail
    obtain ⟨wa, hwa, sa, ba, ka⟩ := box3 w a b c
    obtain ⟨wb, hwb, sb, bb, kb⟩ := box3 wa o p q
    obtain ⟨wc, hwc, sc, bc, kc⟩ := box3 wb 0 0 0
    rw [hwa, hwb, hwc]
    obtain ⟨B, hB⟩ : ∃ B, B = w.heap.size := ⟨_, rfl⟩
    rw [← hB] at sa ka ⊢
    rw [sa] at sb kb
    rw [sb] at sc kc
    refine (H _).out.mono ?_
    rintro e w1 ⟨rfl, hb1⟩
    have bab := bb.trans (bc.mono (by omega))
    have bw : Below B w wc := by rw [hB]; exact ba.trans (bab.mono (by omega))
    have ka' : At3 wc B a b c := At3.below ⟨⟨ka.1, ka.2.1, ka.2.2.1⟩, ka.2.2.2⟩ bab (by omega)
    have kb' : At3 wc (B + 1) o p q := At3.below ⟨⟨kb.1, kb.2.1, kb.2.2.1⟩, kb.2.2.2⟩ bc (by omega)
    have kc' : At3 wc (B + 1 + 1) 0 0 0 := ⟨⟨kc.1, kc.2.1, kc.2.2.1⟩, kc.2.2.2⟩
    obtain ⟨⟨x1, x2, x3⟩, x4, x5, x6⟩ := ka'.below hb1 (by omega)
    obtain ⟨⟨y1, y2, y3⟩, y4, y5, y6⟩ := kb'.below hb1 (by omega)
    obtain ⟨⟨z1, z2, z3⟩, z4, z5, z6⟩ := kc'.below hb1 (by omega)
    have bw1 : Below B w w1 := bw.trans (hb1.mono (by omega))
    have s1 := hb1.size
    rw [sc] at s1
    have HB := Lib.hid hB
    have S1 := Lib.hid s1
    clear ka kb kc ka' kb' kc' hwa hwb hwc hB sa sb sc ba bb bc bab s1 hb1 bw
    go_wp2_with fail
    refine (H' _).out.mono ?_
    rintro e w2 ⟨rfl, hb2⟩
    have s1 := S1.out
    obtain ⟨⟨x1, x2, x3⟩, x4, x5, x6⟩ := At3.below ⟨⟨x1, x2, x3⟩, x4, x5, x6⟩ hb2 (show B < w1.heap.size by omega)
    obtain ⟨⟨y1, y2, y3⟩, y4, y5, y6⟩ := At3.below ⟨⟨y1, y2, y3⟩, y4, y5, y6⟩ hb2 (show B + 1 < w1.heap.size by omega)
    obtain ⟨⟨z1, z2, z3⟩, z4, z5, z6⟩ := At3.below ⟨⟨z1, z2, z3⟩, z4, z5, z6⟩ hb2 (show B + 1 + 1 < w1.heap.size by omega)
    have bw2 : Below B w w2 := bw1.trans (hb2.mono (by omega))
    clear s1 hb2 bw1
    go_wp2_with fail
    (try simp only [Exit.inBlock, Exit.then])
    refine bodyPost_ret (by simp [results, Try.results7, go_sem, z1, z2, z3]; try rfl) rfl ?_
    exact ⟨rfl, by rw [← HB.out]; exact (((bw2.setCell (by simp <;> omega) _).setCell (by simp <;> omega) _).setCell (by simp <;> omega) _)⟩

theorem turn_no1 (a b c o p q : Int) (w : World) (h : ¬ edOk a b c) :
    Calls Try.prog 7 #[ev a b c, ev o p q] w fun e w' => (∃ n, e = .returned (.tuple #[ev 0 0 0, ec n])) ∧ Below w.heap.size w w' := by
  have H := fun w => Lib.hid (echeck_no a b c w h)
  clear h
  go_enter Try.func7, Try.ntmps7
  go_wp2_with fail
  obtain ⟨wa, hwa, sa, ba, ka⟩ := box3 w a b c
  obtain ⟨wb, hwb, sb, bb, kb⟩ := box3 wa o p q
  obtain ⟨wc, hwc, sc, bc, kc⟩ := box3 wb 0 0 0
  rw [hwa, hwb, hwc]
  obtain ⟨B, hB⟩ : ∃ B, B = w.heap.size := ⟨_, rfl⟩
  rw [← hB] at sa ka ⊢
  rw [sa] at sb kb
  rw [sb] at sc kc
  refine (H _).out.mono ?_
  rintro e w1 ⟨rfl, hb1⟩
  have bab := bb.trans (bc.mono (by omega))
  have bw : Below B w wc := by rw [hB]; exact ba.trans (bab.mono (by omega))
  have ka' : At3 wc B a b c := At3.below ⟨⟨ka.1, ka.2.1, ka.2.2.1⟩, ka.2.2.2⟩ bab (by omega)
  have kb' : At3 wc (B + 1) o p q := At3.below ⟨⟨kb.1, kb.2.1, kb.2.2.1⟩, kb.2.2.2⟩ bc (by omega)
  have kc' : At3 wc (B + 1 + 1) 0 0 0 := ⟨⟨kc.1, kc.2.1, kc.2.2.1⟩, kc.2.2.2⟩
  obtain ⟨⟨x1, x2, x3⟩, x4, x5, x6⟩ := ka'.below hb1 (by omega)
  obtain ⟨⟨y1, y2, y3⟩, y4, y5, y6⟩ := kb'.below hb1 (by omega)
  obtain ⟨⟨z1, z2, z3⟩, z4, z5, z6⟩ := kc'.below hb1 (by omega)
  have bw1 : Below B w w1 := bw.trans (hb1.mono (by omega))
  have s1 := hb1.size
  rw [sc] at s1
  have HB := Lib.hid hB
  have S1 := Lib.hid s1
  clear ka kb kc ka' kb' kc' hwa hwb hwc hB sa sb sc ba bb bc bab s1 hb1 bw
  go_wp2_with fail
  (try simp only [Exit.inBlock, Exit.then])
  refine bodyPost_ret (by simp [results, Try.results7, go_sem, z1, z2, z3]; try rfl) rfl ?_
  exact ⟨⟨1, rfl⟩, by rw [← HB.out]; exact (((bw1.setCell (by simp <;> omega) _).setCell (by simp <;> omega) _).setCell (by simp <;> omega) _)⟩

theorem turn_no2 (a b c o p q : Int) (w : World) (h : edOk a b c) (h' : ¬ edOk o p q) :
    Calls Try.prog 7 #[ev a b c, ev o p q] w fun e w' => (∃ n, e = .returned (.tuple #[ev 0 0 0, ec n])) ∧ Below w.heap.size w w' := by
  have H := fun w => Lib.hid (echeck_ok a b c w h)
  have H' := fun w => Lib.hid (echeck_no o p q w h')
  clear h h'
  go_enter Try.func7, Try.ntmps7
  go_wp2_with fail
  obtain ⟨wa, hwa, sa, ba, ka⟩ := box3 w a b c
  obtain ⟨wb, hwb, sb, bb, kb⟩ := box3 wa o p q
  obtain ⟨wc, hwc, sc, bc, kc⟩ := box3 wb 0 0 0
  rw [hwa, hwb, hwc]
  obtain ⟨B, hB⟩ : ∃ B, B = w.heap.size := ⟨_, rfl⟩
  rw [← hB] at sa ka ⊢
  rw [sa] at sb kb
  rw [sb] at sc kc
  refine (H _).out.mono ?_
  rintro e w1 ⟨rfl, hb1⟩
  have bab := bb.trans (bc.mono (by omega))
  have bw : Below B w wc := by rw [hB]; exact ba.trans (bab.mono (by omega))
  have ka' : At3 wc B a b c := At3.below ⟨⟨ka.1, ka.2.1, ka.2.2.1⟩, ka.2.2.2⟩ bab (by omega)
  have kb' : At3 wc (B + 1) o p q := At3.below ⟨⟨kb.1, kb.2.1, kb.2.2.1⟩, kb.2.2.2⟩ bc (by omega)
  have kc' : At3 wc (B + 1 + 1) 0 0 0 := ⟨⟨kc.1, kc.2.1, kc.2.2.1⟩, kc.2.2.2⟩
  obtain ⟨⟨x1, x2, x3⟩, x4, x5, x6⟩ := ka'.below hb1 (by omega)
  obtain ⟨⟨y1, y2, y3⟩, y4, y5, y6⟩ := kb'.below hb1 (by omega)
  obtain ⟨⟨z1, z2, z3⟩, z4, z5, z6⟩ := kc'.below hb1 (by omega)
  have bw1 : Below B w w1 := bw.trans (hb1.mono (by omega))
  have s1 := hb1.size
  rw [sc] at s1
  have HB := Lib.hid hB
  have S1 := Lib.hid s1
  clear ka kb kc ka' kb' kc' hwa hwb hwc hB sa sb sc ba bb bc bab s1 hb1 bw
  go_wp2_with fail
  refine (H' _).out.mono ?_
  rintro e w2 ⟨rfl, hb2⟩
  have s1 := S1.out
  obtain ⟨⟨x1, x2, x3⟩, x4, x5, x6⟩ := At3.below ⟨⟨x1, x2, x3⟩, x4, x5, x6⟩ hb2 (show B < w1.heap.size by omega)
  obtain ⟨⟨y1, y2, y3⟩, y4, y5, y6⟩ := At3.below ⟨⟨y1, y2, y3⟩, y4, y5, y6⟩ hb2 (show B + 1 < w1.heap.size by omega)
  obtain ⟨⟨z1, z2, z3⟩, z4, z5, z6⟩ := At3.below ⟨⟨z1, z2, z3⟩, z4, z5, z6⟩ hb2 (show B + 1 + 1 < w1.heap.size by omega)
  have bw2 : Below B w w2 := bw1.trans (hb2.mono (by omega))
  clear s1 hb2 bw1
  go_wp2_with fail
  (try simp only [Exit.inBlock, Exit.then])
  refine bodyPost_ret (by simp [results, Try.results7, go_sem, z1, z2, z3]; try rfl) rfl ?_
  exact ⟨⟨1, rfl⟩, by rw [← HB.out]; exact (((bw2.setCell (by simp <;> omega) _).setCell (by simp <;> omega) _).setCell (by simp <;> omega) _)⟩

theorem turn_no3 (a b c o p q : Int) (w : World) (h : edOk a b c) (h' : edOk o p q) (hc : c = q) :
    Calls Try.prog 7 #[ev a b c, ev o p q] w fun e w' => (∃ n, e = .returned (.tuple #[ev 0 0 0, ec n])) ∧ Below w.heap.size w w' := by
  have H := fun w => Lib.hid (echeck_ok a b c w h)
  have H' := fun w => Lib.hid (echeck_ok o p q w h')
  clear h h'
  have e1 : (c == q) = true := by simpa using hc
  clear hc
  go_enter Try.func7, Try.ntmps7
  go_wp2_with fail
  obtain ⟨wa, hwa, sa, ba, ka⟩ := box3 w a b c
  obtain ⟨wb, hwb, sb, bb, kb⟩ := box3 wa o p q
  obtain ⟨wc, hwc, sc, bc, kc⟩ := box3 wb 0 0 0
  rw [hwa, hwb, hwc]
  obtain ⟨B, hB⟩ : ∃ B, B = w.heap.size := ⟨_, rfl⟩
  rw [← hB] at sa ka ⊢
  rw [sa] at sb kb
  rw [sb] at sc kc
  refine (H _).out.mono ?_
  rintro e w1 ⟨rfl, hb1⟩
  have bab := bb.trans (bc.mono (by omega))
  have bw : Below B w wc := by rw [hB]; exact ba.trans (bab.mono (by omega))
  have ka' : At3 wc B a b c := At3.below ⟨⟨ka.1, ka.2.1, ka.2.2.1⟩, ka.2.2.2⟩ bab (by omega)
  have kb' : At3 wc (B + 1) o p q := At3.below ⟨⟨kb.1, kb.2.1, kb.2.2.1⟩, kb.2.2.2⟩ bc (by omega)
  have kc' : At3 wc (B + 1 + 1) 0 0 0 := ⟨⟨kc.1, kc.2.1, kc.2.2.1⟩, kc.2.2.2⟩
  obtain ⟨⟨x1, x2, x3⟩, x4, x5, x6⟩ := ka'.below hb1 (by omega)
  obtain ⟨⟨y1, y2, y3⟩, y4, y5, y6⟩ := kb'.below hb1 (by omega)
  obtain ⟨⟨z1, z2, z3⟩, z4, z5, z6⟩ := kc'.below hb1 (by omega)
  have bw1 : Below B w w1 := bw.trans (hb1.mono (by omega))
  have s1 := hb1.size
  rw [sc] at s1
  have HB := Lib.hid hB
  have S1 := Lib.hid s1
  clear ka kb kc ka' kb' kc' hwa hwb hwc hB sa sb sc ba bb bc bab s1 hb1 bw
  go_wp2_with fail
  refine (H' _).out.mono ?_
  rintro e w2 ⟨rfl, hb2⟩
  have s1 := S1.out
  obtain ⟨⟨x1, x2, x3⟩, x4, x5, x6⟩ := At3.below ⟨⟨x1, x2, x3⟩, x4, x5, x6⟩ hb2 (show B < w1.heap.size by omega)
  obtain ⟨⟨y1, y2, y3⟩, y4, y5, y6⟩ := At3.below ⟨⟨y1, y2, y3⟩, y4, y5, y6⟩ hb2 (show B + 1 < w1.heap.size by omega)
  obtain ⟨⟨z1, z2, z3⟩, z4, z5, z6⟩ := At3.below ⟨⟨z1, z2, z3⟩, z4, z5, z6⟩ hb2 (show B + 1 + 1 < w1.heap.size by omega)
  have bw2 : Below B w w2 := bw1.trans (hb2.mono (by omega))
  clear s1 hb2 bw1
  go_wp2_with fail
  (try simp only [Exit.inBlock, Exit.then])
  refine bodyPost_ret (by simp [results, Try.results7, go_sem, z1, z2, z3]; try rfl) rfl ?_
  exact ⟨⟨6, rfl⟩, by rw [← HB.out]; exact (((bw2.setCell (by simp <;> omega) _).setCell (by simp <;> omega) _).setCell (by simp <;> omega) _)⟩

theorem turn_no4 (a b c o p q : Int) (w : World) (h : edOk a b c) (h' : edOk o p q) (hb : 0 ≤ b) (hp : 0 ≤ p) (hc : c ≠ q) (hlt : o < a) (hfit : 60 < a + 1) :
    Calls Try.prog 7 #[ev a b c, ev o p q] w fun e w' => (∃ n, e = .returned (.tuple #[ev 0 0 0, ec n])) ∧ Below w.heap.size w w' := by
  obtain ⟨⟨a1, a2⟩, _⟩ := id h
  obtain ⟨⟨o1, o2⟩, _⟩ := id h'
  have H := fun w => Lib.hid (echeck_ok a b c w h)
  have H' := fun w => Lib.hid (echeck_ok o p q w h')
  clear h h'
  have e1 : (c == q) = false := by simpa using hc
  have e2 : decide (0 ≤ b) = true := by simpa using hb
  have e3 : decide (0 ≤ p) = true := by simpa using hp
  have e4 : (b == -2) = false := by simp; omega
  have e5 : (p == -2) = false := by simp; omega
  have e6 : (o == a) = false := by simp; omega
  go_enter Try.func7, Try.ntmps7
  go_wp2_with fail
  obtain ⟨wa, hwa, sa, ba, ka⟩ := box3 w a b c
  obtain ⟨wb, hwb, sb, bb, kb⟩ := box3 wa o p q
  obtain ⟨wc, hwc, sc, bc, kc⟩ := box3 wb 0 0 0
  rw [hwa, hwb, hwc]
  obtain ⟨B, hB⟩ : ∃ B, B = w.heap.size := ⟨_, rfl⟩
  rw [← hB] at sa ka ⊢
  rw [sa] at sb kb
  rw [sb] at sc kc
  refine (H _).out.mono ?_
  rintro e w1 ⟨rfl, hb1⟩
  have bab := bb.trans (bc.mono (by omega))
  have bw : Below B w wc := by rw [hB]; exact ba.trans (bab.mono (by omega))
  have ka' : At3 wc B a b c := At3.below ⟨⟨ka.1, ka.2.1, ka.2.2.1⟩, ka.2.2.2⟩ bab (by omega)
  have kb' : At3 wc (B + 1) o p q := At3.below ⟨⟨kb.1, kb.2.1, kb.2.2.1⟩, kb.2.2.2⟩ bc (by omega)
  have kc' : At3 wc (B + 1 + 1) 0 0 0 := ⟨⟨kc.1, kc.2.1, kc.2.2.1⟩, kc.2.2.2⟩
  obtain ⟨⟨x1, x2, x3⟩, x4, x5, x6⟩ := ka'.below hb1 (by omega)
  obtain ⟨⟨y1, y2, y3⟩, y4, y5, y6⟩ := kb'.below hb1 (by omega)
  obtain ⟨⟨z1, z2, z3⟩, z4, z5, z6⟩ := kc'.below hb1 (by omega)
  have bw1 : Below B w w1 := bw.trans (hb1.mono (by omega))
  have s1 := hb1.size
  rw [sc] at s1
  have HB := Lib.hid hB
  have S1 := Lib.hid s1
  clear ka kb kc ka' kb' kc' hwa hwb hwc hB sa sb sc ba bb bc bab s1 hb1 bw
  go_wp2_with fail
  refine (H' _).out.mono ?_
  rintro e w2 ⟨rfl, hb2⟩
  have s1 := S1.out
  obtain ⟨⟨x1, x2, x3⟩, x4, x5, x6⟩ := At3.below ⟨⟨x1, x2, x3⟩, x4, x5, x6⟩ hb2 (show B < w1.heap.size by omega)
  obtain ⟨⟨y1, y2, y3⟩, y4, y5, y6⟩ := At3.below ⟨⟨y1, y2, y3⟩, y4, y5, y6⟩ hb2 (show B + 1 < w1.heap.size by omega)
  obtain ⟨⟨z1, z2, z3⟩, z4, z5, z6⟩ := At3.below ⟨⟨z1, z2, z3⟩, z4, z5, z6⟩ hb2 (show B + 1 + 1 < w1.heap.size by omega)
  have bw2 : Below B w w2 := bw1.trans (hb2.mono (by omega))
  clear s1 hb2 bw1
  go_wp2_with fail
  (try simp only [Exit.inBlock, Exit.then])
  refine bodyPost_ret (by simp [results, Try.results7, go_sem, z1, z2, z3]; try rfl) rfl ?_
  exact ⟨⟨4, rfl⟩, by rw [← HB.out]; exact ((((bw2.setCell (by simp <;> omega) _).setCell (by simp <;> omega) _).setCell (by simp <;> omega) _).setCell (by simp <;> omega) _)⟩

end Go.Proofs.Ytpgjhbhflkdchaa
