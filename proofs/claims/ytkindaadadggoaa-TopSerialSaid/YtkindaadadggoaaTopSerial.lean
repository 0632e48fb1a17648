/- The statement TopSerial: for every input the law returns true, and each argument reads behind the call as it read before. Lifted from its walk. Conditions: none beyond the given row's own. -/
import Derived.Test.YtkindaadadggoaaRows
import Derived.Test.YtkindaadadggoaaTopS
import Derived.Test.YtkindaadadggoaaOpen
import Derived.WalkKit
import Derived.ProofKit
import Derived.OpenShut
import Derived.ShutString
import Derived.ChangeOld
import Derived.Below
namespace Go.Proofs.Ytkindaadadggoaa.topSerial
open Go.ChangeShapes Go.WideShapes Go.ChangeAt Go.RowKit
set_option linter.unusedVariables false

theorem own : ownKnob Try.prog.godebug = none := by kernel_rfl
theorem laidOut : laidOutB Try.prog = true := by kernel_rfl
theorem fields0 : ∃ fs, Try.prog.underlying 44 = some (.struct fs) ∧ Try.prog.cellsOf 44 = fs.size ∧ IntFields Try.prog fs ∧ fs.size = 4 := by
  refine ⟨_, Try.underlying44, by kernel_rfl, ?_, rfl⟩
  intro j f hj
  match j, hj with
  | 0, hj => cases hj; exact ⟨rfl, Try.underlying3, by kernel_rfl⟩
  | 1, hj => cases hj; exact ⟨rfl, Try.underlying3, by kernel_rfl⟩
  | 2, hj => cases hj; exact ⟨rfl, Try.underlying3, by kernel_rfl⟩
  | 3, hj => cases hj; exact ⟨rfl, Try.underlying3, by kernel_rfl⟩
  | j + 4, hj => simp at hj
theorem fields1 : ∃ fs, Try.prog.underlying 30 = some (.struct fs) ∧ Try.prog.cellsOf 30 = fs.size ∧ IntFields Try.prog fs ∧ fs.size = 3 := by
  refine ⟨_, Try.underlying30, by kernel_rfl, ?_, rfl⟩
  intro j f hj
  match j, hj with
  | 0, hj => cases hj; exact ⟨rfl, Try.underlying3, by kernel_rfl⟩
  | 1, hj => cases hj; exact ⟨rfl, Try.underlying3, by kernel_rfl⟩
  | 2, hj => cases hj; exact ⟨rfl, Try.underlying3, by kernel_rfl⟩
  | j + 3, hj => simp at hj

set_option maxRecDepth 100000 in
theorem lifted (os : Os) (started : os.Started) (H : Type) (enc : TypeId × Value → H) :
    ReturnsInHanded {} Try.checked os 5 .any (Rows.topSerialSpec.pre6 enc Try.prog Try.f5 Rows.topSerialRow.domain false) (Rows.topSerialSpec.post enc Try.prog Try.f5 false true false false) := by
  refine returnsInHanded_of_change (C := Try.checked) own started (by kernel_rfl) Try.func5
    (ChangeSpec.witness6 (enc := enc) (C := Try.checked) false ⟨#[], #[.slice none 0 0, .slice none 0 0], []⟩ 8 (by kernel_rfl) (by kernel_rfl) (by kernel_rfl) (by kernel_rfl)) ?_
  intro W base args ds gs before hval0 hW hcnd _
  have hval : ∀ (j : Nat) t v, Try.f5.params[j]? = some t → args[j]? = some v → Value.okWide Try.prog W .any base t v := hval0
  have hW' := hW
  obtain ⟨p, q, hA0, hV, rfl, hfz, hnd⟩ := hW
  have hA : DataW.TrodAll enc Try.prog W 0 (fun _ => true) true Try.f5.params.toList args.toList ds p := hA0
  rw [Try.params5] at hA hval
  obtain ⟨v0, vs0, d0, ds0, p0, q0, hargs, rfl, rfl, h0, r0⟩ := trodAll_cons hA
  obtain ⟨v1, vs1, d1, ds1, p1, q1, rfl, rfl, rfl, h1, r1⟩ := trodAll_cons r0
  obtain ⟨rfl, rfl, rfl⟩ := trodAll_nil r1
  obtain rfl : args = #[v0, v1] := by cases args; simp_all
  obtain ⟨rfl, rfl⟩ := trodVars_none hV
  have k0 := h0
  have lt0 : ∀ x ∈ p0, x.block < W.heap.size := by obtain ⟨m, hm⟩ := k0; exact DataW.trod_lt m _ _ _ hm
  obtain ⟨A0, len0, cap0, rfl⟩ := okWide_slice Try.underlying39 (hval 0 39 v0 rfl rfl)
  obtain ⟨recs0, rl0, rw0, w0⟩ : ∃ recs : List (List Int), (∀ r ∈ recs, r.length = 4) ∧ (∀ r ∈ recs, ∀ z ∈ r, (Lit.int .i64 z).wf = true) ∧ Rd W W.heap.size 4 (.slice A0 len0 cap0) recs.length (recs.flatMap fun r => r.map iv) := by
    obtain ⟨fuel, hf⟩ := h0
    obtain ⟨fs, f1, f2, f3, f4⟩ := fields0
    obtain ⟨v, recs, hcs, g1, g2, g3⟩ := open_recs Try.underlying39 f1 f2 f3 (by omega) hf
    simp [Value.cells] at hcs
    subst hcs
    rw [f4] at g1 g3
    exact ⟨recs, g1, g2, g3⟩
  have k1 := h1
  have lt1 : ∀ x ∈ p1, x.block < W.heap.size := by obtain ⟨m, hm⟩ := k1; exact DataW.trod_lt m _ _ _ hm
  obtain ⟨A1, len1, cap1, rfl⟩ := okWide_slice Try.underlying22 (hval 1 22 v1 rfl rfl)
  obtain ⟨recs1, rl1, rw1, w1⟩ : ∃ recs : List (List Int), (∀ r ∈ recs, r.length = 3) ∧ (∀ r ∈ recs, ∀ z ∈ r, (Lit.int .i64 z).wf = true) ∧ Rd W W.heap.size 3 (.slice A1 len1 cap1) recs.length (recs.flatMap fun r => r.map iv) := by
    obtain ⟨fuel, hf⟩ := h1
    obtain ⟨fs, f1, f2, f3, f4⟩ := fields1
    obtain ⟨v, recs, hcs, g1, g2, g3⟩ := open_recs Try.underlying22 f1 f2 f3 (by omega) hf
    simp [Value.cells] at hcs
    subst hcs
    rw [f4] at g1 g3
    exact ⟨recs, g1, g2, g3⟩
  clear hA0 hval0
  refine ((Go.Proofs.Ytkindaadadggoaa.tops_calls (.slice A0 len0 cap0) (.slice A1 len1 cap1) recs0 recs1 W w0 rl0 w1 rl1)).mono fun e W' ⟨he, bel⟩ => ?_
  subst he
  exact ⟨_, rfl, _, _, _, [], _, [], hW', trodAll_mk1 (shut_bool Try.underlying4 _), (trodAll_cons_mk (Below.trod laidOut (by kernel_rfl) (of_decide_eq_true (by kernel_rfl)) k0 bel lt0) (trodAll_cons_mk (Below.trod laidOut (by kernel_rfl) (of_decide_eq_true (by kernel_rfl)) k1 bel lt1) trodAll_mk0)), rfl, bel.frame _, fun h => by cases h⟩

theorem over : Rows.topSerialRow.holds Try.pinned (OpenSpec.ofChange Rows.topSerialSpec) :=
  OpenClaim.holds_of_wide 5 Try.f5 rfl rfl rfl rfl rfl rfl rfl ⟨rfl, rfl, rfl, rfl, rfl⟩ rfl rfl rfl rfl rfl (by kernel_rfl) Try.func5 (by kernel_rfl)
    (of_decide_eq_true (by kernel_rfl)) (by unfold Func.isWrapper; first | (rw [if_pos (by decide +kernel)]; kernel_rfl) | (rw [if_neg (by decide +kernel)]; exact ⟨rfl, rfl⟩))
    (fun os started H enc _ => lifted os started H enc)

/-- the statement -/
theorem topSerial_holds : Rows.TopSerialSaid := over
#print axioms topSerial_holds
end Go.Proofs.Ytkindaadadggoaa.topSerial
