/- The statement SchedSame: for every input the law returns true, and each argument reads behind the call as it read before. Lifted from its walk. Conditions: none beyond the given row's own. -/
import Derived.Test.YtkindaadadggoaaRows
import Derived.Test.YtkindaadadggoaaSSame
import Derived.Test.YtkindaadadggoaaOpen
import Derived.WalkKit
import Derived.ProofKit
import Derived.OpenShut
import Derived.ShutString
import Derived.ChangeOld
import Derived.Below
namespace Go.Proofs.Ytkindaadadggoaa.schedSame
open Go.ChangeShapes Go.WideShapes Go.ChangeAt Go.RowKit
set_option linter.unusedVariables false

theorem own : ownKnob Try.prog.godebug = none := by kernel_rfl
theorem laidOut : laidOutB Try.prog = true := by kernel_rfl
theorem fields0 : ∃ fs, Try.prog.underlying 30 = some (.struct fs) ∧ Try.prog.cellsOf 30 = fs.size ∧ IntFields Try.prog fs ∧ fs.size = 3 := by
  refine ⟨_, Try.underlying30, by kernel_rfl, ?_, rfl⟩
  intro j f hj
  match j, hj with
  | 0, hj => cases hj; exact ⟨rfl, Try.underlying3, by kernel_rfl⟩
  | 1, hj => cases hj; exact ⟨rfl, Try.underlying3, by kernel_rfl⟩
  | 2, hj => cases hj; exact ⟨rfl, Try.underlying3, by kernel_rfl⟩
  | j + 3, hj => simp at hj

set_option maxRecDepth 100000 in
theorem lifted (os : Os) (started : os.Started) (H : Type) (enc : TypeId × Value → H) :
    ReturnsInHanded {} Try.checked os 6 .any (Rows.schedSameSpec.pre6 enc Try.prog Try.f6 Rows.schedSameRow.domain false) (Rows.schedSameSpec.post enc Try.prog Try.f6 false true false false) := by
  refine returnsInHanded_of_change (C := Try.checked) own started (by kernel_rfl) Try.func6
    (ChangeSpec.witness6 (enc := enc) (C := Try.checked) false ⟨#[], #[.slice none 0 0], []⟩ 8 (by kernel_rfl) (by kernel_rfl) (by kernel_rfl) (by kernel_rfl)) ?_
  intro W base args ds gs before hval0 hW hcnd _
  have hval : ∀ (j : Nat) t v, Try.f6.params[j]? = some t → args[j]? = some v → Value.okWide Try.prog W .any base t v := hval0
  have hW' := hW
  obtain ⟨p, q, hA0, hV, rfl, hfz, hnd⟩ := hW
  have hA : DataW.TrodAll enc Try.prog W 0 (fun _ => true) true Try.f6.params.toList args.toList ds p := hA0
  rw [Try.params6] at hA hval
  obtain ⟨v0, vs0, d0, ds0, p0, q0, hargs, rfl, rfl, h0, r0⟩ := trodAll_cons hA
  obtain ⟨rfl, rfl, rfl⟩ := trodAll_nil r0
  obtain rfl : args = #[v0] := by cases args; simp_all
  obtain ⟨rfl, rfl⟩ := trodVars_none hV
  have k0 := h0
  have lt0 : ∀ x ∈ p0, x.block < W.heap.size := by obtain ⟨m, hm⟩ := k0; exact DataW.trod_lt m _ _ _ hm
  obtain ⟨A0, len0, cap0, rfl⟩ := okWide_slice Try.underlying22 (hval 0 22 v0 rfl rfl)
  obtain ⟨recs0, rl0, rw0, w0⟩ : ∃ recs : List (List Int), (∀ r ∈ recs, r.length = 3) ∧ (∀ r ∈ recs, ∀ z ∈ r, (Lit.int .i64 z).wf = true) ∧ Rd W W.heap.size 3 (.slice A0 len0 cap0) recs.length (recs.flatMap fun r => r.map iv) := by
    obtain ⟨fuel, hf⟩ := h0
    obtain ⟨fs, f1, f2, f3, f4⟩ := fields0
    obtain ⟨v, recs, hcs, g1, g2, g3⟩ := open_recs Try.underlying22 f1 f2 f3 (by omega) hf
    simp [Value.cells] at hcs
    subst hcs
    rw [f4] at g1 g3
    exact ⟨recs, g1, g2, g3⟩
  clear hA0 hval0
  refine ((Go.Proofs.Ytkindaadadggoaa.ssame_calls (.slice A0 len0 cap0) recs0 W w0 rl0)).mono fun e W' ⟨he, bel⟩ => ?_
  subst he
  exact ⟨_, rfl, _, _, _, [], _, [], hW', trodAll_mk1 (shut_bool Try.underlying4 _), (trodAll_cons_mk (Below.trod laidOut (by kernel_rfl) (of_decide_eq_true (by kernel_rfl)) k0 bel lt0) trodAll_mk0), rfl, bel.frame _, fun h => by cases h⟩

theorem over : Rows.schedSameRow.holds Try.pinned (OpenSpec.ofChange Rows.schedSameSpec) :=
  OpenClaim.holds_of_wide 6 Try.f6 rfl rfl rfl rfl rfl rfl rfl ⟨rfl, rfl, rfl, rfl, rfl⟩ rfl rfl rfl rfl rfl (by kernel_rfl) Try.func6 (by kernel_rfl)
    (of_decide_eq_true (by kernel_rfl)) (by unfold Func.isWrapper; first | (rw [if_pos (by decide +kernel)]; kernel_rfl) | (rw [if_neg (by decide +kernel)]; exact ⟨rfl, rfl⟩))
    (fun os started H enc _ => lifted os started H enc)

/-- the statement -/
theorem schedSame_holds : Rows.SchedSameSaid := over
#print axioms schedSame_holds
end Go.Proofs.Ytkindaadadggoaa.schedSame
