/- The statement TopEdit: for every input the law returns true, and each argument reads behind the call as it read before. Lifted from its walk. Conditions: none beyond the given row's own. -/
import Derived.Test.YtpgjhbhflkdchaaRows
import Derived.Test.YtpgjhbhflkdchaaTopE
import Derived.WalkKit
import Derived.ProofKit
import Derived.OpenShut
import Derived.ShutString
import Derived.ChangeOld
import Derived.Below
import Derived.Lib.SmallJoins
namespace Go.Proofs.Ytpgjhbhflkdchaa.topEdit
open Go.Joins
open Go.ChangeMaps (open_string shut_string)
open Go.ChangeShapes Go.WideShapes Go.ChangeAt Go.RowKit
set_option linter.unusedVariables false

theorem own : ownKnob Try.prog.godebug = none := by kernel_rfl
theorem laidOut : laidOutB Try.prog = true := by kernel_rfl
theorem cells3 : Try.prog.cellsOf 23 = 3 := by kernel_rfl
theorem fint {H : Type} {enc : TypeId × Value → H} {base : Nat} {sp : Nat → Bool} {held : Bool} (w : World) (n : Int) (h : (Lit.int .i64 n).wf = true) : ∃ k, DataW.trod enc Try.prog w base sp held k 3 [.int .i64 n] = some (.lit (.int .i64 n), []) :=
  ⟨1, by simp [DataW.trod, Try.underlying3, h]⟩

set_option maxRecDepth 100000 in
theorem lifted (os : Os) (started : os.Started) (H : Type) (enc : TypeId × Value → H) :
    ReturnsInHanded {} Try.checked os 3 .any (Rows.topEditSpec.pre6 enc Try.prog Try.f3 Rows.topEditRow.domain false) (Rows.topEditSpec.post enc Try.prog Try.f3 false true false false) := by
  refine returnsInHanded_of_change (C := Try.checked) own started (by kernel_rfl) Try.func3
    (ChangeSpec.witness6 (enc := enc) (C := Try.checked) false ⟨#[], #[.string ByteArray.empty, .agg #[.int .i64 0, .int .i64 0, .int .i64 0], .agg #[.int .i64 0, .int .i64 0, .int .i64 0], .agg #[.int .i64 0, .int .i64 0, .int .i64 0]], []⟩ 8 (by kernel_rfl) (by kernel_rfl) (by kernel_rfl) (by kernel_rfl)) ?_
  intro W base args ds gs before hval0 hW hcnd _
  have hval : ∀ (j : Nat) t v, Try.f3.params[j]? = some t → args[j]? = some v → Value.okWide Try.prog W .any base t v := hval0
  have hW' := hW
  obtain ⟨p, q, hA0, hV, rfl, hfz, hnd⟩ := hW
  have hA : DataW.TrodAll enc Try.prog W 0 (fun _ => true) true Try.f3.params.toList args.toList ds p := hA0
  rw [Try.params3] at hA hval
  obtain ⟨v0, vs0, d0, ds0, p0, q0, hargs, rfl, rfl, h0, r0⟩ := trodAll_cons hA
  obtain ⟨v1, vs1, d1, ds1, p1, q1, rfl, rfl, rfl, h1, r1⟩ := trodAll_cons r0
  obtain ⟨v2, vs2, d2, ds2, p2, q2, rfl, rfl, rfl, h2, r2⟩ := trodAll_cons r1
  obtain ⟨v3, vs3, d3, ds3, p3, q3, rfl, rfl, rfl, h3, r3⟩ := trodAll_cons r2
  obtain ⟨rfl, rfl, rfl⟩ := trodAll_nil r3
  obtain rfl : args = #[v0, v1, v2, v3] := by cases args; simp_all
  obtain ⟨rfl, rfl⟩ := trodVars_none hV
  obtain ⟨a0, rfl, rfl, rfl, w0⟩ := open_string Try.underlying9 (hval 0 9 v0 rfl rfl) h0
  obtain ⟨u1, u1', u1'', y1, y1', y1'', m1, rfl, rfl, rfl, hy1, hy1', hy1''⟩ := open_agg3 Try.underlying23 (by kernel_rfl) cells3 (hval 1 23 v1 rfl rfl) h1
  obtain ⟨a1, e1, rfl, wa1⟩ := DataW.trod_int Try.underlying3 hy1
  simp at e1
  subst e1
  obtain ⟨a1', e1', rfl, wa1'⟩ := DataW.trod_int Try.underlying3 hy1'
  simp at e1'
  subst e1'
  obtain ⟨a1'', e1'', rfl, wa1''⟩ := DataW.trod_int Try.underlying3 hy1''
  simp at e1''
  subst e1''
  obtain ⟨u2, u2', u2'', y2, y2', y2'', m2, rfl, rfl, rfl, hy2, hy2', hy2''⟩ := open_agg3 Try.underlying23 (by kernel_rfl) cells3 (hval 2 23 v2 rfl rfl) h2
  obtain ⟨a2, e2, rfl, wa2⟩ := DataW.trod_int Try.underlying3 hy2
  simp at e2
  subst e2
  obtain ⟨a2', e2', rfl, wa2'⟩ := DataW.trod_int Try.underlying3 hy2'
  simp at e2'
  subst e2'
  obtain ⟨a2'', e2'', rfl, wa2''⟩ := DataW.trod_int Try.underlying3 hy2''
  simp at e2''
  subst e2''
  obtain ⟨u3, u3', u3'', y3, y3', y3'', m3, rfl, rfl, rfl, hy3, hy3', hy3''⟩ := open_agg3 Try.underlying23 (by kernel_rfl) cells3 (hval 3 23 v3 rfl rfl) h3
  obtain ⟨a3, e3, rfl, wa3⟩ := DataW.trod_int Try.underlying3 hy3
  simp at e3
  subst e3
  obtain ⟨a3', e3', rfl, wa3'⟩ := DataW.trod_int Try.underlying3 hy3'
  simp at e3'
  subst e3'
  obtain ⟨a3'', e3'', rfl, wa3''⟩ := DataW.trod_int Try.underlying3 hy3''
  simp at e3''
  subst e3''
  clear hA0 hval0
  refine ((Go.Proofs.Ytpgjhbhflkdchaa.tope_calls a0 a1 a1' a1'' a2 a2' a2'' a3 a3' a3'' W w0)).mono fun e W' ⟨he, bel⟩ => ?_
  subst he
  exact ⟨_, rfl, _, _, _, [], _, [], hW', trodAll_mk1 (shut_bool Try.underlying4 _), (trodAll_cons_mk (shut_string Try.underlying9 w0) (trodAll_cons_mk (shut_agg3 (y0 := (.lit (.int .i64 a1), [])) (y1 := (.lit (.int .i64 a1'), [])) (y2 := (.lit (.int .i64 a1''), [])) Try.underlying23 (by kernel_rfl) cells3 (fint _ _ wa1) (fint _ _ wa1') (fint _ _ wa1'')) (trodAll_cons_mk (shut_agg3 (y0 := (.lit (.int .i64 a2), [])) (y1 := (.lit (.int .i64 a2'), [])) (y2 := (.lit (.int .i64 a2''), [])) Try.underlying23 (by kernel_rfl) cells3 (fint _ _ wa2) (fint _ _ wa2') (fint _ _ wa2'')) (trodAll_cons_mk (shut_agg3 (y0 := (.lit (.int .i64 a3), [])) (y1 := (.lit (.int .i64 a3'), [])) (y2 := (.lit (.int .i64 a3''), [])) Try.underlying23 (by kernel_rfl) cells3 (fint _ _ wa3) (fint _ _ wa3') (fint _ _ wa3'')) trodAll_mk0)))), rfl, bel.frame _, fun h => by cases h⟩

theorem over : Rows.topEditRow.holds Try.pinned (OpenSpec.ofChange Rows.topEditSpec) :=
  OpenClaim.holds_of_wide 3 Try.f3 rfl rfl rfl rfl rfl rfl rfl ⟨rfl, rfl, rfl, rfl, rfl⟩ rfl rfl rfl rfl rfl (by kernel_rfl) Try.func3 (by kernel_rfl)
    (of_decide_eq_true (by kernel_rfl)) (by unfold Func.isWrapper; first | (rw [if_pos (by decide +kernel)]; kernel_rfl) | (rw [if_neg (by decide +kernel)]; exact ⟨rfl, rfl⟩))
    (fun os started H enc _ => lifted os started H enc)

/-- the statement -/
theorem topEdit_holds : Rows.TopEditSaid := over
#print axioms topEdit_holds
end Go.Proofs.Ytpgjhbhflkdchaa.topEdit
