/- The statement HistSays: for every input the law returns true, and each argument reads behind the call as it read before. Lifted from its walk. Conditions: none beyond the given row's own. -/
import Derived.Test.YtjmjifcaobkobaaDoorRows
import Derived.Test.YtjmjifcaobkobaaDoorTie
import Derived.Test.YtjmjifcaobkobaaDoorCards
import Derived.Test.YtjmjifcaobkobaaDoorHSays
import Derived.Test.YtjmjifcaobkobaaDoorOpen
import Derived.WalkKit
import Derived.ProofKit
import Derived.OpenShut
import Derived.ShutString
import Derived.ChangeOld
import Derived.Below
import Derived.Test.YtjmjifcaobkobaaDoorHandle
import Derived.Lay
import Derived.LaidOnce
import Derived.SevenTiedAt
import Derived.JoinedOf
import Derived.LaidLaws
namespace Go.Proofs.YtjmjifcaobkobaaDoor.histSays
open Go.ChangeShapes Go.WideShapes Go.ChangeAt Go.RowKit
set_option linter.unusedVariables false

theorem own : ownKnob Tryd.prog.godebug = none := by kernel_rfl
theorem laidOut : laidOutB Tryd.prog = true := by kernel_rfl
theorem fields0 : ∃ fs, Tryd.prog.underlying 36 = some (.struct fs) ∧ Tryd.prog.cellsOf 36 = fs.size ∧ IntFields Tryd.prog fs ∧ fs.size = 6 := by
  refine ⟨_, Tryd.underlying36, by kernel_rfl, ?_, rfl⟩
  intro j f hj
  match j, hj with
  | 0, hj => cases hj; exact ⟨rfl, Tryd.underlying3, by kernel_rfl⟩
  | 1, hj => cases hj; exact ⟨rfl, Tryd.underlying3, by kernel_rfl⟩
  | 2, hj => cases hj; exact ⟨rfl, Tryd.underlying3, by kernel_rfl⟩
  | 3, hj => cases hj; exact ⟨rfl, Tryd.underlying3, by kernel_rfl⟩
  | 4, hj => cases hj; exact ⟨rfl, Tryd.underlying3, by kernel_rfl⟩
  | 5, hj => cases hj; exact ⟨rfl, Tryd.underlying3, by kernel_rfl⟩
  | j + 6, hj => simp at hj

set_option maxRecDepth 100000 in
theorem lifted (os : Os) (started : os.Started) (H : Type) (enc : TypeId × Value → H) :
    ReturnsInHanded {} Tryd.checked os 3 .any (fun w args => (Rows.histSaysSpec.pre enc Tryd.prog Tryd.f3 Rows.histSaysRow.domain false w args ∧ laidMetH Tryd.prog Rows.histSaysRow.laid w) ∧ sizedMet enc Tryd.prog Tryd.f3 (OpenSpec.ofChange Rows.histSaysSpec) false w args) (Rows.histSaysSpec.post enc Tryd.prog Tryd.f3 false true false false) := by
  refine returnsInHanded_of_change_and (C := Tryd.checked) (X := fun w _ => laidMetH Tryd.prog Rows.histSaysRow.laid w) (fun _ _ _ hh h => h.of_heap hh) own started (by kernel_rfl) Tryd.func3
    (ChangeSpec.witness_shaped (enc := enc) (C := Tryd.checked) (os := os) (X := fun w _ => laidMetH Tryd.prog Rows.histSaysRow.laid w) false ((errBase os).layVars Tryd.prog []) #[.slice none 0 0] 8 (World.layVars_os _ _ _)
      (World.shaped_of_ZipB (by kernel_rfl) (by kernel_rfl)) (by kernel_rfl) (by kernel_rfl) (by kernel_rfl)
      (laidMetH_of_parts (show laidMet Tryd.prog [] _ from laidMet_on _ (by kernel_rfl) (by kernel_rfl)) (by kernel_rfl))) ?_
  intro W base args ds gs before hval0 hW hcnd _ hL _
  have hH : laidMet Tryd.prog [] W ∧ handlesMet Tryd.prog [("errors.errorType", Rows.laid_errors_errorType)] W := hL
  have hE : ErrTy W := errTy_of_handles hH.2
  have hval : ∀ (j : Nat) t v, Tryd.f3.params[j]? = some t → args[j]? = some v → Value.okWide Tryd.prog W .any base t v := hval0
  have hW' := hW
  obtain ⟨p, q, hA0, hV, rfl, hfz, hnd⟩ := hW
  have hA : DataW.TrodAll enc Tryd.prog W 0 (fun _ => true) true Tryd.f3.params.toList args.toList ds p := hA0
  rw [Tryd.params3] at hA hval
  obtain ⟨v0, vs0, d0, ds0, p0, q0, hargs, rfl, rfl, h0, r0⟩ := trodAll_cons hA
  obtain ⟨rfl, rfl, rfl⟩ := trodAll_nil r0
  obtain rfl : args = #[v0] := by cases args; simp_all
  obtain ⟨rfl, rfl⟩ := trodVars_none hV
  have k0 := h0
  have lt0 : ∀ x ∈ p0, x.block < W.heap.size := by obtain ⟨m, hm⟩ := k0; exact DataW.trod_lt m _ _ _ hm
  obtain ⟨A0, len0, cap0, rfl⟩ := okWide_slice Tryd.underlying22 (hval 0 22 v0 rfl rfl)
  obtain ⟨recs0, rl0, rw0, w0⟩ : ∃ recs : List (List Int), (∀ r ∈ recs, r.length = 6) ∧ (∀ r ∈ recs, ∀ z ∈ r, (Lit.int .i64 z).wf = true) ∧ Rd W W.heap.size 6 (.slice A0 len0 cap0) recs.length (recs.flatMap fun r => r.map iv) := by
    obtain ⟨fuel, hf⟩ := h0
    obtain ⟨fs, f1, f2, f3, f4⟩ := fields0
    obtain ⟨v, recs, hcs, g1, g2, g3⟩ := open_recs Tryd.underlying22 f1 f2 f3 (by omega) hf
    simp [Value.cells] at hcs
    subst hcs
    rw [f4] at g1 g3
    exact ⟨recs, g1, g2, g3⟩
  clear hA0 hval0
  refine ((Go.Proofs.YtjmjifcaobkobaaDoor.hsays_calls (.slice A0 len0 cap0) recs0 W w0 rl0 hE)).mono fun e W' ⟨he, bel⟩ => ?_
  subst he
  exact ⟨_, rfl, _, _, _, [], _, [], hW', trodAll_mk1 (shut_bool Tryd.underlying4 _), (trodAll_cons_mk (Below.trod laidOut (by kernel_rfl) (of_decide_eq_true (by kernel_rfl)) k0 bel lt0) trodAll_mk0), rfl, bel.frame _, fun h => by cases h⟩

theorem over : Rows.histSaysRow.holds Tryd.pinned (OpenSpec.ofChange Rows.histSaysSpec) :=
  OpenClaim.holds_of_wide 3 Tryd.f3 rfl rfl rfl rfl rfl rfl rfl ⟨rfl, rfl, rfl, rfl, rfl⟩ rfl rfl rfl rfl rfl (by kernel_rfl) Tryd.func3 (by kernel_rfl)
    (of_decide_eq_true (by kernel_rfl)) (by unfold Func.isWrapper; first | (rw [if_pos (by decide +kernel)]; kernel_rfl) | (rw [if_neg (by decide +kernel)]; exact ⟨rfl, rfl⟩))
    (fun os started H enc _ => lifted os started H enc)

/-- the statement's card -/
theorem histSays_holds : Rows.HistSaysCardSaid :=
  Claim7.holds_tied_plain_at .later [] [.handle] true (true, "6476aa984456508e71a7d3d97b06a6a566224b18bcf69c268009399c152d9be1") true over (fun _ h => by cases h) (by kernel_rfl) (fun _ h => by cases h) histSays_row_tie rfl ⟨rfl, rfl⟩ (by kernel_rfl) rfl
    (fun f fn hf hfn => by
      obtain rfl : f = 3 := Option.some.inj ((show Tryd.prog.funcNamed "whenstead/whensteadlaw3.HistSays" = some 3 by kernel_rfl).symm.trans hf) |>.symm
      obtain rfl : fn = Tryd.f3 := (Option.some.inj (Tryd.func3.symm.trans hfn)).symm
      exact ⟨by kernel_rfl, fun j t ht => by
        rw [Tryd.params3] at ht
        have hm : t ∈ [22] := by simpa using Array.mem_of_getElem? ht
        have hall : ([22].all fun u => !Tryd.prog.wantsStandIn u) = true := by kernel_rfl
        exact (show Tryd.prog.wantsStandIn t = false by simpa using List.all_eq_true.1 hall t hm)⟩)
    (by kernel_rfl)
#print axioms histSays_holds
end Go.Proofs.YtjmjifcaobkobaaDoor.histSays
