/- The statement ViewPlays: for every input the law returns true, and each argument reads behind the call as it read before. Lifted from its walk. Conditions: none beyond the given row's own. -/
import Derived.Test.YtkindaadadggoaaDoorRows
import Derived.Test.YtkindaadadggoaaDoorTie
import Derived.Test.YtkindaadadggoaaDoorCards
import Derived.Test.YtkindaadadggoaaDoorLaid
import Derived.Test.YtkindaadadggoaaDoorVPlays
import Derived.Test.YtkindaadadggoaaDoorOpen
import Derived.WalkKit
import Derived.ProofKit
import Derived.OpenShut
import Derived.ShutString
import Derived.ChangeOld
import Derived.Below
import Derived.Test.YtkindaadadggoaaDoorHandle
import Derived.Lay
import Derived.LaidOnce
import Derived.SevenTiedAt
import Derived.JoinedOf
import Derived.LaidLaws
namespace Go.Proofs.YtkindaadadggoaaDoor.viewPlays
open Go.ChangeShapes Go.WideShapes Go.ChangeAt Go.RowKit
set_option linter.unusedVariables false

theorem own : ownKnob Tryd.prog.godebug = none := by kernel_rfl
theorem laidOut : laidOutB Tryd.prog = true := by kernel_rfl
theorem fields0 : ∃ fs, Tryd.prog.underlying 49 = some (.struct fs) ∧ Tryd.prog.cellsOf 49 = fs.size ∧ IntFields Tryd.prog fs ∧ fs.size = 4 := by
  refine ⟨_, Tryd.underlying49, by kernel_rfl, ?_, rfl⟩
  intro j f hj
  match j, hj with
  | 0, hj => cases hj; exact ⟨rfl, Tryd.underlying3, by kernel_rfl⟩
  | 1, hj => cases hj; exact ⟨rfl, Tryd.underlying3, by kernel_rfl⟩
  | 2, hj => cases hj; exact ⟨rfl, Tryd.underlying3, by kernel_rfl⟩
  | 3, hj => cases hj; exact ⟨rfl, Tryd.underlying3, by kernel_rfl⟩
  | j + 4, hj => simp at hj

set_option maxRecDepth 100000 in
theorem lifted (os : Os) (started : os.Started) (H : Type) (enc : TypeId × Value → H) :
    ReturnsInHanded {} Tryd.checked os 14 .any (fun w args => (Rows.viewPlaysSpec.pre enc Tryd.prog Tryd.f14 Rows.viewPlaysRow.domain false w args ∧ laidMetH Tryd.prog Rows.viewPlaysRow.laid w) ∧ sizedMet enc Tryd.prog Tryd.f14 (OpenSpec.ofChange Rows.viewPlaysSpec) false w args) (Rows.viewPlaysSpec.post enc Tryd.prog Tryd.f14 false true false false) := by
  refine returnsInHanded_of_change_and (C := Tryd.checked) (X := fun w _ => laidMetH Tryd.prog Rows.viewPlaysRow.laid w) (fun _ _ _ hh h => h.of_heap hh) own started (by kernel_rfl) Tryd.func14
    (ChangeSpec.witness_shaped (enc := enc) (C := Tryd.checked) (os := os) (X := fun w _ => laidMetH Tryd.prog Rows.viewPlaysRow.laid w) false ((errBase os).layVars Tryd.prog [("math/bits.deBruijn32tab", Rows.laid_math_bits_deBruijn32tab), ("math/bits.deBruijn64tab", Rows.laid_math_bits_deBruijn64tab)]) #[.slice none 0 0] 8 (World.layVars_os _ _ _)
      (World.shaped_of_ZipB (by kernel_rfl) (by kernel_rfl)) (by kernel_rfl) (by kernel_rfl) (by kernel_rfl)
      (laidMetH_of_parts (show laidMet Tryd.prog [("math/bits.deBruijn32tab", Rows.laid_math_bits_deBruijn32tab), ("math/bits.deBruijn64tab", Rows.laid_math_bits_deBruijn64tab)] _ from laidMet_on _ (by kernel_rfl) (by kernel_rfl)) (by kernel_rfl))) ?_
  intro W base args ds gs before hval0 hW hcnd _ hL _
  have hH : laidMet Tryd.prog [("math/bits.deBruijn32tab", Rows.laid_math_bits_deBruijn32tab), ("math/bits.deBruijn64tab", Rows.laid_math_bits_deBruijn64tab)] W ∧ handlesMet Tryd.prog [("errors.errorType", Rows.laid_errors_errorType)] W := hL
  have hE : ErrTy W := errTy_of_handles hH.2
  have hT : Tab W := tab_of_reads (Lib.laidMet.reads hH.1 (.tail _ (.head _)))
  have hval : ∀ (j : Nat) t v, Tryd.f14.params[j]? = some t → args[j]? = some v → Value.okWide Tryd.prog W .any base t v := hval0
  have hW' := hW
  obtain ⟨p, q, hA0, hV, rfl, hfz, hnd⟩ := hW
  have hA : DataW.TrodAll enc Tryd.prog W 0 (fun _ => true) true Tryd.f14.params.toList args.toList ds p := hA0
  rw [Tryd.params14] at hA hval
  obtain ⟨v0, vs0, d0, ds0, p0, q0, hargs, rfl, rfl, h0, r0⟩ := trodAll_cons hA
  obtain ⟨rfl, rfl, rfl⟩ := trodAll_nil r0
  obtain rfl : args = #[v0] := by cases args; simp_all
  obtain ⟨rfl, rfl⟩ := trodVars_none hV
  have k0 := h0
  have lt0 : ∀ x ∈ p0, x.block < W.heap.size := by obtain ⟨m, hm⟩ := k0; exact DataW.trod_lt m _ _ _ hm
  obtain ⟨A0, len0, cap0, rfl⟩ := okWide_slice Tryd.underlying43 (hval 0 43 v0 rfl rfl)
  obtain ⟨recs0, rl0, rw0, w0⟩ : ∃ recs : List (List Int), (∀ r ∈ recs, r.length = 4) ∧ (∀ r ∈ recs, ∀ z ∈ r, (Lit.int .i64 z).wf = true) ∧ Rd W W.heap.size 4 (.slice A0 len0 cap0) recs.length (recs.flatMap fun r => r.map iv) := by
    obtain ⟨fuel, hf⟩ := h0
    obtain ⟨fs, f1, f2, f3, f4⟩ := fields0
    obtain ⟨v, recs, hcs, g1, g2, g3⟩ := open_recs Tryd.underlying43 f1 f2 f3 (by omega) hf
    simp [Value.cells] at hcs
    subst hcs
    rw [f4] at g1 g3
    exact ⟨recs, g1, g2, g3⟩
  clear hA0 hval0
  refine ((Go.Proofs.YtkindaadadggoaaDoor.vplays_calls (.slice A0 len0 cap0) recs0 W w0 rl0 hT hE)).mono fun e W' ⟨he, bel⟩ => ?_
  subst he
  exact ⟨_, rfl, _, _, _, [], _, [], hW', trodAll_mk1 (shut_bool Tryd.underlying4 _), (trodAll_cons_mk (Below.trod laidOut (by kernel_rfl) (of_decide_eq_true (by kernel_rfl)) k0 bel lt0) trodAll_mk0), rfl, bel.frame _, fun h => by cases h⟩

theorem over : Rows.viewPlaysRow.holds Tryd.pinned (OpenSpec.ofChange Rows.viewPlaysSpec) :=
  OpenClaim.holds_of_wide 14 Tryd.f14 rfl rfl rfl rfl rfl rfl rfl ⟨rfl, rfl, rfl, rfl, rfl⟩ rfl rfl rfl rfl rfl (by kernel_rfl) Tryd.func14 (by kernel_rfl)
    (of_decide_eq_true (by kernel_rfl)) (by unfold Func.isWrapper; first | (rw [if_pos (by decide +kernel)]; kernel_rfl) | (rw [if_neg (by decide +kernel)]; exact ⟨rfl, rfl⟩))
    (fun os started H enc _ => lifted os started H enc)

/-- the statement's card -/
theorem viewPlays_holds : Rows.ViewPlaysCardSaid :=
  Claim7.holds_tied_plain_at .later [] [.data, .data, .handle] true (true, "d9c6a5a71602726a324121bbb8f29cba49710a0fea819a09d41bf4febc1b12ef") true over (fun _ h => by cases h) (by kernel_rfl) (fun _ h => by cases h) viewPlays_row_tie rfl ⟨rfl, rfl⟩ (by kernel_rfl) rfl
    (fun f fn hf hfn => by
      obtain rfl : f = 14 := Option.some.inj ((show Tryd.prog.funcNamed "whenstead/whensteadlaw3.ViewPlays" = some 14 by kernel_rfl).symm.trans hf) |>.symm
      obtain rfl : fn = Tryd.f14 := (Option.some.inj (Tryd.func14.symm.trans hfn)).symm
      exact ⟨by kernel_rfl, fun j t ht => by
        rw [Tryd.params14] at ht
        have hm : t ∈ [43] := by simpa using Array.mem_of_getElem? ht
        have hall : ([43].all fun u => !Tryd.prog.wantsStandIn u) = true := by kernel_rfl
        exact (show Tryd.prog.wantsStandIn t = false by simpa using List.all_eq_true.1 hall t hm)⟩)
    (by kernel_rfl)
#print axioms viewPlays_holds
end Go.Proofs.YtkindaadadggoaaDoor.viewPlays
