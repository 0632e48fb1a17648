/- The statement SchedSays: for every input the law returns true, and each argument reads behind the call as it read before. Lifted from its walk. Conditions: none beyond the given row's own. -/
import Derived.Test.YtkindaadadggoaaDoorRows
import Derived.Test.YtkindaadadggoaaDoorTie
import Derived.Test.YtkindaadadggoaaDoorCards
import Derived.Test.YtkindaadadggoaaDoorLaid
import Derived.Test.YtkindaadadggoaaDoorSSays
import Derived.Test.YtkindaadadggoaaDoorOpen
import Derived.WalkKit
import Derived.ProofKit
import Derived.OpenShut
import Derived.ShutString
import Derived.ChangeOld
import Derived.Below
import Derived.Test.YtkindaadadggoaaDoorHandle
import Derived.Lay
import Derived.LaidOnce
import Derived.SevenTiedAt
import Derived.JoinedOf
import Derived.LaidLaws
namespace Go.Proofs.YtkindaadadggoaaDoor.schedSays
open Go.ChangeShapes Go.WideShapes Go.ChangeAt Go.RowKit
set_option linter.unusedVariables false

theorem own : ownKnob Tryd.prog.godebug = none := by kernel_rfl
theorem laidOut : laidOutB Tryd.prog = true := by kernel_rfl
theorem fields0 : ∃ fs, Tryd.prog.underlying 28 = some (.struct fs) ∧ Tryd.prog.cellsOf 28 = fs.size ∧ IntFields Tryd.prog fs ∧ fs.size = 3 := by
  refine ⟨_, Tryd.underlying28, by kernel_rfl, ?_, rfl⟩
  intro j f hj
  match j, hj with
  | 0, hj => cases hj; exact ⟨rfl, Tryd.underlying3, by kernel_rfl⟩
  | 1, hj => cases hj; exact ⟨rfl, Tryd.underlying3, by kernel_rfl⟩
  | 2, hj => cases hj; exact ⟨rfl, Tryd.underlying3, by kernel_rfl⟩
  | j + 3, hj => simp at hj

set_option maxRecDepth 100000 in
theorem lifted (os : Os) (started : os.Started) (H : Type) (enc : TypeId × Value → H) :
    ReturnsInHanded {} Tryd.checked os 13 .any (fun w args => (Rows.schedSaysSpec.pre enc Tryd.prog Tryd.f13 Rows.schedSaysRow.domain false w args ∧ laidMetH Tryd.prog Rows.schedSaysRow.laid w) ∧ sizedMet enc Tryd.prog Tryd.f13 (OpenSpec.ofChange Rows.schedSaysSpec) false w args) (Rows.schedSaysSpec.post enc Tryd.prog Tryd.f13 false true false false) := by
  refine returnsInHanded_of_change_and (C := Tryd.checked) (X := fun w _ => laidMetH Tryd.prog Rows.schedSaysRow.laid w) (fun _ _ _ hh h => h.of_heap hh) own started (by kernel_rfl) Tryd.func13
    (ChangeSpec.witness_shaped (enc := enc) (C := Tryd.checked) (os := os) (X := fun w _ => laidMetH Tryd.prog Rows.schedSaysRow.laid w) false ((errBase os).layVars Tryd.prog []) #[.slice none 0 0, .slice none 0 0] 8 (World.layVars_os _ _ _)
      (World.shaped_of_ZipB (by kernel_rfl) (by kernel_rfl)) (by kernel_rfl) (by kernel_rfl) (by kernel_rfl)
      (laidMetH_of_parts (show laidMet Tryd.prog [] _ from laidMet_on _ (by kernel_rfl) (by kernel_rfl)) (by kernel_rfl))) ?_
  intro W base args ds gs before hval0 hW hcnd _ hL _
  have hH : laidMet Tryd.prog [] W ∧ handlesMet Tryd.prog [("errors.errorType", Rows.laid_errors_errorType)] W := hL
  have hE : ErrTy W := errTy_of_handles hH.2
  have hval : ∀ (j : Nat) t v, Tryd.f13.params[j]? = some t → args[j]? = some v → Value.okWide Tryd.prog W .any base t v := hval0
  have hW' := hW
  obtain ⟨p, q, hA0, hV, rfl, hfz, hnd⟩ := hW
  have hA : DataW.TrodAll enc Tryd.prog W 0 (fun _ => true) true Tryd.f13.params.toList args.toList ds p := hA0
  rw [Tryd.params13] at hA hval
  obtain ⟨v0, vs0, d0, ds0, p0, q0, hargs, rfl, rfl, h0, r0⟩ := trodAll_cons hA
  obtain ⟨v1, vs1, d1, ds1, p1, q1, rfl, rfl, rfl, h1, r1⟩ := trodAll_cons r0
  obtain ⟨rfl, rfl, rfl⟩ := trodAll_nil r1
  obtain rfl : args = #[v0, v1] := by cases args; simp_all
  obtain ⟨rfl, rfl⟩ := trodVars_none hV
  have k0 := h0
  have lt0 : ∀ x ∈ p0, x.block < W.heap.size := by obtain ⟨m, hm⟩ := k0; exact DataW.trod_lt m _ _ _ hm
  obtain ⟨A0, len0, cap0, rfl⟩ := okWide_slice Tryd.underlying22 (hval 0 22 v0 rfl rfl)
  obtain ⟨recs0, rl0, rw0, w0⟩ : ∃ recs : List (List Int), (∀ r ∈ recs, r.length = 3) ∧ (∀ r ∈ recs, ∀ z ∈ r, (Lit.int .i64 z).wf = true) ∧ Rd W W.heap.size 3 (.slice A0 len0 cap0) recs.length (recs.flatMap fun r => r.map iv) := by
    obtain ⟨fuel, hf⟩ := h0
    obtain ⟨fs, f1, f2, f3, f4⟩ := fields0
    obtain ⟨v, recs, hcs, g1, g2, g3⟩ := open_recs Tryd.underlying22 f1 f2 f3 (by omega) hf
    simp [Value.cells] at hcs
    subst hcs
    rw [f4] at g1 g3
    exact ⟨recs, g1, g2, g3⟩
  have k1 := h1
  have lt1 : ∀ x ∈ p1, x.block < W.heap.size := by obtain ⟨m, hm⟩ := k1; exact DataW.trod_lt m _ _ _ hm
  obtain ⟨A1, len1, cap1, rfl⟩ := okWide_slice Tryd.underlying26 (hval 1 26 v1 rfl rfl)
  obtain ⟨l1, w1, wf1⟩ : ∃ l, Ints W W.heap.size (.slice A1 len1 cap1) l ∧ ∀ n ∈ l, (Lit.int .i64 n).wf = true := by
    obtain ⟨fuel, hf⟩ := h1
    rcases open_ints Tryd.underlying26 Tryd.underlying3 (by kernel_rfl) hf with ⟨hcs, _⟩ | ⟨x, l, c, zs, hcs, _, hl, hm, hz, _, hcell, hwz⟩
    · simp [Value.cells] at hcs
      obtain ⟨rfl, rfl, rfl⟩ := hcs
      exact ⟨_, ints_of_row (z := []) (.inl ⟨rfl, rfl, rfl, rfl⟩)⟩
    · simp [Value.cells] at hcs
      obtain ⟨rfl, rfl, rfl⟩ := hcs
      exact ⟨_, ints_of_row (.inr ⟨_, rfl, hl, hm, by simpa using hz, hcell, hwz⟩)⟩
  clear hA0 hval0
  refine ((Go.Proofs.YtkindaadadggoaaDoor.ssays_calls (.slice A0 len0 cap0) (.slice A1 len1 cap1) recs0 l1 W w0 rl0 w1 hE)).mono fun e W' ⟨he, bel⟩ => ?_
  subst he
  exact ⟨_, rfl, _, _, _, [], _, [], hW', trodAll_mk1 (shut_bool Tryd.underlying4 _), (trodAll_cons_mk (Below.trod laidOut (by kernel_rfl) (of_decide_eq_true (by kernel_rfl)) k0 bel lt0) (trodAll_cons_mk (Below.trod laidOut (by kernel_rfl) (of_decide_eq_true (by kernel_rfl)) k1 bel lt1) trodAll_mk0)), rfl, bel.frame _, fun h => by cases h⟩

theorem over : Rows.schedSaysRow.holds Tryd.pinned (OpenSpec.ofChange Rows.schedSaysSpec) :=
  OpenClaim.holds_of_wide 13 Tryd.f13 rfl rfl rfl rfl rfl rfl rfl ⟨rfl, rfl, rfl, rfl, rfl⟩ rfl rfl rfl rfl rfl (by kernel_rfl) Tryd.func13 (by kernel_rfl)
    (of_decide_eq_true (by kernel_rfl)) (by unfold Func.isWrapper; first | (rw [if_pos (by decide +kernel)]; kernel_rfl) | (rw [if_neg (by decide +kernel)]; exact ⟨rfl, rfl⟩))
    (fun os started H enc _ => lifted os started H enc)

/-- the statement's card -/
theorem schedSays_holds : Rows.SchedSaysCardSaid :=
  Claim7.holds_tied_plain_at .later [] [.handle] true (true, "d9c6a5a71602726a324121bbb8f29cba49710a0fea819a09d41bf4febc1b12ef") true over (fun _ h => by cases h) (by kernel_rfl) (fun _ h => by cases h) schedSays_row_tie rfl ⟨rfl, rfl⟩ (by kernel_rfl) rfl
    (fun f fn hf hfn => by
      obtain rfl : f = 13 := Option.some.inj ((show Tryd.prog.funcNamed "whenstead/whensteadlaw3.SchedSays" = some 13 by kernel_rfl).symm.trans hf) |>.symm
      obtain rfl : fn = Tryd.f13 := (Option.some.inj (Tryd.func13.symm.trans hfn)).symm
      exact ⟨by kernel_rfl, fun j t ht => by
        rw [Tryd.params13] at ht
        have hm : t ∈ [22, 26] := by simpa using Array.mem_of_getElem? ht
        have hall : ([22, 26].all fun u => !Tryd.prog.wantsStandIn u) = true := by kernel_rfl
        exact (show Tryd.prog.wantsStandIn t = false by simpa using List.all_eq_true.1 hall t hm)⟩)
    (by kernel_rfl)
#print axioms schedSays_holds
end Go.Proofs.YtkindaadadggoaaDoor.schedSays
