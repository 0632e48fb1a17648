/- What the row's condition on the library's variable errors.errorType gives a walk; and a world that meets such a condition, with tables laid beside it. Conditions: the row's own. -/
import Derived.Test.YtpicjikjinkkpaaDoorRows
import Derived.Test.YtpicjikjinkkpaaDoorAs
import Derived.Lay
import Derived.LaidLaws
import Derived.LaidHandle
namespace Go.Proofs.YtpicjikjinkkpaaDoor
open Go.RowKit

theorem errGlobal : Tryd.prog.globalNamed "errors.errorType" = some 0 := by kernel_rfl
theorem errRtype : (Tryd.prog.cutTypes.find? (·.1 == "internal/reflectlite.rtype")).map (·.2) = some 87 := by kernel_rfl
theorem errRow : ((List.range 129).filter fun t => Tryd.prog.rowNamed t [101, 114, 114, 111, 114]) = [25] := by kernel_rfl
theorem errSize : Tryd.prog.types.size = 129 := by kernel_rfl
theorem errTy_of_handles {W : World} (h : handlesMet Tryd.prog [("errors.errorType", Rows.laid_errors_errorType)] W) : ErrTy W := by
  obtain ⟨name, u, ty, e1, e2, e3, e4, e5⟩ := h _ (List.mem_singleton.2 rfl)
  have en : name = [101, 114, 114, 111, 114] := (Option.some.inj e1).symm
  subst en
  obtain rfl := Option.some.inj (errRtype.symm.trans e2)
  have hm : ty ∈ (List.range 129).filter fun t => Tryd.prog.rowNamed t [101, 114, 114, 111, 114] := List.mem_filter.2 ⟨List.mem_range.2 (by rw [← errSize]; exact e3), e4⟩
  rw [errRow] at hm
  obtain rfl := List.mem_singleton.1 hm
  have hh : typeHandle Tryd.prog 25 = .pointer (some ⟨3, 25, none⟩) := by kernel_rfl
  rw [hh] at e5
  have hc := World.var?_cell errGlobal e5 0
  simp at hc
  exact hc

/-- the settled world, the variable's cell laid -/
noncomputable def errBase (os : Os) : World :=
  let w0 := World.holding Tryd.prog os ⟨#[], #[], []⟩
  { w0 with heap := w0.heap.modify 0 fun
      | .cells _ t frozen => .cells #[.iface 87 (.agg #[.pointer (some ⟨3, 25, none⟩)])] t frozen
      | o => o }
/-- tables laid in any world are laid -/
theorem laidMet_on {P : Program} {w0 : World} {laid : List (String × DataW Unit)} (args : Array Value) (hf : w0.layFits P laid [] = true) (hi : w0.layIfaces P laid (w0.layVars P laid) = true) :
    laidMet P laid ((w0.layVars P laid).forCall (fun _ _ => 0) ⟨#[], args, []⟩).memory := by
  have all : (laid.filter fun x => (laid.map (·.1)).contains x.1) = laid :=
    List.filter_eq_self.2 fun x hx => List.contains_iff_mem.2 (List.mem_map_of_mem hx)
  have rest : (laid.filter fun x => !(laid.map (·.1)).contains x.1) = [] :=
    List.filter_eq_nil_iff.2 fun x hx => by
      have hc : (laid.map (·.1)).contains x.1 = true := List.contains_iff_mem.2 (List.mem_map_of_mem (f := (·.1)) hx)
      rw [hc]; simp
  have met := laidMet_layVars (w0 := w0) (P := P) (laid := laid) (laid.map (·.1)) [] (by rw [all]) (by rw [all]; exact hf) (by rw [all]; exact hi) (by rw [rest]; exact LaidIn.none)
  exact met.of_heap (by simp [World.memory, World.forCall, Input.heap])
end Go.Proofs.YtpicjikjinkkpaaDoor
