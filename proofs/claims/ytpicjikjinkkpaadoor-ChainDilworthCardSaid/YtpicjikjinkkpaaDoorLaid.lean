/- What the row's condition on the library's table gives a walk: the table's cells. Conditions: the row's own (the table is laid as it is written). -/
import Derived.Test.YtpicjikjinkkpaaDoorRows
import Derived.Test.YtpicjikjinkkpaaDoorTz
import Derived.Lib.LaidU8
namespace Go.Proofs.YtpicjikjinkkpaaDoor
open Go.RowKit Go.Lib

def tzRow : List Int := [0, 1, 56, 2, 57, 49, 28, 3, 61, 58, 42, 50, 38, 29, 17, 4, 62, 47, 59, 36, 45, 43, 51, 22, 53, 39, 33, 30, 24, 18, 12, 5, 63, 55, 48, 27, 60, 41, 37, 16, 46, 35, 44, 21, 52, 32, 23, 11, 54, 26, 40, 15, 34, 20, 31, 10, 25, 14, 19, 9, 13, 8, 7, 6]
theorem tzRow_eq : (Rows.laid_math_bits_deBruijn64tab : DataW Unit) = tabData .u8 tzRow := rfl
theorem tab_of_reads {w : World} (h : VarReads Tryd.prog w "math/bits.deBruijn64tab" Rows.laid_math_bits_deBruijn64tab) : Tab w := by
  intro k hk
  rw [tzRow_eq] at h
  obtain ⟨g, t, cs, fuel, p, hg, hty, hvar, hd⟩ := h
  obtain rfl := Option.some.inj ((show Tryd.prog.globalNamed "math/bits.deBruijn64tab" = some 2 by kernel_rfl).symm.trans hg)
  obtain rfl := Option.some.inj ((show (Tryd.prog.globals[2]?).map (·.type) = some 85 by kernel_rfl).symm.trans hty)
  have hcs := cells_of_tab Tryd.underlying85 Tryd.underlying5 (by kernel_rfl) (by kernel_rfl) hd
  rw [World.var?_cell hg hvar (tzIdx.getD k 0), ← Array.getElem?_toList, hcs]
  have hk' : k = 0 ∨ k = 1 ∨ k = 2 ∨ k = 3 ∨ k = 4 ∨ k = 5 ∨ k = 6 ∨ k = 7 ∨ k = 8 ∨ k = 9 ∨ k = 10 ∨ k = 11 := by omega
  rcases hk' with rfl | rfl | rfl | rfl | rfl | rfl | rfl | rfl | rfl | rfl | rfl | rfl <;> rfl

end Go.Proofs.YtpicjikjinkkpaaDoor
