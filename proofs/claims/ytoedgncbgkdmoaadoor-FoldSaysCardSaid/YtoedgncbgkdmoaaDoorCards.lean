/-
  DERIVED. GIVEN WITH THE SEED: THE CARDS: each row of YtoedgncbgkdmoaaDoorRows.lean that lists a variable, with what it lists TIED to the program's text (the seventh form; the later family's looks); each row that meets fmt, with fmt's text TOLD by the authors' own Lean function (tested against real Go, not proved from fmt's source: count such statements apart). THE CARD IS WHAT COUNTS. Prove the row's statement (the work); the ties are given (YtoedgncbgkdmoaaDoorTie.lean); close each card by the builder's one call (the guide's Derived/Test/ToyasCard.lean, 'card_holds'). Laid BY PROGRAM, IN A SANDBOX (cutbox-door.mjs). By AI agents, Wed Nov 11 2026. No macro, syntax, notation, axiom, sorry.
-/
import Derived.Test.YtoedgncbgkdmoaaDoorRows
import GoSem.ClaimSeven
namespace Go.Proofs.YtoedgncbgkdmoaaDoor
namespace Rows

/-- THE TIED CARD OF 'whensteadlaw3.FoldSwaps'. -/
def foldSwapsCard : Claim7 := { stood := { row := foldSwapsRow, standIns := [], harness := (true, "cde016e57fe3bd2b3dfd739ed973e0b823ecece7758648f73643f7ddeb89ea70"), looks := true }, kinds := [], alts := [], laidByText := true, laidKinds := [.data, .data], laidTests := true, laidLooks := .later }
def FoldSwapsCardSaid : Prop := Claim7.holds Tryd.pinned (.plain (OpenSpec.ofChange foldSwapsSpec)) foldSwapsCard

/-- THE TIED CARD OF 'whensteadlaw3.FoldPairs'. -/
def foldPairsCard : Claim7 := { stood := { row := foldPairsRow, standIns := [], harness := (true, "cde016e57fe3bd2b3dfd739ed973e0b823ecece7758648f73643f7ddeb89ea70"), looks := true }, kinds := [], alts := [], laidByText := true, laidKinds := [.data, .data], laidTests := true, laidLooks := .later }
def FoldPairsCardSaid : Prop := Claim7.holds Tryd.pinned (.plain (OpenSpec.ofChange foldPairsSpec)) foldPairsCard

/-- THE TIED CARD OF 'whensteadlaw3.FoldSteps'. -/
def foldStepsCard : Claim7 := { stood := { row := foldStepsRow, standIns := [], harness := (true, "cde016e57fe3bd2b3dfd739ed973e0b823ecece7758648f73643f7ddeb89ea70"), looks := true }, kinds := [], alts := [], laidByText := true, laidKinds := [.data, .data], laidTests := true, laidLooks := .later }
def FoldStepsCardSaid : Prop := Claim7.holds Tryd.pinned (.plain (OpenSpec.ofChange foldStepsSpec)) foldStepsCard

/-- THE TIED CARD OF 'whensteadlaw3.FoldLeast'. -/
def foldLeastCard : Claim7 := { stood := { row := foldLeastRow, standIns := [], harness := (true, "cde016e57fe3bd2b3dfd739ed973e0b823ecece7758648f73643f7ddeb89ea70"), looks := true }, kinds := [], alts := [], laidByText := true, laidKinds := [.data, .data], laidTests := true, laidLooks := .later }
def FoldLeastCardSaid : Prop := Claim7.holds Tryd.pinned (.plain (OpenSpec.ofChange foldLeastSpec)) foldLeastCard

/-- THE TIED CARD OF 'whensteadlaw3.FoldSays'. -/
def foldSaysCard : Claim7 := { stood := { row := foldSaysRow, standIns := [], harness := (true, "cde016e57fe3bd2b3dfd739ed973e0b823ecece7758648f73643f7ddeb89ea70"), looks := true }, kinds := [], alts := [], laidByText := true, laidKinds := [.data, .data, .handle], laidTests := true, laidLooks := .later }
def FoldSaysCardSaid : Prop := Claim7.holds Tryd.pinned (.plain (OpenSpec.ofChange foldSaysSpec)) foldSaysCard

/-- THE TIED CARD OF 'whensteadtop.TopFold'. -/
def topFoldCard : Claim7 := { stood := { row := topFoldRow, standIns := [], harness := (true, "cde016e57fe3bd2b3dfd739ed973e0b823ecece7758648f73643f7ddeb89ea70"), looks := true }, kinds := [], alts := [], laidByText := true, laidKinds := [.data, .data], laidTests := true, laidLooks := .later }
def TopFoldCardSaid : Prop := Claim7.holds Tryd.pinned (.plain (OpenSpec.ofChange topFoldSpec)) topFoldCard

/-- THE SECOND FORM's CARD OF 'whensteadlaw3.FoldSwaps'. -/
def foldSwapsUptoCard : Claim7 := { stood := { row := foldSwapsUptoRow, standIns := [], harness := (true, "cde016e57fe3bd2b3dfd739ed973e0b823ecece7758648f73643f7ddeb89ea70"), looks := true }, kinds := [], alts := [], laidByText := true, laidKinds := [.data, .data], laidTests := true, laidLooks := .later }
def FoldSwapsUptoCardSaid : Prop := Claim7.holds Tryd.pinned (.plain (OpenSpec.upto foldSwapsSpec)) foldSwapsUptoCard

/-- THE SECOND FORM's CARD OF 'whensteadlaw3.FoldPairs'. -/
def foldPairsUptoCard : Claim7 := { stood := { row := foldPairsUptoRow, standIns := [], harness := (true, "cde016e57fe3bd2b3dfd739ed973e0b823ecece7758648f73643f7ddeb89ea70"), looks := true }, kinds := [], alts := [], laidByText := true, laidKinds := [.data, .data], laidTests := true, laidLooks := .later }
def FoldPairsUptoCardSaid : Prop := Claim7.holds Tryd.pinned (.plain (OpenSpec.upto foldPairsSpec)) foldPairsUptoCard

/-- THE SECOND FORM's CARD OF 'whensteadlaw3.FoldSteps'. -/
def foldStepsUptoCard : Claim7 := { stood := { row := foldStepsUptoRow, standIns := [], harness := (true, "cde016e57fe3bd2b3dfd739ed973e0b823ecece7758648f73643f7ddeb89ea70"), looks := true }, kinds := [], alts := [], laidByText := true, laidKinds := [.data, .data], laidTests := true, laidLooks := .later }
def FoldStepsUptoCardSaid : Prop := Claim7.holds Tryd.pinned (.plain (OpenSpec.upto foldStepsSpec)) foldStepsUptoCard

/-- THE SECOND FORM's CARD OF 'whensteadlaw3.FoldLeast'. -/
def foldLeastUptoCard : Claim7 := { stood := { row := foldLeastUptoRow, standIns := [], harness := (true, "cde016e57fe3bd2b3dfd739ed973e0b823ecece7758648f73643f7ddeb89ea70"), looks := true }, kinds := [], alts := [], laidByText := true, laidKinds := [.data, .data], laidTests := true, laidLooks := .later }
def FoldLeastUptoCardSaid : Prop := Claim7.holds Tryd.pinned (.plain (OpenSpec.upto foldLeastSpec)) foldLeastUptoCard

/-- THE SECOND FORM's CARD OF 'whensteadlaw3.FoldSays'. -/
def foldSaysUptoCard : Claim7 := { stood := { row := foldSaysUptoRow, standIns := [], harness := (true, "cde016e57fe3bd2b3dfd739ed973e0b823ecece7758648f73643f7ddeb89ea70"), looks := true }, kinds := [], alts := [], laidByText := true, laidKinds := [.data, .data, .handle], laidTests := true, laidLooks := .later }
def FoldSaysUptoCardSaid : Prop := Claim7.holds Tryd.pinned (.plain (OpenSpec.upto foldSaysSpec)) foldSaysUptoCard

/-- THE SECOND FORM's CARD OF 'whensteadtop.TopFold'. -/
def topFoldUptoCard : Claim7 := { stood := { row := topFoldUptoRow, standIns := [], harness := (true, "cde016e57fe3bd2b3dfd739ed973e0b823ecece7758648f73643f7ddeb89ea70"), looks := true }, kinds := [], alts := [], laidByText := true, laidKinds := [.data, .data], laidTests := true, laidLooks := .later }
def TopFoldUptoCardSaid : Prop := Claim7.holds Tryd.pinned (.plain (OpenSpec.upto topFoldSpec)) topFoldUptoCard
end Rows
end Go.Proofs.YtoedgncbgkdmoaaDoor
