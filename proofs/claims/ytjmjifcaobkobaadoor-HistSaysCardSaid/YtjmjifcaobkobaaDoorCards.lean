/-
  DERIVED. GIVEN WITH THE SEED: THE CARDS: each row of YtjmjifcaobkobaaDoorRows.lean that lists a variable, with what it lists TIED to the program's text (the seventh form; the later family's looks); each row that meets fmt, with fmt's text TOLD by the authors' own Lean function (tested against real Go, not proved from fmt's source: count such statements apart). THE CARD IS WHAT COUNTS. Prove the row's statement (the work); the ties are given (YtjmjifcaobkobaaDoorTie.lean); close each card by the builder's one call (the guide's Derived/Test/ToyasCard.lean, 'card_holds'). Laid BY PROGRAM, IN A SANDBOX (cutbox-door.mjs). By AI agents, Wed Nov 11 2026. No macro, syntax, notation, axiom, sorry.
-/
import Derived.Test.YtjmjifcaobkobaaDoorRows
import GoSem.ClaimSeven
namespace Go.Proofs.YtjmjifcaobkobaaDoor
namespace Rows

/-- THE TIED CARD OF 'whensteadlaw3.HistSays'. -/
def histSaysCard : Claim7 := { stood := { row := histSaysRow, standIns := [], harness := (true, "6476aa984456508e71a7d3d97b06a6a566224b18bcf69c268009399c152d9be1"), looks := true }, kinds := [], alts := [], laidByText := true, laidKinds := [.handle], laidTests := true, laidLooks := .later }
def HistSaysCardSaid : Prop := Claim7.holds Tryd.pinned (.plain (OpenSpec.ofChange histSaysSpec)) histSaysCard

/-- THE SECOND FORM's CARD OF 'whensteadlaw3.HistSays'. -/
def histSaysUptoCard : Claim7 := { stood := { row := histSaysUptoRow, standIns := [], harness := (true, "6476aa984456508e71a7d3d97b06a6a566224b18bcf69c268009399c152d9be1"), looks := true }, kinds := [], alts := [], laidByText := true, laidKinds := [.handle], laidTests := true, laidLooks := .later }
def HistSaysUptoCardSaid : Prop := Claim7.holds Tryd.pinned (.plain (OpenSpec.upto histSaysSpec)) histSaysUptoCard
end Rows
end Go.Proofs.YtjmjifcaobkobaaDoor
