/-
  DERIVED. GIVEN WITH THE SEED: THE CARDS: each row of YtpicjikjinkkpaaDoorRows.lean that lists a variable, with what it lists TIED to the program's text (the seventh form; the later family's looks); each row that meets fmt, with fmt's text TOLD by the authors' own Lean function (tested against real Go, not proved from fmt's source: count such statements apart). THE CARD IS WHAT COUNTS. Prove the row's statement (the work); the ties are given (YtpicjikjinkkpaaDoorTie.lean); close each card by the builder's one call (the guide's Derived/Test/ToyasCard.lean, 'card_holds'). Laid BY PROGRAM, IN A SANDBOX (cutbox-door.mjs). By AI agents, Wed Nov 11 2026. No macro, syntax, notation, axiom, sorry.
-/
import Derived.Test.YtpicjikjinkkpaaDoorRows
import GoSem.ClaimSeven
namespace Go.Proofs.YtpicjikjinkkpaaDoor
namespace Rows

/-- THE TIED CARD OF 'whensteadlaw1.OrderRules'. -/
def orderRulesCard : Claim7 := { stood := { row := orderRulesRow, standIns := [], harness := (true, "d51c2d7451c12ff01fa84802e34e180860d97ff4a7a376e5402d593ffa50390b"), looks := true }, kinds := [], alts := [], laidByText := true, laidKinds := [.data, .data], laidTests := true, laidLooks := .later }
def OrderRulesCardSaid : Prop := Claim7.holds Tryd.pinned (.plain (OpenSpec.ofChange orderRulesSpec)) orderRulesCard

/-- THE TIED CARD OF 'whensteadlaw1.DownCloses'. -/
def downClosesCard : Claim7 := { stood := { row := downClosesRow, standIns := [], harness := (true, "d51c2d7451c12ff01fa84802e34e180860d97ff4a7a376e5402d593ffa50390b"), looks := true }, kinds := [], alts := [], laidByText := true, laidKinds := [.data, .data], laidTests := true, laidLooks := .later }
def DownClosesCardSaid : Prop := Claim7.holds Tryd.pinned (.plain (OpenSpec.ofChange downClosesSpec)) downClosesCard

/-- THE TIED CARD OF 'whensteadlaw1.DownLattice'. -/
def downLatticeCard : Claim7 := { stood := { row := downLatticeRow, standIns := [], harness := (true, "d51c2d7451c12ff01fa84802e34e180860d97ff4a7a376e5402d593ffa50390b"), looks := true }, kinds := [], alts := [], laidByText := true, laidKinds := [.data, .data], laidTests := true, laidLooks := .later }
def DownLatticeCardSaid : Prop := Claim7.holds Tryd.pinned (.plain (OpenSpec.ofChange downLatticeSpec)) downLatticeCard

/-- THE TIED CARD OF 'whensteadlaw1.ExtendParts'. -/
def extendPartsCard : Claim7 := { stood := { row := extendPartsRow, standIns := [], harness := (true, "d51c2d7451c12ff01fa84802e34e180860d97ff4a7a376e5402d593ffa50390b"), looks := true }, kinds := [], alts := [], laidByText := true, laidKinds := [.data, .data], laidTests := true, laidLooks := .later }
def ExtendPartsCardSaid : Prop := Claim7.holds Tryd.pinned (.plain (OpenSpec.ofChange extendPartsSpec)) extendPartsCard

/-- THE TIED CARD OF 'whensteadlaw1.DownLast'. -/
def downLastCard : Claim7 := { stood := { row := downLastRow, standIns := [], harness := (true, "d51c2d7451c12ff01fa84802e34e180860d97ff4a7a376e5402d593ffa50390b"), looks := true }, kinds := [], alts := [], laidByText := true, laidKinds := [.data, .data], laidTests := true, laidLooks := .later }
def DownLastCardSaid : Prop := Claim7.holds Tryd.pinned (.plain (OpenSpec.ofChange downLastSpec)) downLastCard

/-- THE TIED CARD OF 'whensteadlaw1.ExtendKeeps'. -/
def extendKeepsCard : Claim7 := { stood := { row := extendKeepsRow, standIns := [], harness := (true, "d51c2d7451c12ff01fa84802e34e180860d97ff4a7a376e5402d593ffa50390b"), looks := true }, kinds := [], alts := [], laidByText := true, laidKinds := [.data, .data], laidTests := true, laidLooks := .later }
def ExtendKeepsCardSaid : Prop := Claim7.holds Tryd.pinned (.plain (OpenSpec.ofChange extendKeepsSpec)) extendKeepsCard

/-- THE TIED CARD OF 'whensteadlaw1.ChainMirsky'. -/
def chainMirskyCard : Claim7 := { stood := { row := chainMirskyRow, standIns := [], harness := (true, "d51c2d7451c12ff01fa84802e34e180860d97ff4a7a376e5402d593ffa50390b"), looks := true }, kinds := [], alts := [], laidByText := true, laidKinds := [.data, .data], laidTests := true, laidLooks := .later }
def ChainMirskyCardSaid : Prop := Claim7.holds Tryd.pinned (.plain (OpenSpec.ofChange chainMirskySpec)) chainMirskyCard

/-- THE TIED CARD OF 'whensteadlaw1.ChainMore'. -/
def chainMoreCard : Claim7 := { stood := { row := chainMoreRow, standIns := [], harness := (true, "d51c2d7451c12ff01fa84802e34e180860d97ff4a7a376e5402d593ffa50390b"), looks := true }, kinds := [], alts := [], laidByText := true, laidKinds := [.data, .data], laidTests := true, laidLooks := .later }
def ChainMoreCardSaid : Prop := Claim7.holds Tryd.pinned (.plain (OpenSpec.ofChange chainMoreSpec)) chainMoreCard

/-- THE TIED CARD OF 'whensteadlaw1.ExtendBounds'. -/
def extendBoundsCard : Claim7 := { stood := { row := extendBoundsRow, standIns := [], harness := (true, "d51c2d7451c12ff01fa84802e34e180860d97ff4a7a376e5402d593ffa50390b"), looks := true }, kinds := [], alts := [], laidByText := true, laidKinds := [.data, .data], laidTests := true, laidLooks := .later }
def ExtendBoundsCardSaid : Prop := Claim7.holds Tryd.pinned (.plain (OpenSpec.ofChange extendBoundsSpec)) extendBoundsCard

/-- THE TIED CARD OF 'whensteadlaw1.ChainDilworth'. -/
def chainDilworthCard : Claim7 := { stood := { row := chainDilworthRow, standIns := [], harness := (true, "d51c2d7451c12ff01fa84802e34e180860d97ff4a7a376e5402d593ffa50390b"), looks := true }, kinds := [], alts := [], laidByText := true, laidKinds := [.data, .data], laidTests := true, laidLooks := .later }
def ChainDilworthCardSaid : Prop := Claim7.holds Tryd.pinned (.plain (OpenSpec.ofChange chainDilworthSpec)) chainDilworthCard

/-- THE TIED CARD OF 'whensteadlaw1.DownCount'. -/
def downCountCard : Claim7 := { stood := { row := downCountRow, standIns := [], harness := (true, "d51c2d7451c12ff01fa84802e34e180860d97ff4a7a376e5402d593ffa50390b"), looks := true }, kinds := [], alts := [], laidByText := true, laidKinds := [.data, .data], laidTests := true, laidLooks := .later }
def DownCountCardSaid : Prop := Claim7.holds Tryd.pinned (.plain (OpenSpec.ofChange downCountSpec)) downCountCard

/-- THE TIED CARD OF 'whensteadlaw1.OrderMore'. -/
def orderMoreCard : Claim7 := { stood := { row := orderMoreRow, standIns := [], harness := (true, "d51c2d7451c12ff01fa84802e34e180860d97ff4a7a376e5402d593ffa50390b"), looks := true }, kinds := [], alts := [], laidByText := true, laidKinds := [.handle], laidTests := true, laidLooks := .later }
def OrderMoreCardSaid : Prop := Claim7.holds Tryd.pinned (.plain (OpenSpec.ofChange orderMoreSpec)) orderMoreCard

/-- THE TIED CARD OF 'whensteadlaw1.OrderSays'. -/
def orderSaysCard : Claim7 := { stood := { row := orderSaysRow, standIns := [], harness := (true, "d51c2d7451c12ff01fa84802e34e180860d97ff4a7a376e5402d593ffa50390b"), looks := true }, kinds := [], alts := [], laidByText := true, laidKinds := [.data, .data, .handle], laidTests := true, laidLooks := .later }
def OrderSaysCardSaid : Prop := Claim7.holds Tryd.pinned (.plain (OpenSpec.ofChange orderSaysSpec)) orderSaysCard

/-- THE TIED CARD OF 'whensteadlaw1.DownSays'. -/
def downSaysCard : Claim7 := { stood := { row := downSaysRow, standIns := [], harness := (true, "d51c2d7451c12ff01fa84802e34e180860d97ff4a7a376e5402d593ffa50390b"), looks := true }, kinds := [], alts := [], laidByText := true, laidKinds := [.data, .data, .handle], laidTests := true, laidLooks := .later }
def DownSaysCardSaid : Prop := Claim7.holds Tryd.pinned (.plain (OpenSpec.ofChange downSaysSpec)) downSaysCard

/-- THE TIED CARD OF 'whensteadlaw1.ExtendSays'. -/
def extendSaysCard : Claim7 := { stood := { row := extendSaysRow, standIns := [], harness := (true, "d51c2d7451c12ff01fa84802e34e180860d97ff4a7a376e5402d593ffa50390b"), looks := true }, kinds := [], alts := [], laidByText := true, laidKinds := [.data, .data, .handle], laidTests := true, laidLooks := .later }
def ExtendSaysCardSaid : Prop := Claim7.holds Tryd.pinned (.plain (OpenSpec.ofChange extendSaysSpec)) extendSaysCard

/-- THE TIED CARD OF 'whensteadlaw1.ChainSays'. -/
def chainSaysCard : Claim7 := { stood := { row := chainSaysRow, standIns := [], harness := (true, "d51c2d7451c12ff01fa84802e34e180860d97ff4a7a376e5402d593ffa50390b"), looks := true }, kinds := [], alts := [], laidByText := true, laidKinds := [.data, .data, .handle], laidTests := true, laidLooks := .later }
def ChainSaysCardSaid : Prop := Claim7.holds Tryd.pinned (.plain (OpenSpec.ofChange chainSaysSpec)) chainSaysCard

/-- THE SECOND FORM's CARD OF 'whensteadlaw1.OrderRules'. -/
def orderRulesUptoCard : Claim7 := { stood := { row := orderRulesUptoRow, standIns := [], harness := (true, "d51c2d7451c12ff01fa84802e34e180860d97ff4a7a376e5402d593ffa50390b"), looks := true }, kinds := [], alts := [], laidByText := true, laidKinds := [.data, .data], laidTests := true, laidLooks := .later }
def OrderRulesUptoCardSaid : Prop := Claim7.holds Tryd.pinned (.plain (OpenSpec.upto orderRulesSpec)) orderRulesUptoCard

/-- THE SECOND FORM's CARD OF 'whensteadlaw1.DownCloses'. -/
def downClosesUptoCard : Claim7 := { stood := { row := downClosesUptoRow, standIns := [], harness := (true, "d51c2d7451c12ff01fa84802e34e180860d97ff4a7a376e5402d593ffa50390b"), looks := true }, kinds := [], alts := [], laidByText := true, laidKinds := [.data, .data], laidTests := true, laidLooks := .later }
def DownClosesUptoCardSaid : Prop := Claim7.holds Tryd.pinned (.plain (OpenSpec.upto downClosesSpec)) downClosesUptoCard

/-- THE SECOND FORM's CARD OF 'whensteadlaw1.DownLattice'. -/
def downLatticeUptoCard : Claim7 := { stood := { row := downLatticeUptoRow, standIns := [], harness := (true, "d51c2d7451c12ff01fa84802e34e180860d97ff4a7a376e5402d593ffa50390b"), looks := true }, kinds := [], alts := [], laidByText := true, laidKinds := [.data, .data], laidTests := true, laidLooks := .later }
def DownLatticeUptoCardSaid : Prop := Claim7.holds Tryd.pinned (.plain (OpenSpec.upto downLatticeSpec)) downLatticeUptoCard

/-- THE SECOND FORM's CARD OF 'whensteadlaw1.ExtendParts'. -/
def extendPartsUptoCard : Claim7 := { stood := { row := extendPartsUptoRow, standIns := [], harness := (true, "d51c2d7451c12ff01fa84802e34e180860d97ff4a7a376e5402d593ffa50390b"), looks := true }, kinds := [], alts := [], laidByText := true, laidKinds := [.data, .data], laidTests := true, laidLooks := .later }
def ExtendPartsUptoCardSaid : Prop := Claim7.holds Tryd.pinned (.plain (OpenSpec.upto extendPartsSpec)) extendPartsUptoCard

/-- THE SECOND FORM's CARD OF 'whensteadlaw1.DownLast'. -/
def downLastUptoCard : Claim7 := { stood := { row := downLastUptoRow, standIns := [], harness := (true, "d51c2d7451c12ff01fa84802e34e180860d97ff4a7a376e5402d593ffa50390b"), looks := true }, kinds := [], alts := [], laidByText := true, laidKinds := [.data, .data], laidTests := true, laidLooks := .later }
def DownLastUptoCardSaid : Prop := Claim7.holds Tryd.pinned (.plain (OpenSpec.upto downLastSpec)) downLastUptoCard

/-- THE SECOND FORM's CARD OF 'whensteadlaw1.ExtendKeeps'. -/
def extendKeepsUptoCard : Claim7 := { stood := { row := extendKeepsUptoRow, standIns := [], harness := (true, "d51c2d7451c12ff01fa84802e34e180860d97ff4a7a376e5402d593ffa50390b"), looks := true }, kinds := [], alts := [], laidByText := true, laidKinds := [.data, .data], laidTests := true, laidLooks := .later }
def ExtendKeepsUptoCardSaid : Prop := Claim7.holds Tryd.pinned (.plain (OpenSpec.upto extendKeepsSpec)) extendKeepsUptoCard

/-- THE SECOND FORM's CARD OF 'whensteadlaw1.ChainMirsky'. -/
def chainMirskyUptoCard : Claim7 := { stood := { row := chainMirskyUptoRow, standIns := [], harness := (true, "d51c2d7451c12ff01fa84802e34e180860d97ff4a7a376e5402d593ffa50390b"), looks := true }, kinds := [], alts := [], laidByText := true, laidKinds := [.data, .data], laidTests := true, laidLooks := .later }
def ChainMirskyUptoCardSaid : Prop := Claim7.holds Tryd.pinned (.plain (OpenSpec.upto chainMirskySpec)) chainMirskyUptoCard

/-- THE SECOND FORM's CARD OF 'whensteadlaw1.ChainMore'. -/
def chainMoreUptoCard : Claim7 := { stood := { row := chainMoreUptoRow, standIns := [], harness := (true, "d51c2d7451c12ff01fa84802e34e180860d97ff4a7a376e5402d593ffa50390b"), looks := true }, kinds := [], alts := [], laidByText := true, laidKinds := [.data, .data], laidTests := true, laidLooks := .later }
def ChainMoreUptoCardSaid : Prop := Claim7.holds Tryd.pinned (.plain (OpenSpec.upto chainMoreSpec)) chainMoreUptoCard

/-- THE SECOND FORM's CARD OF 'whensteadlaw1.ExtendBounds'. -/
def extendBoundsUptoCard : Claim7 := { stood := { row := extendBoundsUptoRow, standIns := [], harness := (true, "d51c2d7451c12ff01fa84802e34e180860d97ff4a7a376e5402d593ffa50390b"), looks := true }, kinds := [], alts := [], laidByText := true, laidKinds := [.data, .data], laidTests := true, laidLooks := .later }
def ExtendBoundsUptoCardSaid : Prop := Claim7.holds Tryd.pinned (.plain (OpenSpec.upto extendBoundsSpec)) extendBoundsUptoCard

/-- THE SECOND FORM's CARD OF 'whensteadlaw1.ChainDilworth'. -/
def chainDilworthUptoCard : Claim7 := { stood := { row := chainDilworthUptoRow, standIns := [], harness := (true, "d51c2d7451c12ff01fa84802e34e180860d97ff4a7a376e5402d593ffa50390b"), looks := true }, kinds := [], alts := [], laidByText := true, laidKinds := [.data, .data], laidTests := true, laidLooks := .later }
def ChainDilworthUptoCardSaid : Prop := Claim7.holds Tryd.pinned (.plain (OpenSpec.upto chainDilworthSpec)) chainDilworthUptoCard

/-- THE SECOND FORM's CARD OF 'whensteadlaw1.DownCount'. -/
def downCountUptoCard : Claim7 := { stood := { row := downCountUptoRow, standIns := [], harness := (true, "d51c2d7451c12ff01fa84802e34e180860d97ff4a7a376e5402d593ffa50390b"), looks := true }, kinds := [], alts := [], laidByText := true, laidKinds := [.data, .data], laidTests := true, laidLooks := .later }
def DownCountUptoCardSaid : Prop := Claim7.holds Tryd.pinned (.plain (OpenSpec.upto downCountSpec)) downCountUptoCard

/-- THE SECOND FORM's CARD OF 'whensteadlaw1.OrderMore'. -/
def orderMoreUptoCard : Claim7 := { stood := { row := orderMoreUptoRow, standIns := [], harness := (true, "d51c2d7451c12ff01fa84802e34e180860d97ff4a7a376e5402d593ffa50390b"), looks := true }, kinds := [], alts := [], laidByText := true, laidKinds := [.handle], laidTests := true, laidLooks := .later }
def OrderMoreUptoCardSaid : Prop := Claim7.holds Tryd.pinned (.plain (OpenSpec.upto orderMoreSpec)) orderMoreUptoCard

/-- THE SECOND FORM's CARD OF 'whensteadlaw1.OrderSays'. -/
def orderSaysUptoCard : Claim7 := { stood := { row := orderSaysUptoRow, standIns := [], harness := (true, "d51c2d7451c12ff01fa84802e34e180860d97ff4a7a376e5402d593ffa50390b"), looks := true }, kinds := [], alts := [], laidByText := true, laidKinds := [.data, .data, .handle], laidTests := true, laidLooks := .later }
def OrderSaysUptoCardSaid : Prop := Claim7.holds Tryd.pinned (.plain (OpenSpec.upto orderSaysSpec)) orderSaysUptoCard

/-- THE SECOND FORM's CARD OF 'whensteadlaw1.DownSays'. -/
def downSaysUptoCard : Claim7 := { stood := { row := downSaysUptoRow, standIns := [], harness := (true, "d51c2d7451c12ff01fa84802e34e180860d97ff4a7a376e5402d593ffa50390b"), looks := true }, kinds := [], alts := [], laidByText := true, laidKinds := [.data, .data, .handle], laidTests := true, laidLooks := .later }
def DownSaysUptoCardSaid : Prop := Claim7.holds Tryd.pinned (.plain (OpenSpec.upto downSaysSpec)) downSaysUptoCard

/-- THE SECOND FORM's CARD OF 'whensteadlaw1.ExtendSays'. -/
def extendSaysUptoCard : Claim7 := { stood := { row := extendSaysUptoRow, standIns := [], harness := (true, "d51c2d7451c12ff01fa84802e34e180860d97ff4a7a376e5402d593ffa50390b"), looks := true }, kinds := [], alts := [], laidByText := true, laidKinds := [.data, .data, .handle], laidTests := true, laidLooks := .later }
def ExtendSaysUptoCardSaid : Prop := Claim7.holds Tryd.pinned (.plain (OpenSpec.upto extendSaysSpec)) extendSaysUptoCard

/-- THE SECOND FORM's CARD OF 'whensteadlaw1.ChainSays'. -/
def chainSaysUptoCard : Claim7 := { stood := { row := chainSaysUptoRow, standIns := [], harness := (true, "d51c2d7451c12ff01fa84802e34e180860d97ff4a7a376e5402d593ffa50390b"), looks := true }, kinds := [], alts := [], laidByText := true, laidKinds := [.data, .data, .handle], laidTests := true, laidLooks := .later }
def ChainSaysUptoCardSaid : Prop := Claim7.holds Tryd.pinned (.plain (OpenSpec.upto chainSaysSpec)) chainSaysUptoCard
end Rows
end Go.Proofs.YtpicjikjinkkpaaDoor
