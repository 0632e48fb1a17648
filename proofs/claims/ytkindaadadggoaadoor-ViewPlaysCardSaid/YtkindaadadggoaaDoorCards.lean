/-
  DERIVED. GIVEN WITH THE SEED: THE CARDS: each row of YtkindaadadggoaaDoorRows.lean that lists a variable, with what it lists TIED to the program's text (the seventh form; the later family's looks); each row that meets fmt, with fmt's text TOLD by the authors' own Lean function (tested against real Go, not proved from fmt's source: count such statements apart). THE CARD IS WHAT COUNTS. Prove the row's statement (the work); the ties are given (YtkindaadadggoaaDoorTie.lean); close each card by the builder's one call (the guide's Derived/Test/ToyasCard.lean, 'card_holds'). Laid BY PROGRAM, IN A SANDBOX (cutbox-door.mjs). By AI agents, Wed Nov 11 2026. No macro, syntax, notation, axiom, sorry.
-/
import Derived.Test.YtkindaadadggoaaDoorRows
import GoSem.ClaimSeven
namespace Go.Proofs.YtkindaadadggoaaDoor
namespace Rows

/-- THE TIED CARD OF 'whensteadlaw3.PriorSkips'. -/
def priorSkipsCard : Claim7 := { stood := { row := priorSkipsRow, standIns := [], harness := (true, "d9c6a5a71602726a324121bbb8f29cba49710a0fea819a09d41bf4febc1b12ef"), looks := true }, kinds := [], alts := [], laidByText := true, laidKinds := [.handle], laidTests := true, laidLooks := .later }
def PriorSkipsCardSaid : Prop := Claim7.holds Tryd.pinned (.plain (OpenSpec.ofChange priorSkipsSpec)) priorSkipsCard

/-- THE TIED CARD OF 'whensteadlaw3.PriorPlays'. -/
def priorPlaysCard : Claim7 := { stood := { row := priorPlaysRow, standIns := [], harness := (true, "d9c6a5a71602726a324121bbb8f29cba49710a0fea819a09d41bf4febc1b12ef"), looks := true }, kinds := [], alts := [], laidByText := true, laidKinds := [.handle], laidTests := true, laidLooks := .later }
def PriorPlaysCardSaid : Prop := Claim7.holds Tryd.pinned (.plain (OpenSpec.ofChange priorPlaysSpec)) priorPlaysCard

/-- THE TIED CARD OF 'whensteadlaw3.ViewDanger'. -/
def viewDangerCard : Claim7 := { stood := { row := viewDangerRow, standIns := [], harness := (true, "d9c6a5a71602726a324121bbb8f29cba49710a0fea819a09d41bf4febc1b12ef"), looks := true }, kinds := [], alts := [], laidByText := true, laidKinds := [.data, .data], laidTests := true, laidLooks := .later }
def ViewDangerCardSaid : Prop := Claim7.holds Tryd.pinned (.plain (OpenSpec.ofChange viewDangerSpec)) viewDangerCard

/-- THE TIED CARD OF 'whensteadlaw3.ViewRow'. -/
def viewRowCard : Claim7 := { stood := { row := viewRowRow, standIns := [], harness := (true, "d9c6a5a71602726a324121bbb8f29cba49710a0fea819a09d41bf4febc1b12ef"), looks := true }, kinds := [], alts := [], laidByText := true, laidKinds := [.data, .data], laidTests := true, laidLooks := .later }
def ViewRowCardSaid : Prop := Claim7.holds Tryd.pinned (.plain (OpenSpec.ofChange viewRowSpec)) viewRowCard

/-- THE TIED CARD OF 'whensteadlaw3.ViewFirst'. -/
def viewFirstCard : Claim7 := { stood := { row := viewFirstRow, standIns := [], harness := (true, "d9c6a5a71602726a324121bbb8f29cba49710a0fea819a09d41bf4febc1b12ef"), looks := true }, kinds := [], alts := [], laidByText := true, laidKinds := [.data, .data], laidTests := true, laidLooks := .later }
def ViewFirstCardSaid : Prop := Claim7.holds Tryd.pinned (.plain (OpenSpec.ofChange viewFirstSpec)) viewFirstCard

/-- THE TIED CARD OF 'whensteadlaw3.LockApart'. -/
def lockApartCard : Claim7 := { stood := { row := lockApartRow, standIns := [], harness := (true, "d9c6a5a71602726a324121bbb8f29cba49710a0fea819a09d41bf4febc1b12ef"), looks := true }, kinds := [], alts := [], laidByText := true, laidKinds := [.handle], laidTests := true, laidLooks := .later }
def LockApartCardSaid : Prop := Claim7.holds Tryd.pinned (.plain (OpenSpec.ofChange lockApartSpec)) lockApartCard

/-- THE TIED CARD OF 'whensteadlaw3.LockStuck'. -/
def lockStuckCard : Claim7 := { stood := { row := lockStuckRow, standIns := [], harness := (true, "d9c6a5a71602726a324121bbb8f29cba49710a0fea819a09d41bf4febc1b12ef"), looks := true }, kinds := [], alts := [], laidByText := true, laidKinds := [.handle], laidTests := true, laidLooks := .later }
def LockStuckCardSaid : Prop := Claim7.holds Tryd.pinned (.plain (OpenSpec.ofChange lockStuckSpec)) lockStuckCard

/-- THE TIED CARD OF 'whensteadlaw3.LockPlays'. -/
def lockPlaysCard : Claim7 := { stood := { row := lockPlaysRow, standIns := [], harness := (true, "d9c6a5a71602726a324121bbb8f29cba49710a0fea819a09d41bf4febc1b12ef"), looks := true }, kinds := [], alts := [], laidByText := true, laidKinds := [.handle], laidTests := true, laidLooks := .later }
def LockPlaysCardSaid : Prop := Claim7.holds Tryd.pinned (.plain (OpenSpec.ofChange lockPlaysSpec)) lockPlaysCard

/-- THE TIED CARD OF 'whensteadlaw3.PriorOrder'. -/
def priorOrderCard : Claim7 := { stood := { row := priorOrderRow, standIns := [], harness := (true, "d9c6a5a71602726a324121bbb8f29cba49710a0fea819a09d41bf4febc1b12ef"), looks := true }, kinds := [], alts := [], laidByText := true, laidKinds := [.handle], laidTests := true, laidLooks := .later }
def PriorOrderCardSaid : Prop := Claim7.holds Tryd.pinned (.plain (OpenSpec.ofChange priorOrderSpec)) priorOrderCard

/-- THE TIED CARD OF 'whensteadlaw3.LockTwo'. -/
def lockTwoCard : Claim7 := { stood := { row := lockTwoRow, standIns := [], harness := (true, "d9c6a5a71602726a324121bbb8f29cba49710a0fea819a09d41bf4febc1b12ef"), looks := true }, kinds := [], alts := [], laidByText := true, laidKinds := [.handle], laidTests := true, laidLooks := .later }
def LockTwoCardSaid : Prop := Claim7.holds Tryd.pinned (.plain (OpenSpec.ofChange lockTwoSpec)) lockTwoCard

/-- THE TIED CARD OF 'whensteadlaw3.SchedSays'. -/
def schedSaysCard : Claim7 := { stood := { row := schedSaysRow, standIns := [], harness := (true, "d9c6a5a71602726a324121bbb8f29cba49710a0fea819a09d41bf4febc1b12ef"), looks := true }, kinds := [], alts := [], laidByText := true, laidKinds := [.handle], laidTests := true, laidLooks := .later }
def SchedSaysCardSaid : Prop := Claim7.holds Tryd.pinned (.plain (OpenSpec.ofChange schedSaysSpec)) schedSaysCard

/-- THE TIED CARD OF 'whensteadlaw3.ViewPlays'. -/
def viewPlaysCard : Claim7 := { stood := { row := viewPlaysRow, standIns := [], harness := (true, "d9c6a5a71602726a324121bbb8f29cba49710a0fea819a09d41bf4febc1b12ef"), looks := true }, kinds := [], alts := [], laidByText := true, laidKinds := [.data, .data, .handle], laidTests := true, laidLooks := .later }
def ViewPlaysCardSaid : Prop := Claim7.holds Tryd.pinned (.plain (OpenSpec.ofChange viewPlaysSpec)) viewPlaysCard

/-- THE SECOND FORM's CARD OF 'whensteadlaw3.PriorSkips'. -/
def priorSkipsUptoCard : Claim7 := { stood := { row := priorSkipsUptoRow, standIns := [], harness := (true, "d9c6a5a71602726a324121bbb8f29cba49710a0fea819a09d41bf4febc1b12ef"), looks := true }, kinds := [], alts := [], laidByText := true, laidKinds := [.handle], laidTests := true, laidLooks := .later }
def PriorSkipsUptoCardSaid : Prop := Claim7.holds Tryd.pinned (.plain (OpenSpec.upto priorSkipsSpec)) priorSkipsUptoCard

/-- THE SECOND FORM's CARD OF 'whensteadlaw3.PriorPlays'. -/
def priorPlaysUptoCard : Claim7 := { stood := { row := priorPlaysUptoRow, standIns := [], harness := (true, "d9c6a5a71602726a324121bbb8f29cba49710a0fea819a09d41bf4febc1b12ef"), looks := true }, kinds := [], alts := [], laidByText := true, laidKinds := [.handle], laidTests := true, laidLooks := .later }
def PriorPlaysUptoCardSaid : Prop := Claim7.holds Tryd.pinned (.plain (OpenSpec.upto priorPlaysSpec)) priorPlaysUptoCard

/-- THE SECOND FORM's CARD OF 'whensteadlaw3.ViewDanger'. -/
def viewDangerUptoCard : Claim7 := { stood := { row := viewDangerUptoRow, standIns := [], harness := (true, "d9c6a5a71602726a324121bbb8f29cba49710a0fea819a09d41bf4febc1b12ef"), looks := true }, kinds := [], alts := [], laidByText := true, laidKinds := [.data, .data], laidTests := true, laidLooks := .later }
def ViewDangerUptoCardSaid : Prop := Claim7.holds Tryd.pinned (.plain (OpenSpec.upto viewDangerSpec)) viewDangerUptoCard

/-- THE SECOND FORM's CARD OF 'whensteadlaw3.ViewRow'. -/
def viewRowUptoCard : Claim7 := { stood := { row := viewRowUptoRow, standIns := [], harness := (true, "d9c6a5a71602726a324121bbb8f29cba49710a0fea819a09d41bf4febc1b12ef"), looks := true }, kinds := [], alts := [], laidByText := true, laidKinds := [.data, .data], laidTests := true, laidLooks := .later }
def ViewRowUptoCardSaid : Prop := Claim7.holds Tryd.pinned (.plain (OpenSpec.upto viewRowSpec)) viewRowUptoCard

/-- THE SECOND FORM's CARD OF 'whensteadlaw3.ViewFirst'. -/
def viewFirstUptoCard : Claim7 := { stood := { row := viewFirstUptoRow, standIns := [], harness := (true, "d9c6a5a71602726a324121bbb8f29cba49710a0fea819a09d41bf4febc1b12ef"), looks := true }, kinds := [], alts := [], laidByText := true, laidKinds := [.data, .data], laidTests := true, laidLooks := .later }
def ViewFirstUptoCardSaid : Prop := Claim7.holds Tryd.pinned (.plain (OpenSpec.upto viewFirstSpec)) viewFirstUptoCard

/-- THE SECOND FORM's CARD OF 'whensteadlaw3.LockApart'. -/
def lockApartUptoCard : Claim7 := { stood := { row := lockApartUptoRow, standIns := [], harness := (true, "d9c6a5a71602726a324121bbb8f29cba49710a0fea819a09d41bf4febc1b12ef"), looks := true }, kinds := [], alts := [], laidByText := true, laidKinds := [.handle], laidTests := true, laidLooks := .later }
def LockApartUptoCardSaid : Prop := Claim7.holds Tryd.pinned (.plain (OpenSpec.upto lockApartSpec)) lockApartUptoCard

/-- THE SECOND FORM's CARD OF 'whensteadlaw3.LockStuck'. -/
def lockStuckUptoCard : Claim7 := { stood := { row := lockStuckUptoRow, standIns := [], harness := (true, "d9c6a5a71602726a324121bbb8f29cba49710a0fea819a09d41bf4febc1b12ef"), looks := true }, kinds := [], alts := [], laidByText := true, laidKinds := [.handle], laidTests := true, laidLooks := .later }
def LockStuckUptoCardSaid : Prop := Claim7.holds Tryd.pinned (.plain (OpenSpec.upto lockStuckSpec)) lockStuckUptoCard

/-- THE SECOND FORM's CARD OF 'whensteadlaw3.LockPlays'. -/
def lockPlaysUptoCard : Claim7 := { stood := { row := lockPlaysUptoRow, standIns := [], harness := (true, "d9c6a5a71602726a324121bbb8f29cba49710a0fea819a09d41bf4febc1b12ef"), looks := true }, kinds := [], alts := [], laidByText := true, laidKinds := [.handle], laidTests := true, laidLooks := .later }
def LockPlaysUptoCardSaid : Prop := Claim7.holds Tryd.pinned (.plain (OpenSpec.upto lockPlaysSpec)) lockPlaysUptoCard

/-- THE SECOND FORM's CARD OF 'whensteadlaw3.PriorOrder'. -/
def priorOrderUptoCard : Claim7 := { stood := { row := priorOrderUptoRow, standIns := [], harness := (true, "d9c6a5a71602726a324121bbb8f29cba49710a0fea819a09d41bf4febc1b12ef"), looks := true }, kinds := [], alts := [], laidByText := true, laidKinds := [.handle], laidTests := true, laidLooks := .later }
def PriorOrderUptoCardSaid : Prop := Claim7.holds Tryd.pinned (.plain (OpenSpec.upto priorOrderSpec)) priorOrderUptoCard

/-- THE SECOND FORM's CARD OF 'whensteadlaw3.LockTwo'. -/
def lockTwoUptoCard : Claim7 := { stood := { row := lockTwoUptoRow, standIns := [], harness := (true, "d9c6a5a71602726a324121bbb8f29cba49710a0fea819a09d41bf4febc1b12ef"), looks := true }, kinds := [], alts := [], laidByText := true, laidKinds := [.handle], laidTests := true, laidLooks := .later }
def LockTwoUptoCardSaid : Prop := Claim7.holds Tryd.pinned (.plain (OpenSpec.upto lockTwoSpec)) lockTwoUptoCard

/-- THE SECOND FORM's CARD OF 'whensteadlaw3.SchedSays'. -/
def schedSaysUptoCard : Claim7 := { stood := { row := schedSaysUptoRow, standIns := [], harness := (true, "d9c6a5a71602726a324121bbb8f29cba49710a0fea819a09d41bf4febc1b12ef"), looks := true }, kinds := [], alts := [], laidByText := true, laidKinds := [.handle], laidTests := true, laidLooks := .later }
def SchedSaysUptoCardSaid : Prop := Claim7.holds Tryd.pinned (.plain (OpenSpec.upto schedSaysSpec)) schedSaysUptoCard

/-- THE SECOND FORM's CARD OF 'whensteadlaw3.ViewPlays'. -/
def viewPlaysUptoCard : Claim7 := { stood := { row := viewPlaysUptoRow, standIns := [], harness := (true, "d9c6a5a71602726a324121bbb8f29cba49710a0fea819a09d41bf4febc1b12ef"), looks := true }, kinds := [], alts := [], laidByText := true, laidKinds := [.data, .data, .handle], laidTests := true, laidLooks := .later }
def ViewPlaysUptoCardSaid : Prop := Claim7.holds Tryd.pinned (.plain (OpenSpec.upto viewPlaysSpec)) viewPlaysUptoCard
end Rows
end Go.Proofs.YtkindaadadggoaaDoor
