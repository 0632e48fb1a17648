/-
  NARROWER THAN 'FOR EVERY INPUT', by the rows' own cells (each row's printed sentence says how): PriorSkips: laid · PriorPlays: laid · ViewDanger: laid · ViewRow: laid · ViewFirst: laid · LockApart: laid · LockStuck: laid · LockPlays: laid · PriorOrder: laid · LockTwo: laid · SchedSays: laid · ViewPlays: laid.
  DERIVED. THE GIVEN ROWS OF THIS SEAT. 12 by the template 'for every input the law returns true; each argument reads behind the call as it read before'; 0 by the template 'total and deterministic' (their statements: YtkindaadadggoaaDoorTotals.lean).
  GIVEN WITH THE SEED: the statements are not yours to turn. If you find one false, say at which input.
  Laid BY PROGRAM, IN A SANDBOX (cutbox-rows.mjs): the forced cells as the released guide's own fill.sh prints them over the translation afb0125dc6ad5a0b… (all of the seat's roots in one cut). By AI agents, Wed Nov 11 2026. No macro, syntax, notation, axiom, sorry.
-/
import Derived.Test.YtkindaadadggoaaDoorChecked
import GoSem.Claim
import GoSem.ClaimJoined
import GoSem.ClaimMapViews
import Derived.JoinedTies
import Derived.KernelRfl
namespace Go.Proofs.YtkindaadadggoaaDoor
/- THE CELL 'sum', in the pinned program and in every row, IS THE sha256 OF THE DUMP (.gsa) THAT YtkindaadadggoaaDoorProg.lean LOADS. Nothing in Lean hashes anything: it is a label: what it is worth is what the hold of that sum in a sandbox is worth. -/
noncomputable def Tryd.pinned : Pinned := { name := "ytkindaadadggoaadoor", sum := "afb0125dc6ad5a0b67492d935e6c5f460e3def12833f9a4fab51075c2338da12", checked := Tryd.checked }
namespace Rows
def none {H : Type} : Left H := { results := [], args := [] }

/- WHAT THE LISTED PACKAGE-LEVEL VARIABLES READ AS WHEN THE CALL BEGINS. Each datum BY PROGRAM (the guide's laid-datum.mjs) off the statement by which the dump's own 'gosem.cut.vars' lays the variable. In a bare row this is a premise. The card (YtkindaadadggoaaDoorCards.lean) ties it to the program's text. -/
def laid_errors_errorType {H : Type} : DataW H := .iface "internal/reflectlite.rtype" (.agg [.ptr (.lit (.string [101, 114, 114, 111, 114]))])
def laid_math_bits_deBruijn32tab {H : Type} : DataW H := .agg [.lit (.int .u8 0), .lit (.int .u8 1), .lit (.int .u8 28), .lit (.int .u8 2), .lit (.int .u8 29), .lit (.int .u8 14), .lit (.int .u8 24), .lit (.int .u8 3), .lit (.int .u8 30), .lit (.int .u8 22), .lit (.int .u8 20), .lit (.int .u8 15), .lit (.int .u8 25), .lit (.int .u8 17), .lit (.int .u8 4), .lit (.int .u8 8), .lit (.int .u8 31), .lit (.int .u8 27), .lit (.int .u8 13), .lit (.int .u8 23), .lit (.int .u8 21), .lit (.int .u8 19), .lit (.int .u8 16), .lit (.int .u8 7), .lit (.int .u8 26), .lit (.int .u8 12), .lit (.int .u8 18), .lit (.int .u8 6), .lit (.int .u8 11), .lit (.int .u8 5), .lit (.int .u8 10), .lit (.int .u8 9)]
def laid_math_bits_deBruijn64tab {H : Type} : DataW H := .agg [.lit (.int .u8 0), .lit (.int .u8 1), .lit (.int .u8 56), .lit (.int .u8 2), .lit (.int .u8 57), .lit (.int .u8 49), .lit (.int .u8 28), .lit (.int .u8 3), .lit (.int .u8 61), .lit (.int .u8 58), .lit (.int .u8 42), .lit (.int .u8 50), .lit (.int .u8 38), .lit (.int .u8 29), .lit (.int .u8 17), .lit (.int .u8 4), .lit (.int .u8 62), .lit (.int .u8 47), .lit (.int .u8 59), .lit (.int .u8 36), .lit (.int .u8 45), .lit (.int .u8 43), .lit (.int .u8 51), .lit (.int .u8 22), .lit (.int .u8 53), .lit (.int .u8 39), .lit (.int .u8 33), .lit (.int .u8 30), .lit (.int .u8 24), .lit (.int .u8 18), .lit (.int .u8 12), .lit (.int .u8 5), .lit (.int .u8 63), .lit (.int .u8 55), .lit (.int .u8 48), .lit (.int .u8 27), .lit (.int .u8 60), .lit (.int .u8 41), .lit (.int .u8 37), .lit (.int .u8 16), .lit (.int .u8 46), .lit (.int .u8 35), .lit (.int .u8 44), .lit (.int .u8 21), .lit (.int .u8 52), .lit (.int .u8 32), .lit (.int .u8 23), .lit (.int .u8 11), .lit (.int .u8 54), .lit (.int .u8 26), .lit (.int .u8 40), .lit (.int .u8 15), .lit (.int .u8 34), .lit (.int .u8 20), .lit (.int .u8 31), .lit (.int .u8 10), .lit (.int .u8 25), .lit (.int .u8 14), .lit (.int .u8 19), .lit (.int .u8 9), .lit (.int .u8 13), .lit (.int .u8 8), .lit (.int .u8 7), .lit (.int .u8 6)]

/-- 'whensteadlaw3.PriorSkips': WHATEVER THE INPUT: true; the input reads as it did. -/
def priorSkipsSpec : ChangeSpec := { name := "priorSkips", fn := fun _ => fun
  | [d] => { results := [.lit (.bool true)], args := [d] }
  | _ => none }
def priorSkipsRow : OpenClaim := { program := "ytkindaadadggoaadoor", sum := "afb0125dc6ad5a0b67492d935e6c5f460e3def12833f9a4fab51075c2338da12", func := "whenstead/whensteadlaw3.PriorSkips", spec := "priorSkips", inPlace := ["internal/reflectlite.ValueOf", "(internal/reflectlite.Value).Type", "(internal/reflectlite.Value).IsNil", "internal/reflectlite.TypeOf", "(internal/reflectlite.Value).Elem", "(internal/reflectlite.Value).Set"], unfollowed := true, recurses := true, named := ["errors.errorType"], apart := false, laid := [("errors.errorType", laid_errors_errorType)] }
def PriorSkipsSaid : Prop := priorSkipsRow.holds Tryd.pinned (OpenSpec.ofChange priorSkipsSpec)

/-- ITS FALSE NEIGHBOUR: 'it returns false'. Refute it at one input. -/
def priorSkipsWrong : ChangeSpec := { name := "priorSkips", fn := fun _ => fun
  | [d] => { results := [.lit (.bool false)], args := [d] }
  | _ => none }
def PriorSkipsWrongFalsely : Prop := priorSkipsRow.holds Tryd.pinned (OpenSpec.ofChange priorSkipsWrong)

/-- 'whensteadlaw3.PriorPlays': WHATEVER THE INPUT: true; the input reads as it did. -/
def priorPlaysSpec : ChangeSpec := { name := "priorPlays", fn := fun _ => fun
  | [d1, d2] => { results := [.lit (.bool true)], args := [d1, d2] }
  | _ => none }
def priorPlaysRow : OpenClaim := { program := "ytkindaadadggoaadoor", sum := "afb0125dc6ad5a0b67492d935e6c5f460e3def12833f9a4fab51075c2338da12", func := "whenstead/whensteadlaw3.PriorPlays", spec := "priorPlays", inPlace := ["internal/reflectlite.ValueOf", "(internal/reflectlite.Value).Type", "(internal/reflectlite.Value).IsNil", "internal/reflectlite.TypeOf", "(internal/reflectlite.Value).Elem", "(internal/reflectlite.Value).Set"], unfollowed := true, recurses := true, named := ["errors.errorType"], apart := false, laid := [("errors.errorType", laid_errors_errorType)] }
def PriorPlaysSaid : Prop := priorPlaysRow.holds Tryd.pinned (OpenSpec.ofChange priorPlaysSpec)

/-- ITS FALSE NEIGHBOUR: 'it returns false'. Refute it at one input. -/
def priorPlaysWrong : ChangeSpec := { name := "priorPlays", fn := fun _ => fun
  | [d1, d2] => { results := [.lit (.bool false)], args := [d1, d2] }
  | _ => none }
def PriorPlaysWrongFalsely : Prop := priorPlaysRow.holds Tryd.pinned (OpenSpec.ofChange priorPlaysWrong)

/-- 'whensteadlaw3.ViewDanger': WHATEVER THE INPUT: true; the input reads as it did. -/
def viewDangerSpec : ChangeSpec := { name := "viewDanger", fn := fun _ => fun
  | [d] => { results := [.lit (.bool true)], args := [d] }
  | _ => none }
def viewDangerRow : OpenClaim := { program := "ytkindaadadggoaadoor", sum := "afb0125dc6ad5a0b67492d935e6c5f460e3def12833f9a4fab51075c2338da12", func := "whenstead/whensteadlaw3.ViewDanger", spec := "viewDanger", unfollowed := true, recurses := true, named := ["math/bits.deBruijn32tab", "math/bits.deBruijn64tab"], apart := false, laid := [("math/bits.deBruijn32tab", laid_math_bits_deBruijn32tab), ("math/bits.deBruijn64tab", laid_math_bits_deBruijn64tab)] }
def ViewDangerSaid : Prop := viewDangerRow.holds Tryd.pinned (OpenSpec.ofChange viewDangerSpec)

/-- ITS FALSE NEIGHBOUR: 'it returns false'. Refute it at one input. -/
def viewDangerWrong : ChangeSpec := { name := "viewDanger", fn := fun _ => fun
  | [d] => { results := [.lit (.bool false)], args := [d] }
  | _ => none }
def ViewDangerWrongFalsely : Prop := viewDangerRow.holds Tryd.pinned (OpenSpec.ofChange viewDangerWrong)

/-- 'whensteadlaw3.ViewRow': WHATEVER THE INPUT: true; the input reads as it did. -/
def viewRowSpec : ChangeSpec := { name := "viewRow", fn := fun _ => fun
  | [d] => { results := [.lit (.bool true)], args := [d] }
  | _ => none }
def viewRowRow : OpenClaim := { program := "ytkindaadadggoaadoor", sum := "afb0125dc6ad5a0b67492d935e6c5f460e3def12833f9a4fab51075c2338da12", func := "whenstead/whensteadlaw3.ViewRow", spec := "viewRow", unfollowed := true, recurses := true, named := ["math/bits.deBruijn32tab", "math/bits.deBruijn64tab"], apart := false, laid := [("math/bits.deBruijn32tab", laid_math_bits_deBruijn32tab), ("math/bits.deBruijn64tab", laid_math_bits_deBruijn64tab)] }
def ViewRowSaid : Prop := viewRowRow.holds Tryd.pinned (OpenSpec.ofChange viewRowSpec)

/-- ITS FALSE NEIGHBOUR: 'it returns false'. Refute it at one input. -/
def viewRowWrong : ChangeSpec := { name := "viewRow", fn := fun _ => fun
  | [d] => { results := [.lit (.bool false)], args := [d] }
  | _ => none }
def ViewRowWrongFalsely : Prop := viewRowRow.holds Tryd.pinned (OpenSpec.ofChange viewRowWrong)

/-- 'whensteadlaw3.ViewFirst': WHATEVER THE INPUT: true; the input reads as it did. -/
def viewFirstSpec : ChangeSpec := { name := "viewFirst", fn := fun _ => fun
  | [d] => { results := [.lit (.bool true)], args := [d] }
  | _ => none }
def viewFirstRow : OpenClaim := { program := "ytkindaadadggoaadoor", sum := "afb0125dc6ad5a0b67492d935e6c5f460e3def12833f9a4fab51075c2338da12", func := "whenstead/whensteadlaw3.ViewFirst", spec := "viewFirst", unfollowed := true, recurses := true, named := ["math/bits.deBruijn32tab", "math/bits.deBruijn64tab"], apart := false, laid := [("math/bits.deBruijn32tab", laid_math_bits_deBruijn32tab), ("math/bits.deBruijn64tab", laid_math_bits_deBruijn64tab)] }
def ViewFirstSaid : Prop := viewFirstRow.holds Tryd.pinned (OpenSpec.ofChange viewFirstSpec)

/-- ITS FALSE NEIGHBOUR: 'it returns false'. Refute it at one input. -/
def viewFirstWrong : ChangeSpec := { name := "viewFirst", fn := fun _ => fun
  | [d] => { results := [.lit (.bool false)], args := [d] }
  | _ => none }
def ViewFirstWrongFalsely : Prop := viewFirstRow.holds Tryd.pinned (OpenSpec.ofChange viewFirstWrong)

/-- 'whensteadlaw3.LockApart': WHATEVER THE INPUT: true; the input reads as it did. -/
def lockApartSpec : ChangeSpec := { name := "lockApart", fn := fun _ => fun
  | [d] => { results := [.lit (.bool true)], args := [d] }
  | _ => none }
def lockApartRow : OpenClaim := { program := "ytkindaadadggoaadoor", sum := "afb0125dc6ad5a0b67492d935e6c5f460e3def12833f9a4fab51075c2338da12", func := "whenstead/whensteadlaw3.LockApart", spec := "lockApart", inPlace := ["internal/reflectlite.ValueOf", "(internal/reflectlite.Value).Type", "(internal/reflectlite.Value).IsNil", "internal/reflectlite.TypeOf", "(internal/reflectlite.Value).Elem", "(internal/reflectlite.Value).Set"], unfollowed := true, recurses := true, named := ["errors.errorType"], apart := false, laid := [("errors.errorType", laid_errors_errorType)] }
def LockApartSaid : Prop := lockApartRow.holds Tryd.pinned (OpenSpec.ofChange lockApartSpec)

/-- ITS FALSE NEIGHBOUR: 'it returns false'. Refute it at one input. -/
def lockApartWrong : ChangeSpec := { name := "lockApart", fn := fun _ => fun
  | [d] => { results := [.lit (.bool false)], args := [d] }
  | _ => none }
def LockApartWrongFalsely : Prop := lockApartRow.holds Tryd.pinned (OpenSpec.ofChange lockApartWrong)

/-- 'whensteadlaw3.LockStuck': WHATEVER THE INPUT: true; the input reads as it did. -/
def lockStuckSpec : ChangeSpec := { name := "lockStuck", fn := fun _ => fun
  | [d1, d2] => { results := [.lit (.bool true)], args := [d1, d2] }
  | _ => none }
def lockStuckRow : OpenClaim := { program := "ytkindaadadggoaadoor", sum := "afb0125dc6ad5a0b67492d935e6c5f460e3def12833f9a4fab51075c2338da12", func := "whenstead/whensteadlaw3.LockStuck", spec := "lockStuck", inPlace := ["internal/reflectlite.ValueOf", "(internal/reflectlite.Value).Type", "(internal/reflectlite.Value).IsNil", "internal/reflectlite.TypeOf", "(internal/reflectlite.Value).Elem", "(internal/reflectlite.Value).Set"], unfollowed := true, recurses := true, named := ["errors.errorType"], apart := false, laid := [("errors.errorType", laid_errors_errorType)] }
def LockStuckSaid : Prop := lockStuckRow.holds Tryd.pinned (OpenSpec.ofChange lockStuckSpec)

/-- ITS FALSE NEIGHBOUR: 'it returns false'. Refute it at one input. -/
def lockStuckWrong : ChangeSpec := { name := "lockStuck", fn := fun _ => fun
  | [d1, d2] => { results := [.lit (.bool false)], args := [d1, d2] }
  | _ => none }
def LockStuckWrongFalsely : Prop := lockStuckRow.holds Tryd.pinned (OpenSpec.ofChange lockStuckWrong)

/-- 'whensteadlaw3.LockPlays': WHATEVER THE INPUT: true; the input reads as it did. -/
def lockPlaysSpec : ChangeSpec := { name := "lockPlays", fn := fun _ => fun
  | [d] => { results := [.lit (.bool true)], args := [d] }
  | _ => none }
def lockPlaysRow : OpenClaim := { program := "ytkindaadadggoaadoor", sum := "afb0125dc6ad5a0b67492d935e6c5f460e3def12833f9a4fab51075c2338da12", func := "whenstead/whensteadlaw3.LockPlays", spec := "lockPlays", inPlace := ["internal/reflectlite.ValueOf", "(internal/reflectlite.Value).Type", "(internal/reflectlite.Value).IsNil", "internal/reflectlite.TypeOf", "(internal/reflectlite.Value).Elem", "(internal/reflectlite.Value).Set"], unfollowed := true, recurses := true, named := ["errors.errorType"], apart := false, laid := [("errors.errorType", laid_errors_errorType)] }
def LockPlaysSaid : Prop := lockPlaysRow.holds Tryd.pinned (OpenSpec.ofChange lockPlaysSpec)

/-- ITS FALSE NEIGHBOUR: 'it returns false'. Refute it at one input. -/
def lockPlaysWrong : ChangeSpec := { name := "lockPlays", fn := fun _ => fun
  | [d] => { results := [.lit (.bool false)], args := [d] }
  | _ => none }
def LockPlaysWrongFalsely : Prop := lockPlaysRow.holds Tryd.pinned (OpenSpec.ofChange lockPlaysWrong)

/-- 'whensteadlaw3.PriorOrder': WHATEVER THE INPUT: true; the input reads as it did. -/
def priorOrderSpec : ChangeSpec := { name := "priorOrder", fn := fun _ => fun
  | [d1, d2] => { results := [.lit (.bool true)], args := [d1, d2] }
  | _ => none }
def priorOrderRow : OpenClaim := { program := "ytkindaadadggoaadoor", sum := "afb0125dc6ad5a0b67492d935e6c5f460e3def12833f9a4fab51075c2338da12", func := "whenstead/whensteadlaw3.PriorOrder", spec := "priorOrder", inPlace := ["internal/reflectlite.ValueOf", "(internal/reflectlite.Value).Type", "(internal/reflectlite.Value).IsNil", "internal/reflectlite.TypeOf", "(internal/reflectlite.Value).Elem", "(internal/reflectlite.Value).Set"], unfollowed := true, recurses := true, named := ["errors.errorType"], apart := false, laid := [("errors.errorType", laid_errors_errorType)] }
def PriorOrderSaid : Prop := priorOrderRow.holds Tryd.pinned (OpenSpec.ofChange priorOrderSpec)

/-- ITS FALSE NEIGHBOUR: 'it returns false'. Refute it at one input. -/
def priorOrderWrong : ChangeSpec := { name := "priorOrder", fn := fun _ => fun
  | [d1, d2] => { results := [.lit (.bool false)], args := [d1, d2] }
  | _ => none }
def PriorOrderWrongFalsely : Prop := priorOrderRow.holds Tryd.pinned (OpenSpec.ofChange priorOrderWrong)

/-- 'whensteadlaw3.LockTwo': WHATEVER THE INPUT: true; the input reads as it did. -/
def lockTwoSpec : ChangeSpec := { name := "lockTwo", fn := fun _ => fun
  | [d] => { results := [.lit (.bool true)], args := [d] }
  | _ => none }
def lockTwoRow : OpenClaim := { program := "ytkindaadadggoaadoor", sum := "afb0125dc6ad5a0b67492d935e6c5f460e3def12833f9a4fab51075c2338da12", func := "whenstead/whensteadlaw3.LockTwo", spec := "lockTwo", inPlace := ["internal/reflectlite.ValueOf", "(internal/reflectlite.Value).Type", "(internal/reflectlite.Value).IsNil", "internal/reflectlite.TypeOf", "(internal/reflectlite.Value).Elem", "(internal/reflectlite.Value).Set"], unfollowed := true, recurses := true, named := ["errors.errorType"], apart := false, laid := [("errors.errorType", laid_errors_errorType)] }
def LockTwoSaid : Prop := lockTwoRow.holds Tryd.pinned (OpenSpec.ofChange lockTwoSpec)

/-- ITS FALSE NEIGHBOUR: 'it returns false'. Refute it at one input. -/
def lockTwoWrong : ChangeSpec := { name := "lockTwo", fn := fun _ => fun
  | [d] => { results := [.lit (.bool false)], args := [d] }
  | _ => none }
def LockTwoWrongFalsely : Prop := lockTwoRow.holds Tryd.pinned (OpenSpec.ofChange lockTwoWrong)

/-- 'whensteadlaw3.SchedSays': WHATEVER THE INPUT: true; the input reads as it did. -/
def schedSaysSpec : ChangeSpec := { name := "schedSays", fn := fun _ => fun
  | [d1, d2] => { results := [.lit (.bool true)], args := [d1, d2] }
  | _ => none }
def schedSaysRow : OpenClaim := { program := "ytkindaadadggoaadoor", sum := "afb0125dc6ad5a0b67492d935e6c5f460e3def12833f9a4fab51075c2338da12", func := "whenstead/whensteadlaw3.SchedSays", spec := "schedSays", inPlace := ["internal/reflectlite.ValueOf", "(internal/reflectlite.Value).Type", "(internal/reflectlite.Value).IsNil", "internal/reflectlite.TypeOf", "(internal/reflectlite.Value).Elem", "(internal/reflectlite.Value).Set"], unfollowed := true, recurses := true, named := ["errors.errorType"], apart := false, laid := [("errors.errorType", laid_errors_errorType)] }
def SchedSaysSaid : Prop := schedSaysRow.holds Tryd.pinned (OpenSpec.ofChange schedSaysSpec)

/-- ITS FALSE NEIGHBOUR: 'it returns false'. Refute it at one input. -/
def schedSaysWrong : ChangeSpec := { name := "schedSays", fn := fun _ => fun
  | [d1, d2] => { results := [.lit (.bool false)], args := [d1, d2] }
  | _ => none }
def SchedSaysWrongFalsely : Prop := schedSaysRow.holds Tryd.pinned (OpenSpec.ofChange schedSaysWrong)

/-- 'whensteadlaw3.ViewPlays': WHATEVER THE INPUT: true; the input reads as it did. -/
def viewPlaysSpec : ChangeSpec := { name := "viewPlays", fn := fun _ => fun
  | [d] => { results := [.lit (.bool true)], args := [d] }
  | _ => none }
def viewPlaysRow : OpenClaim := { program := "ytkindaadadggoaadoor", sum := "afb0125dc6ad5a0b67492d935e6c5f460e3def12833f9a4fab51075c2338da12", func := "whenstead/whensteadlaw3.ViewPlays", spec := "viewPlays", inPlace := ["internal/reflectlite.ValueOf", "(internal/reflectlite.Value).Type", "(internal/reflectlite.Value).IsNil", "internal/reflectlite.TypeOf", "(internal/reflectlite.Value).Elem", "(internal/reflectlite.Value).Set"], unfollowed := true, recurses := true, named := ["math/bits.deBruijn32tab", "math/bits.deBruijn64tab", "errors.errorType"], apart := false, laid := [("math/bits.deBruijn32tab", laid_math_bits_deBruijn32tab), ("math/bits.deBruijn64tab", laid_math_bits_deBruijn64tab), ("errors.errorType", laid_errors_errorType)] }
def ViewPlaysSaid : Prop := viewPlaysRow.holds Tryd.pinned (OpenSpec.ofChange viewPlaysSpec)

/-- ITS FALSE NEIGHBOUR: 'it returns false'. Refute it at one input. -/
def viewPlaysWrong : ChangeSpec := { name := "viewPlays", fn := fun _ => fun
  | [d] => { results := [.lit (.bool false)], args := [d] }
  | _ => none }
def ViewPlaysWrongFalsely : Prop := viewPlaysRow.holds Tryd.pinned (OpenSpec.ofChange viewPlaysWrong)

/- THE SECOND FORM. 'bulk': how many values and letters a reading holds, each counted each time it is reached (what is shared counts as often as it is met; a slice's spare places count too). A statement '..UptoSaid' is the law's where the arguments, and the package variables that the reading takes, are together of bulk at most 1048576: NARROWER than '..Said'. Prove '..Said' where nothing that the law and all that it calls make is longer than what came in: it says more and counts as full. Else prove '..UptoSaid'. A law counts once. -/
mutual
def uptoBulk {H : Type} : DataW H → Nat
  | .lit (.string bytes) => bytes.length + 1
  | .lit _ => 1
  | .nil => 1
  | .ptr d => uptoBulk d + 1
  | .slice elems spare => uptoBulkAll elems + uptoBulkAll spare + 1
  | .agg parts => uptoBulkAll parts + 1
  | .iface _ d => uptoBulk d + 1
  | .map entries => uptoBulkEntries entries + 1
  | .held _ => 1
def uptoBulkAll {H : Type} : List (DataW H) → Nat
  | [] => 0
  | d :: r => uptoBulk d + uptoBulkAll r
def uptoBulkEntries {H : Type} : List (Lit × DataW H) → Nat
  | [] => 0
  | x :: r => uptoBulkEntry x + uptoBulkEntries r
def uptoBulkEntry {H : Type} : Lit × DataW H → Nat
  | (.string bytes, d) => bytes.length + uptoBulk d + 1
  | (_, d) => uptoBulk d + 1
 end
def uptoSmall : (H : Type) → List (DataW H) → Bool := fun _ ds => decide (uptoBulkAll ds ≤ 1048576)
def OpenSpec.upto (s : _root_.Go.ChangeSpec) : _root_.Go.OpenSpec := { _root_.Go.OpenSpec.ofChange s with cond := some uptoSmall }

/-- 'whensteadlaw3.PriorSkips', WHERE WHAT IT READS IS OF BULK AT MOST 1048576: true; the input reads as it did. -/
def priorSkipsUptoRow : OpenClaim := { program := "ytkindaadadggoaadoor", sum := "afb0125dc6ad5a0b67492d935e6c5f460e3def12833f9a4fab51075c2338da12", func := "whenstead/whensteadlaw3.PriorSkips", spec := "priorSkips", inPlace := ["internal/reflectlite.ValueOf", "(internal/reflectlite.Value).Type", "(internal/reflectlite.Value).IsNil", "internal/reflectlite.TypeOf", "(internal/reflectlite.Value).Elem", "(internal/reflectlite.Value).Set"], unfollowed := true, recurses := true, named := ["errors.errorType"], apart := false, laid := [("errors.errorType", laid_errors_errorType)], narrowed := true }
def PriorSkipsUptoSaid : Prop := priorSkipsUptoRow.holds Tryd.pinned (OpenSpec.upto priorSkipsSpec)

/-- 'whensteadlaw3.PriorPlays', WHERE WHAT IT READS IS OF BULK AT MOST 1048576: true; the input reads as it did. -/
def priorPlaysUptoRow : OpenClaim := { program := "ytkindaadadggoaadoor", sum := "afb0125dc6ad5a0b67492d935e6c5f460e3def12833f9a4fab51075c2338da12", func := "whenstead/whensteadlaw3.PriorPlays", spec := "priorPlays", inPlace := ["internal/reflectlite.ValueOf", "(internal/reflectlite.Value).Type", "(internal/reflectlite.Value).IsNil", "internal/reflectlite.TypeOf", "(internal/reflectlite.Value).Elem", "(internal/reflectlite.Value).Set"], unfollowed := true, recurses := true, named := ["errors.errorType"], apart := false, laid := [("errors.errorType", laid_errors_errorType)], narrowed := true }
def PriorPlaysUptoSaid : Prop := priorPlaysUptoRow.holds Tryd.pinned (OpenSpec.upto priorPlaysSpec)

/-- 'whensteadlaw3.ViewDanger', WHERE WHAT IT READS IS OF BULK AT MOST 1048576: true; the input reads as it did. -/
def viewDangerUptoRow : OpenClaim := { program := "ytkindaadadggoaadoor", sum := "afb0125dc6ad5a0b67492d935e6c5f460e3def12833f9a4fab51075c2338da12", func := "whenstead/whensteadlaw3.ViewDanger", spec := "viewDanger", unfollowed := true, recurses := true, named := ["math/bits.deBruijn32tab", "math/bits.deBruijn64tab"], apart := false, laid := [("math/bits.deBruijn32tab", laid_math_bits_deBruijn32tab), ("math/bits.deBruijn64tab", laid_math_bits_deBruijn64tab)], narrowed := true }
def ViewDangerUptoSaid : Prop := viewDangerUptoRow.holds Tryd.pinned (OpenSpec.upto viewDangerSpec)

/-- 'whensteadlaw3.ViewRow', WHERE WHAT IT READS IS OF BULK AT MOST 1048576: true; the input reads as it did. -/
def viewRowUptoRow : OpenClaim := { program := "ytkindaadadggoaadoor", sum := "afb0125dc6ad5a0b67492d935e6c5f460e3def12833f9a4fab51075c2338da12", func := "whenstead/whensteadlaw3.ViewRow", spec := "viewRow", unfollowed := true, recurses := true, named := ["math/bits.deBruijn32tab", "math/bits.deBruijn64tab"], apart := false, laid := [("math/bits.deBruijn32tab", laid_math_bits_deBruijn32tab), ("math/bits.deBruijn64tab", laid_math_bits_deBruijn64tab)], narrowed := true }
def ViewRowUptoSaid : Prop := viewRowUptoRow.holds Tryd.pinned (OpenSpec.upto viewRowSpec)

/-- 'whensteadlaw3.ViewFirst', WHERE WHAT IT READS IS OF BULK AT MOST 1048576: true; the input reads as it did. -/
def viewFirstUptoRow : OpenClaim := { program := "ytkindaadadggoaadoor", sum := "afb0125dc6ad5a0b67492d935e6c5f460e3def12833f9a4fab51075c2338da12", func := "whenstead/whensteadlaw3.ViewFirst", spec := "viewFirst", unfollowed := true, recurses := true, named := ["math/bits.deBruijn32tab", "math/bits.deBruijn64tab"], apart := false, laid := [("math/bits.deBruijn32tab", laid_math_bits_deBruijn32tab), ("math/bits.deBruijn64tab", laid_math_bits_deBruijn64tab)], narrowed := true }
def ViewFirstUptoSaid : Prop := viewFirstUptoRow.holds Tryd.pinned (OpenSpec.upto viewFirstSpec)

/-- 'whensteadlaw3.LockApart', WHERE WHAT IT READS IS OF BULK AT MOST 1048576: true; the input reads as it did. -/
def lockApartUptoRow : OpenClaim := { program := "ytkindaadadggoaadoor", sum := "afb0125dc6ad5a0b67492d935e6c5f460e3def12833f9a4fab51075c2338da12", func := "whenstead/whensteadlaw3.LockApart", spec := "lockApart", inPlace := ["internal/reflectlite.ValueOf", "(internal/reflectlite.Value).Type", "(internal/reflectlite.Value).IsNil", "internal/reflectlite.TypeOf", "(internal/reflectlite.Value).Elem", "(internal/reflectlite.Value).Set"], unfollowed := true, recurses := true, named := ["errors.errorType"], apart := false, laid := [("errors.errorType", laid_errors_errorType)], narrowed := true }
def LockApartUptoSaid : Prop := lockApartUptoRow.holds Tryd.pinned (OpenSpec.upto lockApartSpec)

/-- 'whensteadlaw3.LockStuck', WHERE WHAT IT READS IS OF BULK AT MOST 1048576: true; the input reads as it did. -/
def lockStuckUptoRow : OpenClaim := { program := "ytkindaadadggoaadoor", sum := "afb0125dc6ad5a0b67492d935e6c5f460e3def12833f9a4fab51075c2338da12", func := "whenstead/whensteadlaw3.LockStuck", spec := "lockStuck", inPlace := ["internal/reflectlite.ValueOf", "(internal/reflectlite.Value).Type", "(internal/reflectlite.Value).IsNil", "internal/reflectlite.TypeOf", "(internal/reflectlite.Value).Elem", "(internal/reflectlite.Value).Set"], unfollowed := true, recurses := true, named := ["errors.errorType"], apart := false, laid := [("errors.errorType", laid_errors_errorType)], narrowed := true }
def LockStuckUptoSaid : Prop := lockStuckUptoRow.holds Tryd.pinned (OpenSpec.upto lockStuckSpec)

/-- 'whensteadlaw3.LockPlays', WHERE WHAT IT READS IS OF BULK AT MOST 1048576: true; the input reads as it did. -/
def lockPlaysUptoRow : OpenClaim := { program := "ytkindaadadggoaadoor", sum := "afb0125dc6ad5a0b67492d935e6c5f460e3def12833f9a4fab51075c2338da12", func := "whenstead/whensteadlaw3.LockPlays", spec := "lockPlays", inPlace := ["internal/reflectlite.ValueOf", "(internal/reflectlite.Value).Type", "(internal/reflectlite.Value).IsNil", "internal/reflectlite.TypeOf", "(internal/reflectlite.Value).Elem", "(internal/reflectlite.Value).Set"], unfollowed := true, recurses := true, named := ["errors.errorType"], apart := false, laid := [("errors.errorType", laid_errors_errorType)], narrowed := true }
def LockPlaysUptoSaid : Prop := lockPlaysUptoRow.holds Tryd.pinned (OpenSpec.upto lockPlaysSpec)

/-- 'whensteadlaw3.PriorOrder', WHERE WHAT IT READS IS OF BULK AT MOST 1048576: true; the input reads as it did. -/
def priorOrderUptoRow : OpenClaim := { program := "ytkindaadadggoaadoor", sum := "afb0125dc6ad5a0b67492d935e6c5f460e3def12833f9a4fab51075c2338da12", func := "whenstead/whensteadlaw3.PriorOrder", spec := "priorOrder", inPlace := ["internal/reflectlite.ValueOf", "(internal/reflectlite.Value).Type", "(internal/reflectlite.Value).IsNil", "internal/reflectlite.TypeOf", "(internal/reflectlite.Value).Elem", "(internal/reflectlite.Value).Set"], unfollowed := true, recurses := true, named := ["errors.errorType"], apart := false, laid := [("errors.errorType", laid_errors_errorType)], narrowed := true }
def PriorOrderUptoSaid : Prop := priorOrderUptoRow.holds Tryd.pinned (OpenSpec.upto priorOrderSpec)

/-- 'whensteadlaw3.LockTwo', WHERE WHAT IT READS IS OF BULK AT MOST 1048576: true; the input reads as it did. -/
def lockTwoUptoRow : OpenClaim := { program := "ytkindaadadggoaadoor", sum := "afb0125dc6ad5a0b67492d935e6c5f460e3def12833f9a4fab51075c2338da12", func := "whenstead/whensteadlaw3.LockTwo", spec := "lockTwo", inPlace := ["internal/reflectlite.ValueOf", "(internal/reflectlite.Value).Type", "(internal/reflectlite.Value).IsNil", "internal/reflectlite.TypeOf", "(internal/reflectlite.Value).Elem", "(internal/reflectlite.Value).Set"], unfollowed := true, recurses := true, named := ["errors.errorType"], apart := false, laid := [("errors.errorType", laid_errors_errorType)], narrowed := true }
def LockTwoUptoSaid : Prop := lockTwoUptoRow.holds Tryd.pinned (OpenSpec.upto lockTwoSpec)

/-- 'whensteadlaw3.SchedSays', WHERE WHAT IT READS IS OF BULK AT MOST 1048576: true; the input reads as it did. -/
def schedSaysUptoRow : OpenClaim := { program := "ytkindaadadggoaadoor", sum := "afb0125dc6ad5a0b67492d935e6c5f460e3def12833f9a4fab51075c2338da12", func := "whenstead/whensteadlaw3.SchedSays", spec := "schedSays", inPlace := ["internal/reflectlite.ValueOf", "(internal/reflectlite.Value).Type", "(internal/reflectlite.Value).IsNil", "internal/reflectlite.TypeOf", "(internal/reflectlite.Value).Elem", "(internal/reflectlite.Value).Set"], unfollowed := true, recurses := true, named := ["errors.errorType"], apart := false, laid := [("errors.errorType", laid_errors_errorType)], narrowed := true }
def SchedSaysUptoSaid : Prop := schedSaysUptoRow.holds Tryd.pinned (OpenSpec.upto schedSaysSpec)

/-- 'whensteadlaw3.ViewPlays', WHERE WHAT IT READS IS OF BULK AT MOST 1048576: true; the input reads as it did. -/
def viewPlaysUptoRow : OpenClaim := { program := "ytkindaadadggoaadoor", sum := "afb0125dc6ad5a0b67492d935e6c5f460e3def12833f9a4fab51075c2338da12", func := "whenstead/whensteadlaw3.ViewPlays", spec := "viewPlays", inPlace := ["internal/reflectlite.ValueOf", "(internal/reflectlite.Value).Type", "(internal/reflectlite.Value).IsNil", "internal/reflectlite.TypeOf", "(internal/reflectlite.Value).Elem", "(internal/reflectlite.Value).Set"], unfollowed := true, recurses := true, named := ["math/bits.deBruijn32tab", "math/bits.deBruijn64tab", "errors.errorType"], apart := false, laid := [("math/bits.deBruijn32tab", laid_math_bits_deBruijn32tab), ("math/bits.deBruijn64tab", laid_math_bits_deBruijn64tab), ("errors.errorType", laid_errors_errorType)], narrowed := true }
def ViewPlaysUptoSaid : Prop := viewPlaysUptoRow.holds Tryd.pinned (OpenSpec.upto viewPlaysSpec)

end Rows
end Go.Proofs.YtkindaadadggoaaDoor
