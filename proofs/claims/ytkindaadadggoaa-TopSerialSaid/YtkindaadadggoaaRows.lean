/-
  No cell of these rows narrows 'for every input' (looked for: loops, veiled, ifaces, maps, wideKeys, modest, calm, conditions, laid).
  DERIVED. THE GIVEN ROWS OF THIS SEAT. 4 by the template 'for every input the law returns true; each argument reads behind the call as it read before'; 0 by the template 'total and deterministic' (their statements: YtkindaadadggoaaTotals.lean).
  GIVEN WITH THE SEED: the statements are not yours to turn. If you find one false, say at which input.
  Laid BY PROGRAM, IN A SANDBOX (cutbox-rows.mjs): the forced cells as the released guide's own fill.sh prints them over the translation 9a17b6d8d73312ea… (all of the seat's roots in one cut). By AI agents, Wed Nov 11 2026. No macro, syntax, notation, axiom, sorry.
-/
import Derived.Test.YtkindaadadggoaaChecked
import GoSem.Claim
import GoSem.ClaimJoined
import GoSem.ClaimMapViews
import Derived.JoinedTies
import Derived.KernelRfl
namespace Go.Proofs.Ytkindaadadggoaa
/- THE CELL 'sum', in the pinned program and in every row, IS THE sha256 OF THE DUMP (.gsa) THAT YtkindaadadggoaaProg.lean LOADS. Nothing in Lean hashes anything: it is a label: what it is worth is what the hold of that sum in a sandbox is worth. -/
noncomputable def Try.pinned : Pinned := { name := "ytkindaadadggoaa", sum := "9a17b6d8d73312ea1e4c12cf89fcaeffba8b7211bc79b74729f7e6d19136f037", checked := Try.checked }
namespace Rows
def none {H : Type} : Left H := { results := [], args := [] }

/-- 'whensteadlaw3.SchedSwaps': WHATEVER THE INPUT: true; the input reads as it did. -/
def schedSwapsSpec : ChangeSpec := { name := "schedSwaps", fn := fun _ => fun
  | [d1, d2] => { results := [.lit (.bool true)], args := [d1, d2] }
  | _ => none }
def schedSwapsRow : OpenClaim := { program := "ytkindaadadggoaa", sum := "9a17b6d8d73312ea1e4c12cf89fcaeffba8b7211bc79b74729f7e6d19136f037", func := "whenstead/whensteadlaw3.SchedSwaps", spec := "schedSwaps", apart := false }
def SchedSwapsSaid : Prop := schedSwapsRow.holds Try.pinned (OpenSpec.ofChange schedSwapsSpec)

/-- ITS FALSE NEIGHBOUR: 'it returns false'. Refute it at one input. -/
def schedSwapsWrong : ChangeSpec := { name := "schedSwaps", fn := fun _ => fun
  | [d1, d2] => { results := [.lit (.bool false)], args := [d1, d2] }
  | _ => none }
def SchedSwapsWrongFalsely : Prop := schedSwapsRow.holds Try.pinned (OpenSpec.ofChange schedSwapsWrong)

/-- 'whensteadlaw3.SchedRing': WHATEVER THE INPUT: true; the input reads as it did. -/
def schedRingSpec : ChangeSpec := { name := "schedRing", fn := fun _ => fun
  | [d1, d2] => { results := [.lit (.bool true)], args := [d1, d2] }
  | _ => none }
def schedRingRow : OpenClaim := { program := "ytkindaadadggoaa", sum := "9a17b6d8d73312ea1e4c12cf89fcaeffba8b7211bc79b74729f7e6d19136f037", func := "whenstead/whensteadlaw3.SchedRing", spec := "schedRing", apart := false }
def SchedRingSaid : Prop := schedRingRow.holds Try.pinned (OpenSpec.ofChange schedRingSpec)

/-- ITS FALSE NEIGHBOUR: 'it returns false'. Refute it at one input. -/
def schedRingWrong : ChangeSpec := { name := "schedRing", fn := fun _ => fun
  | [d1, d2] => { results := [.lit (.bool false)], args := [d1, d2] }
  | _ => none }
def SchedRingWrongFalsely : Prop := schedRingRow.holds Try.pinned (OpenSpec.ofChange schedRingWrong)

/-- 'whensteadtop.TopSerial': WHATEVER THE INPUT: true; the input reads as it did. -/
def topSerialSpec : ChangeSpec := { name := "topSerial", fn := fun _ => fun
  | [d1, d2] => { results := [.lit (.bool true)], args := [d1, d2] }
  | _ => none }
def topSerialRow : OpenClaim := { program := "ytkindaadadggoaa", sum := "9a17b6d8d73312ea1e4c12cf89fcaeffba8b7211bc79b74729f7e6d19136f037", func := "whenstead/whensteadtop.TopSerial", spec := "topSerial", apart := false }
def TopSerialSaid : Prop := topSerialRow.holds Try.pinned (OpenSpec.ofChange topSerialSpec)

/-- ITS FALSE NEIGHBOUR: 'it returns false'. Refute it at one input. -/
def topSerialWrong : ChangeSpec := { name := "topSerial", fn := fun _ => fun
  | [d1, d2] => { results := [.lit (.bool false)], args := [d1, d2] }
  | _ => none }
def TopSerialWrongFalsely : Prop := topSerialRow.holds Try.pinned (OpenSpec.ofChange topSerialWrong)

/-- 'whensteadlaw3.SchedSame': WHATEVER THE INPUT: true; the input reads as it did. -/
def schedSameSpec : ChangeSpec := { name := "schedSame", fn := fun _ => fun
  | [d] => { results := [.lit (.bool true)], args := [d] }
  | _ => none }
def schedSameRow : OpenClaim := { program := "ytkindaadadggoaa", sum := "9a17b6d8d73312ea1e4c12cf89fcaeffba8b7211bc79b74729f7e6d19136f037", func := "whenstead/whensteadlaw3.SchedSame", spec := "schedSame", apart := false }
def SchedSameSaid : Prop := schedSameRow.holds Try.pinned (OpenSpec.ofChange schedSameSpec)

/-- ITS FALSE NEIGHBOUR: 'it returns false'. Refute it at one input. -/
def schedSameWrong : ChangeSpec := { name := "schedSame", fn := fun _ => fun
  | [d] => { results := [.lit (.bool false)], args := [d] }
  | _ => none }
def SchedSameWrongFalsely : Prop := schedSameRow.holds Try.pinned (OpenSpec.ofChange schedSameWrong)

/- THE SECOND FORM. 'bulk': how many values and letters a reading holds, each counted each time it is reached (what is shared counts as often as it is met; a slice's spare places count too). A statement '..UptoSaid' is the law's where the arguments, and the package variables that the reading takes, are together of bulk at most 1048576: NARROWER than '..Said'. Prove '..Said' where nothing that the law and all that it calls make is longer than what came in: it says more and counts as full. Else prove '..UptoSaid'. A law counts once. -/
mutual
def uptoBulk {H : Type} : DataW H → Nat
  | .lit (.string bytes) => bytes.length + 1
  | .lit _ => 1
  | .nil => 1
  | .ptr d => uptoBulk d + 1
  | .slice elems spare => uptoBulkAll elems + uptoBulkAll spare + 1
  | .agg parts => uptoBulkAll parts + 1
  | .iface _ d => uptoBulk d + 1
  | .map entries => uptoBulkEntries entries + 1
  | .held _ => 1
def uptoBulkAll {H : Type} : List (DataW H) → Nat
  | [] => 0
  | d :: r => uptoBulk d + uptoBulkAll r
def uptoBulkEntries {H : Type} : List (Lit × DataW H) → Nat
  | [] => 0
  | x :: r => uptoBulkEntry x + uptoBulkEntries r
def uptoBulkEntry {H : Type} : Lit × DataW H → Nat
  | (.string bytes, d) => bytes.length + uptoBulk d + 1
  | (_, d) => uptoBulk d + 1
 end
def uptoSmall : (H : Type) → List (DataW H) → Bool := fun _ ds => decide (uptoBulkAll ds ≤ 1048576)
def OpenSpec.upto (s : _root_.Go.ChangeSpec) : _root_.Go.OpenSpec := { _root_.Go.OpenSpec.ofChange s with cond := some uptoSmall }

/-- 'whensteadlaw3.SchedSwaps', WHERE WHAT IT READS IS OF BULK AT MOST 1048576: true; the input reads as it did. -/
def schedSwapsUptoRow : OpenClaim := { program := "ytkindaadadggoaa", sum := "9a17b6d8d73312ea1e4c12cf89fcaeffba8b7211bc79b74729f7e6d19136f037", func := "whenstead/whensteadlaw3.SchedSwaps", spec := "schedSwaps", apart := false, narrowed := true }
def SchedSwapsUptoSaid : Prop := schedSwapsUptoRow.holds Try.pinned (OpenSpec.upto schedSwapsSpec)

/-- 'whensteadlaw3.SchedRing', WHERE WHAT IT READS IS OF BULK AT MOST 1048576: true; the input reads as it did. -/
def schedRingUptoRow : OpenClaim := { program := "ytkindaadadggoaa", sum := "9a17b6d8d73312ea1e4c12cf89fcaeffba8b7211bc79b74729f7e6d19136f037", func := "whenstead/whensteadlaw3.SchedRing", spec := "schedRing", apart := false, narrowed := true }
def SchedRingUptoSaid : Prop := schedRingUptoRow.holds Try.pinned (OpenSpec.upto schedRingSpec)

/-- 'whensteadtop.TopSerial', WHERE WHAT IT READS IS OF BULK AT MOST 1048576: true; the input reads as it did. -/
def topSerialUptoRow : OpenClaim := { program := "ytkindaadadggoaa", sum := "9a17b6d8d73312ea1e4c12cf89fcaeffba8b7211bc79b74729f7e6d19136f037", func := "whenstead/whensteadtop.TopSerial", spec := "topSerial", apart := false, narrowed := true }
def TopSerialUptoSaid : Prop := topSerialUptoRow.holds Try.pinned (OpenSpec.upto topSerialSpec)

/-- 'whensteadlaw3.SchedSame', WHERE WHAT IT READS IS OF BULK AT MOST 1048576: true; the input reads as it did. -/
def schedSameUptoRow : OpenClaim := { program := "ytkindaadadggoaa", sum := "9a17b6d8d73312ea1e4c12cf89fcaeffba8b7211bc79b74729f7e6d19136f037", func := "whenstead/whensteadlaw3.SchedSame", spec := "schedSame", apart := false, narrowed := true }
def SchedSameUptoSaid : Prop := schedSameUptoRow.holds Try.pinned (OpenSpec.upto schedSameSpec)

end Rows
end Go.Proofs.Ytkindaadadggoaa
