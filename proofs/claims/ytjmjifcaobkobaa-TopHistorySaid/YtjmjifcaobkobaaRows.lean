/-
  No cell of these rows narrows 'for every input' (looked for: loops, veiled, ifaces, maps, wideKeys, modest, calm, conditions, laid).
  DERIVED. THE GIVEN ROWS OF THIS SEAT. 4 by the template 'for every input the law returns true; each argument reads behind the call as it read before'; 0 by the template 'total and deterministic' (their statements: YtjmjifcaobkobaaTotals.lean).
  GIVEN WITH THE SEED: the statements are not yours to turn. If you find one false, say at which input.
  Laid BY PROGRAM, IN A SANDBOX (cutbox-rows.mjs): the forced cells as the released guide's own fill.sh prints them over the translation 4899c27f7204a7d7… (all of the seat's roots in one cut). By AI agents, Wed Nov 11 2026. No macro, syntax, notation, axiom, sorry.
-/
import Derived.Test.YtjmjifcaobkobaaChecked
import GoSem.Claim
import GoSem.ClaimJoined
import GoSem.ClaimMapViews
import Derived.JoinedTies
import Derived.KernelRfl
namespace Go.Proofs.Ytjmjifcaobkobaa
/- THE CELL 'sum', in the pinned program and in every row, IS THE sha256 OF THE DUMP (.gsa) THAT YtjmjifcaobkobaaProg.lean LOADS. Nothing in Lean hashes anything: it is a label: what it is worth is what the hold of that sum in a sandbox is worth. -/
noncomputable def Try.pinned : Pinned := { name := "ytjmjifcaobkobaa", sum := "4899c27f7204a7d79761e5daaca2ad7b5329a31005d205bf30ebf1654e6a01bf", checked := Try.checked }
namespace Rows
def none {H : Type} : Left H := { results := [], args := [] }

/-- 'whensteadlaw3.HistRow': WHATEVER THE INPUT: true; the input reads as it did. -/
def histRowSpec : ChangeSpec := { name := "histRow", fn := fun _ => fun
  | [d1, d2] => { results := [.lit (.bool true)], args := [d1, d2] }
  | _ => none }
def histRowRow : OpenClaim := { program := "ytjmjifcaobkobaa", sum := "4899c27f7204a7d79761e5daaca2ad7b5329a31005d205bf30ebf1654e6a01bf", func := "whenstead/whensteadlaw3.HistRow", spec := "histRow", unfollowed := true, recurses := true, plainKeys := false, apart := false }
def HistRowSaid : Prop := histRowRow.holds Try.pinned (OpenSpec.ofChange histRowSpec)

/-- ITS FALSE NEIGHBOUR: 'it returns false'. Refute it at one input. -/
def histRowWrong : ChangeSpec := { name := "histRow", fn := fun _ => fun
  | [d1, d2] => { results := [.lit (.bool false)], args := [d1, d2] }
  | _ => none }
def HistRowWrongFalsely : Prop := histRowRow.holds Try.pinned (OpenSpec.ofChange histRowWrong)

/-- 'whensteadlaw3.HistLocal': WHATEVER THE INPUT: true; the input reads as it did. -/
def histLocalSpec : ChangeSpec := { name := "histLocal", fn := fun _ => fun
  | [d] => { results := [.lit (.bool true)], args := [d] }
  | _ => none }
def histLocalRow : OpenClaim := { program := "ytjmjifcaobkobaa", sum := "4899c27f7204a7d79761e5daaca2ad7b5329a31005d205bf30ebf1654e6a01bf", func := "whenstead/whensteadlaw3.HistLocal", spec := "histLocal", unfollowed := true, recurses := true, plainKeys := false, apart := false }
def HistLocalSaid : Prop := histLocalRow.holds Try.pinned (OpenSpec.ofChange histLocalSpec)

/-- ITS FALSE NEIGHBOUR: 'it returns false'. Refute it at one input. -/
def histLocalWrong : ChangeSpec := { name := "histLocal", fn := fun _ => fun
  | [d] => { results := [.lit (.bool false)], args := [d] }
  | _ => none }
def HistLocalWrongFalsely : Prop := histLocalRow.holds Try.pinned (OpenSpec.ofChange histLocalWrong)

/-- 'whensteadlaw3.HistWeaker': WHATEVER THE INPUT: true; the input reads as it did. -/
def histWeakerSpec : ChangeSpec := { name := "histWeaker", fn := fun _ => fun
  | [d] => { results := [.lit (.bool true)], args := [d] }
  | _ => none }
def histWeakerRow : OpenClaim := { program := "ytjmjifcaobkobaa", sum := "4899c27f7204a7d79761e5daaca2ad7b5329a31005d205bf30ebf1654e6a01bf", func := "whenstead/whensteadlaw3.HistWeaker", spec := "histWeaker", unfollowed := true, recurses := true, plainKeys := false, apart := false }
def HistWeakerSaid : Prop := histWeakerRow.holds Try.pinned (OpenSpec.ofChange histWeakerSpec)

/-- ITS FALSE NEIGHBOUR: 'it returns false'. Refute it at one input. -/
def histWeakerWrong : ChangeSpec := { name := "histWeaker", fn := fun _ => fun
  | [d] => { results := [.lit (.bool false)], args := [d] }
  | _ => none }
def HistWeakerWrongFalsely : Prop := histWeakerRow.holds Try.pinned (OpenSpec.ofChange histWeakerWrong)

/-- 'whensteadtop.TopHistory': WHATEVER THE INPUT: true; the input reads as it did. -/
def topHistorySpec : ChangeSpec := { name := "topHistory", fn := fun _ => fun
  | [d] => { results := [.lit (.bool true)], args := [d] }
  | _ => none }
def topHistoryRow : OpenClaim := { program := "ytjmjifcaobkobaa", sum := "4899c27f7204a7d79761e5daaca2ad7b5329a31005d205bf30ebf1654e6a01bf", func := "whenstead/whensteadtop.TopHistory", spec := "topHistory", unfollowed := true, recurses := true, plainKeys := false, apart := false }
def TopHistorySaid : Prop := topHistoryRow.holds Try.pinned (OpenSpec.ofChange topHistorySpec)

/-- ITS FALSE NEIGHBOUR: 'it returns false'. Refute it at one input. -/
def topHistoryWrong : ChangeSpec := { name := "topHistory", fn := fun _ => fun
  | [d] => { results := [.lit (.bool false)], args := [d] }
  | _ => none }
def TopHistoryWrongFalsely : Prop := topHistoryRow.holds Try.pinned (OpenSpec.ofChange topHistoryWrong)

/- THE SECOND FORM. 'bulk': how many values and letters a reading holds, each counted each time it is reached (what is shared counts as often as it is met; a slice's spare places count too). A statement '..UptoSaid' is the law's where the arguments, and the package variables that the reading takes, are together of bulk at most 1048576: NARROWER than '..Said'. Prove '..Said' where nothing that the law and all that it calls make is longer than what came in: it says more and counts as full. Else prove '..UptoSaid'. A law counts once. -/
mutual
def uptoBulk {H : Type} : DataW H → Nat
  | .lit (.string bytes) => bytes.length + 1
  | .lit _ => 1
  | .nil => 1
  | .ptr d => uptoBulk d + 1
  | .slice elems spare => uptoBulkAll elems + uptoBulkAll spare + 1
  | .agg parts => uptoBulkAll parts + 1
  | .iface _ d => uptoBulk d + 1
  | .map entries => uptoBulkEntries entries + 1
  | .held _ => 1
def uptoBulkAll {H : Type} : List (DataW H) → Nat
  | [] => 0
  | d :: r => uptoBulk d + uptoBulkAll r
def uptoBulkEntries {H : Type} : List (Lit × DataW H) → Nat
  | [] => 0
  | x :: r => uptoBulkEntry x + uptoBulkEntries r
def uptoBulkEntry {H : Type} : Lit × DataW H → Nat
  | (.string bytes, d) => bytes.length + uptoBulk d + 1
  | (_, d) => uptoBulk d + 1
 end
def uptoSmall : (H : Type) → List (DataW H) → Bool := fun _ ds => decide (uptoBulkAll ds ≤ 1048576)
def OpenSpec.upto (s : _root_.Go.ChangeSpec) : _root_.Go.OpenSpec := { _root_.Go.OpenSpec.ofChange s with cond := some uptoSmall }

/-- 'whensteadlaw3.HistRow', WHERE WHAT IT READS IS OF BULK AT MOST 1048576: true; the input reads as it did. -/
def histRowUptoRow : OpenClaim := { program := "ytjmjifcaobkobaa", sum := "4899c27f7204a7d79761e5daaca2ad7b5329a31005d205bf30ebf1654e6a01bf", func := "whenstead/whensteadlaw3.HistRow", spec := "histRow", unfollowed := true, recurses := true, plainKeys := false, apart := false, narrowed := true }
def HistRowUptoSaid : Prop := histRowUptoRow.holds Try.pinned (OpenSpec.upto histRowSpec)

/-- 'whensteadlaw3.HistLocal', WHERE WHAT IT READS IS OF BULK AT MOST 1048576: true; the input reads as it did. -/
def histLocalUptoRow : OpenClaim := { program := "ytjmjifcaobkobaa", sum := "4899c27f7204a7d79761e5daaca2ad7b5329a31005d205bf30ebf1654e6a01bf", func := "whenstead/whensteadlaw3.HistLocal", spec := "histLocal", unfollowed := true, recurses := true, plainKeys := false, apart := false, narrowed := true }
def HistLocalUptoSaid : Prop := histLocalUptoRow.holds Try.pinned (OpenSpec.upto histLocalSpec)

/-- 'whensteadlaw3.HistWeaker', WHERE WHAT IT READS IS OF BULK AT MOST 1048576: true; the input reads as it did. -/
def histWeakerUptoRow : OpenClaim := { program := "ytjmjifcaobkobaa", sum := "4899c27f7204a7d79761e5daaca2ad7b5329a31005d205bf30ebf1654e6a01bf", func := "whenstead/whensteadlaw3.HistWeaker", spec := "histWeaker", unfollowed := true, recurses := true, plainKeys := false, apart := false, narrowed := true }
def HistWeakerUptoSaid : Prop := histWeakerUptoRow.holds Try.pinned (OpenSpec.upto histWeakerSpec)

/-- 'whensteadtop.TopHistory', WHERE WHAT IT READS IS OF BULK AT MOST 1048576: true; the input reads as it did. -/
def topHistoryUptoRow : OpenClaim := { program := "ytjmjifcaobkobaa", sum := "4899c27f7204a7d79761e5daaca2ad7b5329a31005d205bf30ebf1654e6a01bf", func := "whenstead/whensteadtop.TopHistory", spec := "topHistory", unfollowed := true, recurses := true, plainKeys := false, apart := false, narrowed := true }
def TopHistoryUptoSaid : Prop := topHistoryUptoRow.holds Try.pinned (OpenSpec.upto topHistorySpec)

end Rows
end Go.Proofs.Ytjmjifcaobkobaa
