/-
  NARROWER THAN 'FOR EVERY INPUT', by the rows' own cells (each row's printed sentence says how): OrderRules: laid · DownCloses: laid · DownLattice: laid · ExtendParts: laid · DownLast: laid · ExtendKeeps: laid · ChainMirsky: laid · ChainMore: laid · ExtendBounds: laid · ChainDilworth: laid · DownCount: laid · OrderMore: laid · OrderSays: laid · DownSays: laid · ExtendSays: laid · ChainSays: laid.
  DERIVED. THE GIVEN ROWS OF THIS SEAT. 16 by the template 'for every input the law returns true; each argument reads behind the call as it read before'; 0 by the template 'total and deterministic' (their statements: YtpicjikjinkkpaaDoorTotals.lean).
  GIVEN WITH THE SEED: the statements are not yours to turn. If you find one false, say at which input.
  Laid BY PROGRAM, IN A SANDBOX (cutbox-rows.mjs): the forced cells as the released guide's own fill.sh prints them over the translation dc28497134e746d7… (all of the seat's roots in one cut). By AI agents, Wed Nov 11 2026. No macro, syntax, notation, axiom, sorry.
-/
import Derived.Test.YtpicjikjinkkpaaDoorChecked
import GoSem.Claim
import GoSem.ClaimJoined
import GoSem.ClaimMapViews
import Derived.JoinedTies
import Derived.KernelRfl
namespace Go.Proofs.YtpicjikjinkkpaaDoor
/- THE CELL 'sum', in the pinned program and in every row, IS THE sha256 OF THE DUMP (.gsa) THAT YtpicjikjinkkpaaDoorProg.lean LOADS. Nothing in Lean hashes anything: it is a label: what it is worth is what the hold of that sum in a sandbox is worth. -/
noncomputable def Tryd.pinned : Pinned := { name := "ytpicjikjinkkpaadoor", sum := "dc28497134e746d7390399a908c831826bb773ab60e26e155f733e23505a0a8e", checked := Tryd.checked }
namespace Rows
def none {H : Type} : Left H := { results := [], args := [] }

/- WHAT THE LISTED PACKAGE-LEVEL VARIABLES READ AS WHEN THE CALL BEGINS. Each datum BY PROGRAM (the guide's laid-datum.mjs) off the statement by which the dump's own 'gosem.cut.vars' lays the variable. In a bare row this is a premise. The card (YtpicjikjinkkpaaDoorCards.lean) ties it to the program's text. -/
def laid_math_bits_deBruijn32tab {H : Type} : DataW H := .agg [.lit (.int .u8 0), .lit (.int .u8 1), .lit (.int .u8 28), .lit (.int .u8 2), .lit (.int .u8 29), .lit (.int .u8 14), .lit (.int .u8 24), .lit (.int .u8 3), .lit (.int .u8 30), .lit (.int .u8 22), .lit (.int .u8 20), .lit (.int .u8 15), .lit (.int .u8 25), .lit (.int .u8 17), .lit (.int .u8 4), .lit (.int .u8 8), .lit (.int .u8 31), .lit (.int .u8 27), .lit (.int .u8 13), .lit (.int .u8 23), .lit (.int .u8 21), .lit (.int .u8 19), .lit (.int .u8 16), .lit (.int .u8 7), .lit (.int .u8 26), .lit (.int .u8 12), .lit (.int .u8 18), .lit (.int .u8 6), .lit (.int .u8 11), .lit (.int .u8 5), .lit (.int .u8 10), .lit (.int .u8 9)]
def laid_math_bits_deBruijn64tab {H : Type} : DataW H := .agg [.lit (.int .u8 0), .lit (.int .u8 1), .lit (.int .u8 56), .lit (.int .u8 2), .lit (.int .u8 57), .lit (.int .u8 49), .lit (.int .u8 28), .lit (.int .u8 3), .lit (.int .u8 61), .lit (.int .u8 58), .lit (.int .u8 42), .lit (.int .u8 50), .lit (.int .u8 38), .lit (.int .u8 29), .lit (.int .u8 17), .lit (.int .u8 4), .lit (.int .u8 62), .lit (.int .u8 47), .lit (.int .u8 59), .lit (.int .u8 36), .lit (.int .u8 45), .lit (.int .u8 43), .lit (.int .u8 51), .lit (.int .u8 22), .lit (.int .u8 53), .lit (.int .u8 39), .lit (.int .u8 33), .lit (.int .u8 30), .lit (.int .u8 24), .lit (.int .u8 18), .lit (.int .u8 12), .lit (.int .u8 5), .lit (.int .u8 63), .lit (.int .u8 55), .lit (.int .u8 48), .lit (.int .u8 27), .lit (.int .u8 60), .lit (.int .u8 41), .lit (.int .u8 37), .lit (.int .u8 16), .lit (.int .u8 46), .lit (.int .u8 35), .lit (.int .u8 44), .lit (.int .u8 21), .lit (.int .u8 52), .lit (.int .u8 32), .lit (.int .u8 23), .lit (.int .u8 11), .lit (.int .u8 54), .lit (.int .u8 26), .lit (.int .u8 40), .lit (.int .u8 15), .lit (.int .u8 34), .lit (.int .u8 20), .lit (.int .u8 31), .lit (.int .u8 10), .lit (.int .u8 25), .lit (.int .u8 14), .lit (.int .u8 19), .lit (.int .u8 9), .lit (.int .u8 13), .lit (.int .u8 8), .lit (.int .u8 7), .lit (.int .u8 6)]
def laid_errors_errorType {H : Type} : DataW H := .iface "internal/reflectlite.rtype" (.agg [.ptr (.lit (.string [101, 114, 114, 111, 114]))])

/-- 'whensteadlaw1.OrderRules': WHATEVER THE INPUT: true; the input reads as it did. -/
def orderRulesSpec : ChangeSpec := { name := "orderRules", fn := fun _ => fun
  | [d1, d2, d3, d4] => { results := [.lit (.bool true)], args := [d1, d2, d3, d4] }
  | _ => none }
def orderRulesRow : OpenClaim := { program := "ytpicjikjinkkpaadoor", sum := "dc28497134e746d7390399a908c831826bb773ab60e26e155f733e23505a0a8e", func := "whenstead/whensteadlaw1.OrderRules", spec := "orderRules", unfollowed := true, recurses := true, named := ["math/bits.deBruijn32tab", "math/bits.deBruijn64tab"], apart := false, laid := [("math/bits.deBruijn32tab", laid_math_bits_deBruijn32tab), ("math/bits.deBruijn64tab", laid_math_bits_deBruijn64tab)] }
def OrderRulesSaid : Prop := orderRulesRow.holds Tryd.pinned (OpenSpec.ofChange orderRulesSpec)

/-- ITS FALSE NEIGHBOUR: 'it returns false'. Refute it at one input. -/
def orderRulesWrong : ChangeSpec := { name := "orderRules", fn := fun _ => fun
  | [d1, d2, d3, d4] => { results := [.lit (.bool false)], args := [d1, d2, d3, d4] }
  | _ => none }
def OrderRulesWrongFalsely : Prop := orderRulesRow.holds Tryd.pinned (OpenSpec.ofChange orderRulesWrong)

/-- 'whensteadlaw1.DownCloses': WHATEVER THE INPUT: true; the input reads as it did. -/
def downClosesSpec : ChangeSpec := { name := "downCloses", fn := fun _ => fun
  | [d1, d2, d3] => { results := [.lit (.bool true)], args := [d1, d2, d3] }
  | _ => none }
def downClosesRow : OpenClaim := { program := "ytpicjikjinkkpaadoor", sum := "dc28497134e746d7390399a908c831826bb773ab60e26e155f733e23505a0a8e", func := "whenstead/whensteadlaw1.DownCloses", spec := "downCloses", unfollowed := true, recurses := true, named := ["math/bits.deBruijn32tab", "math/bits.deBruijn64tab"], apart := false, laid := [("math/bits.deBruijn32tab", laid_math_bits_deBruijn32tab), ("math/bits.deBruijn64tab", laid_math_bits_deBruijn64tab)] }
def DownClosesSaid : Prop := downClosesRow.holds Tryd.pinned (OpenSpec.ofChange downClosesSpec)

/-- ITS FALSE NEIGHBOUR: 'it returns false'. Refute it at one input. -/
def downClosesWrong : ChangeSpec := { name := "downCloses", fn := fun _ => fun
  | [d1, d2, d3] => { results := [.lit (.bool false)], args := [d1, d2, d3] }
  | _ => none }
def DownClosesWrongFalsely : Prop := downClosesRow.holds Tryd.pinned (OpenSpec.ofChange downClosesWrong)

/-- 'whensteadlaw1.DownLattice': WHATEVER THE INPUT: true; the input reads as it did. -/
def downLatticeSpec : ChangeSpec := { name := "downLattice", fn := fun _ => fun
  | [d1, d2, d3] => { results := [.lit (.bool true)], args := [d1, d2, d3] }
  | _ => none }
def downLatticeRow : OpenClaim := { program := "ytpicjikjinkkpaadoor", sum := "dc28497134e746d7390399a908c831826bb773ab60e26e155f733e23505a0a8e", func := "whenstead/whensteadlaw1.DownLattice", spec := "downLattice", unfollowed := true, recurses := true, named := ["math/bits.deBruijn32tab", "math/bits.deBruijn64tab"], apart := false, laid := [("math/bits.deBruijn32tab", laid_math_bits_deBruijn32tab), ("math/bits.deBruijn64tab", laid_math_bits_deBruijn64tab)] }
def DownLatticeSaid : Prop := downLatticeRow.holds Tryd.pinned (OpenSpec.ofChange downLatticeSpec)

/-- ITS FALSE NEIGHBOUR: 'it returns false'. Refute it at one input. -/
def downLatticeWrong : ChangeSpec := { name := "downLattice", fn := fun _ => fun
  | [d1, d2, d3] => { results := [.lit (.bool false)], args := [d1, d2, d3] }
  | _ => none }
def DownLatticeWrongFalsely : Prop := downLatticeRow.holds Tryd.pinned (OpenSpec.ofChange downLatticeWrong)

/-- 'whensteadlaw1.ExtendParts': WHATEVER THE INPUT: true; the input reads as it did. -/
def extendPartsSpec : ChangeSpec := { name := "extendParts", fn := fun _ => fun
  | [d1, d2, d3] => { results := [.lit (.bool true)], args := [d1, d2, d3] }
  | _ => none }
def extendPartsRow : OpenClaim := { program := "ytpicjikjinkkpaadoor", sum := "dc28497134e746d7390399a908c831826bb773ab60e26e155f733e23505a0a8e", func := "whenstead/whensteadlaw1.ExtendParts", spec := "extendParts", unfollowed := true, recurses := true, named := ["math/bits.deBruijn32tab", "math/bits.deBruijn64tab"], apart := false, laid := [("math/bits.deBruijn32tab", laid_math_bits_deBruijn32tab), ("math/bits.deBruijn64tab", laid_math_bits_deBruijn64tab)] }
def ExtendPartsSaid : Prop := extendPartsRow.holds Tryd.pinned (OpenSpec.ofChange extendPartsSpec)

/-- ITS FALSE NEIGHBOUR: 'it returns false'. Refute it at one input. -/
def extendPartsWrong : ChangeSpec := { name := "extendParts", fn := fun _ => fun
  | [d1, d2, d3] => { results := [.lit (.bool false)], args := [d1, d2, d3] }
  | _ => none }
def ExtendPartsWrongFalsely : Prop := extendPartsRow.holds Tryd.pinned (OpenSpec.ofChange extendPartsWrong)

/-- 'whensteadlaw1.DownLast': WHATEVER THE INPUT: true; the input reads as it did. -/
def downLastSpec : ChangeSpec := { name := "downLast", fn := fun _ => fun
  | [d1, d2] => { results := [.lit (.bool true)], args := [d1, d2] }
  | _ => none }
def downLastRow : OpenClaim := { program := "ytpicjikjinkkpaadoor", sum := "dc28497134e746d7390399a908c831826bb773ab60e26e155f733e23505a0a8e", func := "whenstead/whensteadlaw1.DownLast", spec := "downLast", unfollowed := true, recurses := true, named := ["math/bits.deBruijn32tab", "math/bits.deBruijn64tab"], apart := false, laid := [("math/bits.deBruijn32tab", laid_math_bits_deBruijn32tab), ("math/bits.deBruijn64tab", laid_math_bits_deBruijn64tab)] }
def DownLastSaid : Prop := downLastRow.holds Tryd.pinned (OpenSpec.ofChange downLastSpec)

/-- ITS FALSE NEIGHBOUR: 'it returns false'. Refute it at one input. -/
def downLastWrong : ChangeSpec := { name := "downLast", fn := fun _ => fun
  | [d1, d2] => { results := [.lit (.bool false)], args := [d1, d2] }
  | _ => none }
def DownLastWrongFalsely : Prop := downLastRow.holds Tryd.pinned (OpenSpec.ofChange downLastWrong)

/-- 'whensteadlaw1.ExtendKeeps': WHATEVER THE INPUT: true; the input reads as it did. -/
def extendKeepsSpec : ChangeSpec := { name := "extendKeeps", fn := fun _ => fun
  | [d1, d2] => { results := [.lit (.bool true)], args := [d1, d2] }
  | _ => none }
def extendKeepsRow : OpenClaim := { program := "ytpicjikjinkkpaadoor", sum := "dc28497134e746d7390399a908c831826bb773ab60e26e155f733e23505a0a8e", func := "whenstead/whensteadlaw1.ExtendKeeps", spec := "extendKeeps", unfollowed := true, recurses := true, named := ["math/bits.deBruijn32tab", "math/bits.deBruijn64tab"], apart := false, laid := [("math/bits.deBruijn32tab", laid_math_bits_deBruijn32tab), ("math/bits.deBruijn64tab", laid_math_bits_deBruijn64tab)] }
def ExtendKeepsSaid : Prop := extendKeepsRow.holds Tryd.pinned (OpenSpec.ofChange extendKeepsSpec)

/-- ITS FALSE NEIGHBOUR: 'it returns false'. Refute it at one input. -/
def extendKeepsWrong : ChangeSpec := { name := "extendKeeps", fn := fun _ => fun
  | [d1, d2] => { results := [.lit (.bool false)], args := [d1, d2] }
  | _ => none }
def ExtendKeepsWrongFalsely : Prop := extendKeepsRow.holds Tryd.pinned (OpenSpec.ofChange extendKeepsWrong)

/-- 'whensteadlaw1.ChainMirsky': WHATEVER THE INPUT: true; the input reads as it did. -/
def chainMirskySpec : ChangeSpec := { name := "chainMirsky", fn := fun _ => fun
  | [d1, d2] => { results := [.lit (.bool true)], args := [d1, d2] }
  | _ => none }
def chainMirskyRow : OpenClaim := { program := "ytpicjikjinkkpaadoor", sum := "dc28497134e746d7390399a908c831826bb773ab60e26e155f733e23505a0a8e", func := "whenstead/whensteadlaw1.ChainMirsky", spec := "chainMirsky", unfollowed := true, recurses := true, named := ["math/bits.deBruijn32tab", "math/bits.deBruijn64tab"], apart := false, laid := [("math/bits.deBruijn32tab", laid_math_bits_deBruijn32tab), ("math/bits.deBruijn64tab", laid_math_bits_deBruijn64tab)] }
def ChainMirskySaid : Prop := chainMirskyRow.holds Tryd.pinned (OpenSpec.ofChange chainMirskySpec)

/-- ITS FALSE NEIGHBOUR: 'it returns false'. Refute it at one input. -/
def chainMirskyWrong : ChangeSpec := { name := "chainMirsky", fn := fun _ => fun
  | [d1, d2] => { results := [.lit (.bool false)], args := [d1, d2] }
  | _ => none }
def ChainMirskyWrongFalsely : Prop := chainMirskyRow.holds Tryd.pinned (OpenSpec.ofChange chainMirskyWrong)

/-- 'whensteadlaw1.ChainMore': WHATEVER THE INPUT: true; the input reads as it did. -/
def chainMoreSpec : ChangeSpec := { name := "chainMore", fn := fun _ => fun
  | [d1, d2, d3] => { results := [.lit (.bool true)], args := [d1, d2, d3] }
  | _ => none }
def chainMoreRow : OpenClaim := { program := "ytpicjikjinkkpaadoor", sum := "dc28497134e746d7390399a908c831826bb773ab60e26e155f733e23505a0a8e", func := "whenstead/whensteadlaw1.ChainMore", spec := "chainMore", unfollowed := true, recurses := true, named := ["math/bits.deBruijn32tab", "math/bits.deBruijn64tab"], apart := false, laid := [("math/bits.deBruijn32tab", laid_math_bits_deBruijn32tab), ("math/bits.deBruijn64tab", laid_math_bits_deBruijn64tab)] }
def ChainMoreSaid : Prop := chainMoreRow.holds Tryd.pinned (OpenSpec.ofChange chainMoreSpec)

/-- ITS FALSE NEIGHBOUR: 'it returns false'. Refute it at one input. -/
def chainMoreWrong : ChangeSpec := { name := "chainMore", fn := fun _ => fun
  | [d1, d2, d3] => { results := [.lit (.bool false)], args := [d1, d2, d3] }
  | _ => none }
def ChainMoreWrongFalsely : Prop := chainMoreRow.holds Tryd.pinned (OpenSpec.ofChange chainMoreWrong)

/-- 'whensteadlaw1.ExtendBounds': WHATEVER THE INPUT: true; the input reads as it did. -/
def extendBoundsSpec : ChangeSpec := { name := "extendBounds", fn := fun _ => fun
  | [d] => { results := [.lit (.bool true)], args := [d] }
  | _ => none }
def extendBoundsRow : OpenClaim := { program := "ytpicjikjinkkpaadoor", sum := "dc28497134e746d7390399a908c831826bb773ab60e26e155f733e23505a0a8e", func := "whenstead/whensteadlaw1.ExtendBounds", spec := "extendBounds", unfollowed := true, recurses := true, named := ["math/bits.deBruijn32tab", "math/bits.deBruijn64tab"], apart := false, laid := [("math/bits.deBruijn32tab", laid_math_bits_deBruijn32tab), ("math/bits.deBruijn64tab", laid_math_bits_deBruijn64tab)] }
def ExtendBoundsSaid : Prop := extendBoundsRow.holds Tryd.pinned (OpenSpec.ofChange extendBoundsSpec)

/-- ITS FALSE NEIGHBOUR: 'it returns false'. Refute it at one input. -/
def extendBoundsWrong : ChangeSpec := { name := "extendBounds", fn := fun _ => fun
  | [d] => { results := [.lit (.bool false)], args := [d] }
  | _ => none }
def ExtendBoundsWrongFalsely : Prop := extendBoundsRow.holds Tryd.pinned (OpenSpec.ofChange extendBoundsWrong)

/-- 'whensteadlaw1.ChainDilworth': WHATEVER THE INPUT: true; the input reads as it did. -/
def chainDilworthSpec : ChangeSpec := { name := "chainDilworth", fn := fun _ => fun
  | [d1, d2] => { results := [.lit (.bool true)], args := [d1, d2] }
  | _ => none }
def chainDilworthRow : OpenClaim := { program := "ytpicjikjinkkpaadoor", sum := "dc28497134e746d7390399a908c831826bb773ab60e26e155f733e23505a0a8e", func := "whenstead/whensteadlaw1.ChainDilworth", spec := "chainDilworth", unfollowed := true, recurses := true, named := ["math/bits.deBruijn32tab", "math/bits.deBruijn64tab"], apart := false, laid := [("math/bits.deBruijn32tab", laid_math_bits_deBruijn32tab), ("math/bits.deBruijn64tab", laid_math_bits_deBruijn64tab)] }
def ChainDilworthSaid : Prop := chainDilworthRow.holds Tryd.pinned (OpenSpec.ofChange chainDilworthSpec)

/-- ITS FALSE NEIGHBOUR: 'it returns false'. Refute it at one input. -/
def chainDilworthWrong : ChangeSpec := { name := "chainDilworth", fn := fun _ => fun
  | [d1, d2] => { results := [.lit (.bool false)], args := [d1, d2] }
  | _ => none }
def ChainDilworthWrongFalsely : Prop := chainDilworthRow.holds Tryd.pinned (OpenSpec.ofChange chainDilworthWrong)

/-- 'whensteadlaw1.DownCount': WHATEVER THE INPUT: true; the input reads as it did. -/
def downCountSpec : ChangeSpec := { name := "downCount", fn := fun _ => fun
  | [d1, d2, d3] => { results := [.lit (.bool true)], args := [d1, d2, d3] }
  | _ => none }
def downCountRow : OpenClaim := { program := "ytpicjikjinkkpaadoor", sum := "dc28497134e746d7390399a908c831826bb773ab60e26e155f733e23505a0a8e", func := "whenstead/whensteadlaw1.DownCount", spec := "downCount", unfollowed := true, recurses := true, named := ["math/bits.deBruijn32tab", "math/bits.deBruijn64tab"], apart := false, laid := [("math/bits.deBruijn32tab", laid_math_bits_deBruijn32tab), ("math/bits.deBruijn64tab", laid_math_bits_deBruijn64tab)] }
def DownCountSaid : Prop := downCountRow.holds Tryd.pinned (OpenSpec.ofChange downCountSpec)

/-- ITS FALSE NEIGHBOUR: 'it returns false'. Refute it at one input. -/
def downCountWrong : ChangeSpec := { name := "downCount", fn := fun _ => fun
  | [d1, d2, d3] => { results := [.lit (.bool false)], args := [d1, d2, d3] }
  | _ => none }
def DownCountWrongFalsely : Prop := downCountRow.holds Tryd.pinned (OpenSpec.ofChange downCountWrong)

/-- 'whensteadlaw1.OrderMore': WHATEVER THE INPUT: true; the input reads as it did. -/
def orderMoreSpec : ChangeSpec := { name := "orderMore", fn := fun _ => fun
  | [d1, d2, d3] => { results := [.lit (.bool true)], args := [d1, d2, d3] }
  | _ => none }
def orderMoreRow : OpenClaim := { program := "ytpicjikjinkkpaadoor", sum := "dc28497134e746d7390399a908c831826bb773ab60e26e155f733e23505a0a8e", func := "whenstead/whensteadlaw1.OrderMore", spec := "orderMore", inPlace := ["internal/reflectlite.ValueOf", "(internal/reflectlite.Value).Type", "(internal/reflectlite.Value).IsNil", "internal/reflectlite.TypeOf", "(internal/reflectlite.Value).Elem", "(internal/reflectlite.Value).Set"], unfollowed := true, recurses := true, named := ["errors.errorType"], apart := false, laid := [("errors.errorType", laid_errors_errorType)] }
def OrderMoreSaid : Prop := orderMoreRow.holds Tryd.pinned (OpenSpec.ofChange orderMoreSpec)

/-- ITS FALSE NEIGHBOUR: 'it returns false'. Refute it at one input. -/
def orderMoreWrong : ChangeSpec := { name := "orderMore", fn := fun _ => fun
  | [d1, d2, d3] => { results := [.lit (.bool false)], args := [d1, d2, d3] }
  | _ => none }
def OrderMoreWrongFalsely : Prop := orderMoreRow.holds Tryd.pinned (OpenSpec.ofChange orderMoreWrong)

/-- 'whensteadlaw1.OrderSays': WHATEVER THE INPUT: true; the input reads as it did. -/
def orderSaysSpec : ChangeSpec := { name := "orderSays", fn := fun _ => fun
  | [d1, d2, d3] => { results := [.lit (.bool true)], args := [d1, d2, d3] }
  | _ => none }
def orderSaysRow : OpenClaim := { program := "ytpicjikjinkkpaadoor", sum := "dc28497134e746d7390399a908c831826bb773ab60e26e155f733e23505a0a8e", func := "whenstead/whensteadlaw1.OrderSays", spec := "orderSays", inPlace := ["internal/reflectlite.ValueOf", "(internal/reflectlite.Value).Type", "(internal/reflectlite.Value).IsNil", "internal/reflectlite.TypeOf", "(internal/reflectlite.Value).Elem", "(internal/reflectlite.Value).Set"], unfollowed := true, recurses := true, named := ["errors.errorType", "math/bits.deBruijn32tab", "math/bits.deBruijn64tab"], apart := false, laid := [("math/bits.deBruijn32tab", laid_math_bits_deBruijn32tab), ("math/bits.deBruijn64tab", laid_math_bits_deBruijn64tab), ("errors.errorType", laid_errors_errorType)] }
def OrderSaysSaid : Prop := orderSaysRow.holds Tryd.pinned (OpenSpec.ofChange orderSaysSpec)

/-- ITS FALSE NEIGHBOUR: 'it returns false'. Refute it at one input. -/
def orderSaysWrong : ChangeSpec := { name := "orderSays", fn := fun _ => fun
  | [d1, d2, d3] => { results := [.lit (.bool false)], args := [d1, d2, d3] }
  | _ => none }
def OrderSaysWrongFalsely : Prop := orderSaysRow.holds Tryd.pinned (OpenSpec.ofChange orderSaysWrong)

/-- 'whensteadlaw1.DownSays': WHATEVER THE INPUT: true; the input reads as it did. -/
def downSaysSpec : ChangeSpec := { name := "downSays", fn := fun _ => fun
  | [d1, d2] => { results := [.lit (.bool true)], args := [d1, d2] }
  | _ => none }
def downSaysRow : OpenClaim := { program := "ytpicjikjinkkpaadoor", sum := "dc28497134e746d7390399a908c831826bb773ab60e26e155f733e23505a0a8e", func := "whenstead/whensteadlaw1.DownSays", spec := "downSays", inPlace := ["internal/reflectlite.ValueOf", "(internal/reflectlite.Value).Type", "(internal/reflectlite.Value).IsNil", "internal/reflectlite.TypeOf", "(internal/reflectlite.Value).Elem", "(internal/reflectlite.Value).Set"], unfollowed := true, recurses := true, named := ["math/bits.deBruijn32tab", "math/bits.deBruijn64tab", "errors.errorType"], apart := false, laid := [("math/bits.deBruijn32tab", laid_math_bits_deBruijn32tab), ("math/bits.deBruijn64tab", laid_math_bits_deBruijn64tab), ("errors.errorType", laid_errors_errorType)] }
def DownSaysSaid : Prop := downSaysRow.holds Tryd.pinned (OpenSpec.ofChange downSaysSpec)

/-- ITS FALSE NEIGHBOUR: 'it returns false'. Refute it at one input. -/
def downSaysWrong : ChangeSpec := { name := "downSays", fn := fun _ => fun
  | [d1, d2] => { results := [.lit (.bool false)], args := [d1, d2] }
  | _ => none }
def DownSaysWrongFalsely : Prop := downSaysRow.holds Tryd.pinned (OpenSpec.ofChange downSaysWrong)

/-- 'whensteadlaw1.ExtendSays': WHATEVER THE INPUT: true; the input reads as it did. -/
def extendSaysSpec : ChangeSpec := { name := "extendSays", fn := fun _ => fun
  | [d1, d2] => { results := [.lit (.bool true)], args := [d1, d2] }
  | _ => none }
def extendSaysRow : OpenClaim := { program := "ytpicjikjinkkpaadoor", sum := "dc28497134e746d7390399a908c831826bb773ab60e26e155f733e23505a0a8e", func := "whenstead/whensteadlaw1.ExtendSays", spec := "extendSays", inPlace := ["internal/reflectlite.ValueOf", "(internal/reflectlite.Value).Type", "(internal/reflectlite.Value).IsNil", "internal/reflectlite.TypeOf", "(internal/reflectlite.Value).Elem", "(internal/reflectlite.Value).Set"], unfollowed := true, recurses := true, named := ["math/bits.deBruijn32tab", "math/bits.deBruijn64tab", "errors.errorType"], apart := false, laid := [("math/bits.deBruijn32tab", laid_math_bits_deBruijn32tab), ("math/bits.deBruijn64tab", laid_math_bits_deBruijn64tab), ("errors.errorType", laid_errors_errorType)] }
def ExtendSaysSaid : Prop := extendSaysRow.holds Tryd.pinned (OpenSpec.ofChange extendSaysSpec)

/-- ITS FALSE NEIGHBOUR: 'it returns false'. Refute it at one input. -/
def extendSaysWrong : ChangeSpec := { name := "extendSays", fn := fun _ => fun
  | [d1, d2] => { results := [.lit (.bool false)], args := [d1, d2] }
  | _ => none }
def ExtendSaysWrongFalsely : Prop := extendSaysRow.holds Tryd.pinned (OpenSpec.ofChange extendSaysWrong)

/-- 'whensteadlaw1.ChainSays': WHATEVER THE INPUT: true; the input reads as it did. -/
def chainSaysSpec : ChangeSpec := { name := "chainSays", fn := fun _ => fun
  | [d] => { results := [.lit (.bool true)], args := [d] }
  | _ => none }
def chainSaysRow : OpenClaim := { program := "ytpicjikjinkkpaadoor", sum := "dc28497134e746d7390399a908c831826bb773ab60e26e155f733e23505a0a8e", func := "whenstead/whensteadlaw1.ChainSays", spec := "chainSays", inPlace := ["internal/reflectlite.ValueOf", "(internal/reflectlite.Value).Type", "(internal/reflectlite.Value).IsNil", "internal/reflectlite.TypeOf", "(internal/reflectlite.Value).Elem", "(internal/reflectlite.Value).Set"], unfollowed := true, recurses := true, named := ["math/bits.deBruijn32tab", "math/bits.deBruijn64tab", "errors.errorType"], apart := false, laid := [("math/bits.deBruijn32tab", laid_math_bits_deBruijn32tab), ("math/bits.deBruijn64tab", laid_math_bits_deBruijn64tab), ("errors.errorType", laid_errors_errorType)] }
def ChainSaysSaid : Prop := chainSaysRow.holds Tryd.pinned (OpenSpec.ofChange chainSaysSpec)

/-- ITS FALSE NEIGHBOUR: 'it returns false'. Refute it at one input. -/
def chainSaysWrong : ChangeSpec := { name := "chainSays", fn := fun _ => fun
  | [d] => { results := [.lit (.bool false)], args := [d] }
  | _ => none }
def ChainSaysWrongFalsely : Prop := chainSaysRow.holds Tryd.pinned (OpenSpec.ofChange chainSaysWrong)

/- THE SECOND FORM. 'bulk': how many values and letters a reading holds, each counted each time it is reached (what is shared counts as often as it is met; a slice's spare places count too). A statement '..UptoSaid' is the law's where the arguments, and the package variables that the reading takes, are together of bulk at most 1048576: NARROWER than '..Said'. Prove '..Said' where nothing that the law and all that it calls make is longer than what came in: it says more and counts as full. Else prove '..UptoSaid'. A law counts once. -/
mutual
def uptoBulk {H : Type} : DataW H → Nat
  | .lit (.string bytes) => bytes.length + 1
  | .lit _ => 1
  | .nil => 1
  | .ptr d => uptoBulk d + 1
  | .slice elems spare => uptoBulkAll elems + uptoBulkAll spare + 1
  | .agg parts => uptoBulkAll parts + 1
  | .iface _ d => uptoBulk d + 1
  | .map entries => uptoBulkEntries entries + 1
  | .held _ => 1
def uptoBulkAll {H : Type} : List (DataW H) → Nat
  | [] => 0
  | d :: r => uptoBulk d + uptoBulkAll r
def uptoBulkEntries {H : Type} : List (Lit × DataW H) → Nat
  | [] => 0
  | x :: r => uptoBulkEntry x + uptoBulkEntries r
def uptoBulkEntry {H : Type} : Lit × DataW H → Nat
  | (.string bytes, d) => bytes.length + uptoBulk d + 1
  | (_, d) => uptoBulk d + 1
 end
def uptoSmall : (H : Type) → List (DataW H) → Bool := fun _ ds => decide (uptoBulkAll ds ≤ 1048576)
def OpenSpec.upto (s : _root_.Go.ChangeSpec) : _root_.Go.OpenSpec := { _root_.Go.OpenSpec.ofChange s with cond := some uptoSmall }

/-- 'whensteadlaw1.OrderRules', WHERE WHAT IT READS IS OF BULK AT MOST 1048576: true; the input reads as it did. -/
def orderRulesUptoRow : OpenClaim := { program := "ytpicjikjinkkpaadoor", sum := "dc28497134e746d7390399a908c831826bb773ab60e26e155f733e23505a0a8e", func := "whenstead/whensteadlaw1.OrderRules", spec := "orderRules", unfollowed := true, recurses := true, named := ["math/bits.deBruijn32tab", "math/bits.deBruijn64tab"], apart := false, laid := [("math/bits.deBruijn32tab", laid_math_bits_deBruijn32tab), ("math/bits.deBruijn64tab", laid_math_bits_deBruijn64tab)], narrowed := true }
def OrderRulesUptoSaid : Prop := orderRulesUptoRow.holds Tryd.pinned (OpenSpec.upto orderRulesSpec)

/-- 'whensteadlaw1.DownCloses', WHERE WHAT IT READS IS OF BULK AT MOST 1048576: true; the input reads as it did. -/
def downClosesUptoRow : OpenClaim := { program := "ytpicjikjinkkpaadoor", sum := "dc28497134e746d7390399a908c831826bb773ab60e26e155f733e23505a0a8e", func := "whenstead/whensteadlaw1.DownCloses", spec := "downCloses", unfollowed := true, recurses := true, named := ["math/bits.deBruijn32tab", "math/bits.deBruijn64tab"], apart := false, laid := [("math/bits.deBruijn32tab", laid_math_bits_deBruijn32tab), ("math/bits.deBruijn64tab", laid_math_bits_deBruijn64tab)], narrowed := true }
def DownClosesUptoSaid : Prop := downClosesUptoRow.holds Tryd.pinned (OpenSpec.upto downClosesSpec)

/-- 'whensteadlaw1.DownLattice', WHERE WHAT IT READS IS OF BULK AT MOST 1048576: true; the input reads as it did. -/
def downLatticeUptoRow : OpenClaim := { program := "ytpicjikjinkkpaadoor", sum := "dc28497134e746d7390399a908c831826bb773ab60e26e155f733e23505a0a8e", func := "whenstead/whensteadlaw1.DownLattice", spec := "downLattice", unfollowed := true, recurses := true, named := ["math/bits.deBruijn32tab", "math/bits.deBruijn64tab"], apart := false, laid := [("math/bits.deBruijn32tab", laid_math_bits_deBruijn32tab), ("math/bits.deBruijn64tab", laid_math_bits_deBruijn64tab)], narrowed := true }
def DownLatticeUptoSaid : Prop := downLatticeUptoRow.holds Tryd.pinned (OpenSpec.upto downLatticeSpec)

/-- 'whensteadlaw1.ExtendParts', WHERE WHAT IT READS IS OF BULK AT MOST 1048576: true; the input reads as it did. -/
def extendPartsUptoRow : OpenClaim := { program := "ytpicjikjinkkpaadoor", sum := "dc28497134e746d7390399a908c831826bb773ab60e26e155f733e23505a0a8e", func := "whenstead/whensteadlaw1.ExtendParts", spec := "extendParts", unfollowed := true, recurses := true, named := ["math/bits.deBruijn32tab", "math/bits.deBruijn64tab"], apart := false, laid := [("math/bits.deBruijn32tab", laid_math_bits_deBruijn32tab), ("math/bits.deBruijn64tab", laid_math_bits_deBruijn64tab)], narrowed := true }
def ExtendPartsUptoSaid : Prop := extendPartsUptoRow.holds Tryd.pinned (OpenSpec.upto extendPartsSpec)

/-- 'whensteadlaw1.DownLast', WHERE WHAT IT READS IS OF BULK AT MOST 1048576: true; the input reads as it did. -/
def downLastUptoRow : OpenClaim := { program := "ytpicjikjinkkpaadoor", sum := "dc28497134e746d7390399a908c831826bb773ab60e26e155f733e23505a0a8e", func := "whenstead/whensteadlaw1.DownLast", spec := "downLast", unfollowed := true, recurses := true, named := ["math/bits.deBruijn32tab", "math/bits.deBruijn64tab"], apart := false, laid := [("math/bits.deBruijn32tab", laid_math_bits_deBruijn32tab), ("math/bits.deBruijn64tab", laid_math_bits_deBruijn64tab)], narrowed := true }
def DownLastUptoSaid : Prop := downLastUptoRow.holds Tryd.pinned (OpenSpec.upto downLastSpec)

/-- 'whensteadlaw1.ExtendKeeps', WHERE WHAT IT READS IS OF BULK AT MOST 1048576: true; the input reads as it did. -/
def extendKeepsUptoRow : OpenClaim := { program := "ytpicjikjinkkpaadoor", sum := "dc28497134e746d7390399a908c831826bb773ab60e26e155f733e23505a0a8e", func := "whenstead/whensteadlaw1.ExtendKeeps", spec := "extendKeeps", unfollowed := true, recurses := true, named := ["math/bits.deBruijn32tab", "math/bits.deBruijn64tab"], apart := false, laid := [("math/bits.deBruijn32tab", laid_math_bits_deBruijn32tab), ("math/bits.deBruijn64tab", laid_math_bits_deBruijn64tab)], narrowed := true }
def ExtendKeepsUptoSaid : Prop := extendKeepsUptoRow.holds Tryd.pinned (OpenSpec.upto extendKeepsSpec)

/-- 'whensteadlaw1.ChainMirsky', WHERE WHAT IT READS IS OF BULK AT MOST 1048576: true; the input reads as it did. -/
def chainMirskyUptoRow : OpenClaim := { program := "ytpicjikjinkkpaadoor", sum := "dc28497134e746d7390399a908c831826bb773ab60e26e155f733e23505a0a8e", func := "whenstead/whensteadlaw1.ChainMirsky", spec := "chainMirsky", unfollowed := true, recurses := true, named := ["math/bits.deBruijn32tab", "math/bits.deBruijn64tab"], apart := false, laid := [("math/bits.deBruijn32tab", laid_math_bits_deBruijn32tab), ("math/bits.deBruijn64tab", laid_math_bits_deBruijn64tab)], narrowed := true }
def ChainMirskyUptoSaid : Prop := chainMirskyUptoRow.holds Tryd.pinned (OpenSpec.upto chainMirskySpec)

/-- 'whensteadlaw1.ChainMore', WHERE WHAT IT READS IS OF BULK AT MOST 1048576: true; the input reads as it did. -/
def chainMoreUptoRow : OpenClaim := { program := "ytpicjikjinkkpaadoor", sum := "dc28497134e746d7390399a908c831826bb773ab60e26e155f733e23505a0a8e", func := "whenstead/whensteadlaw1.ChainMore", spec := "chainMore", unfollowed := true, recurses := true, named := ["math/bits.deBruijn32tab", "math/bits.deBruijn64tab"], apart := false, laid := [("math/bits.deBruijn32tab", laid_math_bits_deBruijn32tab), ("math/bits.deBruijn64tab", laid_math_bits_deBruijn64tab)], narrowed := true }
def ChainMoreUptoSaid : Prop := chainMoreUptoRow.holds Tryd.pinned (OpenSpec.upto chainMoreSpec)

/-- 'whensteadlaw1.ExtendBounds', WHERE WHAT IT READS IS OF BULK AT MOST 1048576: true; the input reads as it did. -/
def extendBoundsUptoRow : OpenClaim := { program := "ytpicjikjinkkpaadoor", sum := "dc28497134e746d7390399a908c831826bb773ab60e26e155f733e23505a0a8e", func := "whenstead/whensteadlaw1.ExtendBounds", spec := "extendBounds", unfollowed := true, recurses := true, named := ["math/bits.deBruijn32tab", "math/bits.deBruijn64tab"], apart := false, laid := [("math/bits.deBruijn32tab", laid_math_bits_deBruijn32tab), ("math/bits.deBruijn64tab", laid_math_bits_deBruijn64tab)], narrowed := true }
def ExtendBoundsUptoSaid : Prop := extendBoundsUptoRow.holds Tryd.pinned (OpenSpec.upto extendBoundsSpec)

/-- 'whensteadlaw1.ChainDilworth', WHERE WHAT IT READS IS OF BULK AT MOST 1048576: true; the input reads as it did. -/
def chainDilworthUptoRow : OpenClaim := { program := "ytpicjikjinkkpaadoor", sum := "dc28497134e746d7390399a908c831826bb773ab60e26e155f733e23505a0a8e", func := "whenstead/whensteadlaw1.ChainDilworth", spec := "chainDilworth", unfollowed := true, recurses := true, named := ["math/bits.deBruijn32tab", "math/bits.deBruijn64tab"], apart := false, laid := [("math/bits.deBruijn32tab", laid_math_bits_deBruijn32tab), ("math/bits.deBruijn64tab", laid_math_bits_deBruijn64tab)], narrowed := true }
def ChainDilworthUptoSaid : Prop := chainDilworthUptoRow.holds Tryd.pinned (OpenSpec.upto chainDilworthSpec)

/-- 'whensteadlaw1.DownCount', WHERE WHAT IT READS IS OF BULK AT MOST 1048576: true; the input reads as it did. -/
def downCountUptoRow : OpenClaim := { program := "ytpicjikjinkkpaadoor", sum := "dc28497134e746d7390399a908c831826bb773ab60e26e155f733e23505a0a8e", func := "whenstead/whensteadlaw1.DownCount", spec := "downCount", unfollowed := true, recurses := true, named := ["math/bits.deBruijn32tab", "math/bits.deBruijn64tab"], apart := false, laid := [("math/bits.deBruijn32tab", laid_math_bits_deBruijn32tab), ("math/bits.deBruijn64tab", laid_math_bits_deBruijn64tab)], narrowed := true }
def DownCountUptoSaid : Prop := downCountUptoRow.holds Tryd.pinned (OpenSpec.upto downCountSpec)

/-- 'whensteadlaw1.OrderMore', WHERE WHAT IT READS IS OF BULK AT MOST 1048576: true; the input reads as it did. -/
def orderMoreUptoRow : OpenClaim := { program := "ytpicjikjinkkpaadoor", sum := "dc28497134e746d7390399a908c831826bb773ab60e26e155f733e23505a0a8e", func := "whenstead/whensteadlaw1.OrderMore", spec := "orderMore", inPlace := ["internal/reflectlite.ValueOf", "(internal/reflectlite.Value).Type", "(internal/reflectlite.Value).IsNil", "internal/reflectlite.TypeOf", "(internal/reflectlite.Value).Elem", "(internal/reflectlite.Value).Set"], unfollowed := true, recurses := true, named := ["errors.errorType"], apart := false, laid := [("errors.errorType", laid_errors_errorType)], narrowed := true }
def OrderMoreUptoSaid : Prop := orderMoreUptoRow.holds Tryd.pinned (OpenSpec.upto orderMoreSpec)

/-- 'whensteadlaw1.OrderSays', WHERE WHAT IT READS IS OF BULK AT MOST 1048576: true; the input reads as it did. -/
def orderSaysUptoRow : OpenClaim := { program := "ytpicjikjinkkpaadoor", sum := "dc28497134e746d7390399a908c831826bb773ab60e26e155f733e23505a0a8e", func := "whenstead/whensteadlaw1.OrderSays", spec := "orderSays", inPlace := ["internal/reflectlite.ValueOf", "(internal/reflectlite.Value).Type", "(internal/reflectlite.Value).IsNil", "internal/reflectlite.TypeOf", "(internal/reflectlite.Value).Elem", "(internal/reflectlite.Value).Set"], unfollowed := true, recurses := true, named := ["errors.errorType", "math/bits.deBruijn32tab", "math/bits.deBruijn64tab"], apart := false, laid := [("math/bits.deBruijn32tab", laid_math_bits_deBruijn32tab), ("math/bits.deBruijn64tab", laid_math_bits_deBruijn64tab), ("errors.errorType", laid_errors_errorType)], narrowed := true }
def OrderSaysUptoSaid : Prop := orderSaysUptoRow.holds Tryd.pinned (OpenSpec.upto orderSaysSpec)

/-- 'whensteadlaw1.DownSays', WHERE WHAT IT READS IS OF BULK AT MOST 1048576: true; the input reads as it did. -/
def downSaysUptoRow : OpenClaim := { program := "ytpicjikjinkkpaadoor", sum := "dc28497134e746d7390399a908c831826bb773ab60e26e155f733e23505a0a8e", func := "whenstead/whensteadlaw1.DownSays", spec := "downSays", inPlace := ["internal/reflectlite.ValueOf", "(internal/reflectlite.Value).Type", "(internal/reflectlite.Value).IsNil", "internal/reflectlite.TypeOf", "(internal/reflectlite.Value).Elem", "(internal/reflectlite.Value).Set"], unfollowed := true, recurses := true, named := ["math/bits.deBruijn32tab", "math/bits.deBruijn64tab", "errors.errorType"], apart := false, laid := [("math/bits.deBruijn32tab", laid_math_bits_deBruijn32tab), ("math/bits.deBruijn64tab", laid_math_bits_deBruijn64tab), ("errors.errorType", laid_errors_errorType)], narrowed := true }
def DownSaysUptoSaid : Prop := downSaysUptoRow.holds Tryd.pinned (OpenSpec.upto downSaysSpec)

/-- 'whensteadlaw1.ExtendSays', WHERE WHAT IT READS IS OF BULK AT MOST 1048576: true; the input reads as it did. -/
def extendSaysUptoRow : OpenClaim := { program := "ytpicjikjinkkpaadoor", sum := "dc28497134e746d7390399a908c831826bb773ab60e26e155f733e23505a0a8e", func := "whenstead/whensteadlaw1.ExtendSays", spec := "extendSays", inPlace := ["internal/reflectlite.ValueOf", "(internal/reflectlite.Value).Type", "(internal/reflectlite.Value).IsNil", "internal/reflectlite.TypeOf", "(internal/reflectlite.Value).Elem", "(internal/reflectlite.Value).Set"], unfollowed := true, recurses := true, named := ["math/bits.deBruijn32tab", "math/bits.deBruijn64tab", "errors.errorType"], apart := false, laid := [("math/bits.deBruijn32tab", laid_math_bits_deBruijn32tab), ("math/bits.deBruijn64tab", laid_math_bits_deBruijn64tab), ("errors.errorType", laid_errors_errorType)], narrowed := true }
def ExtendSaysUptoSaid : Prop := extendSaysUptoRow.holds Tryd.pinned (OpenSpec.upto extendSaysSpec)

/-- 'whensteadlaw1.ChainSays', WHERE WHAT IT READS IS OF BULK AT MOST 1048576: true; the input reads as it did. -/
def chainSaysUptoRow : OpenClaim := { program := "ytpicjikjinkkpaadoor", sum := "dc28497134e746d7390399a908c831826bb773ab60e26e155f733e23505a0a8e", func := "whenstead/whensteadlaw1.ChainSays", spec := "chainSays", inPlace := ["internal/reflectlite.ValueOf", "(internal/reflectlite.Value).Type", "(internal/reflectlite.Value).IsNil", "internal/reflectlite.TypeOf", "(internal/reflectlite.Value).Elem", "(internal/reflectlite.Value).Set"], unfollowed := true, recurses := true, named := ["math/bits.deBruijn32tab", "math/bits.deBruijn64tab", "errors.errorType"], apart := false, laid := [("math/bits.deBruijn32tab", laid_math_bits_deBruijn32tab), ("math/bits.deBruijn64tab", laid_math_bits_deBruijn64tab), ("errors.errorType", laid_errors_errorType)], narrowed := true }
def ChainSaysUptoSaid : Prop := chainSaysUptoRow.holds Tryd.pinned (OpenSpec.upto chainSaysSpec)

end Rows
end Go.Proofs.YtpicjikjinkkpaaDoor
