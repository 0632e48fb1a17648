/- A word for functions that hold a label, in the wide fence. Conditions: none. -/
import Derived.Test.YtpicjikjinkkpaaDoorMarks
import Derived.WalkMore
namespace Go.Proofs.YtpicjikjinkkpaaDoor
open Go.RowKit Go.Shelf

theorem wpIn_scope_wide {n : Nat} {P : Program} {c : Code} {Q : Exit → Act → World → Prop} {a : Act} {w : World} (h : c.wpIn Fence.wide n P (Exit.noGoto Q) a w) : (Code.scope c).wpIn Fence.wide n P Q a w :=
  wpIn_wide.2 (wp_scope_straight (wpIn_wide.1 h))

end Go.Proofs.YtpicjikjinkkpaaDoor
