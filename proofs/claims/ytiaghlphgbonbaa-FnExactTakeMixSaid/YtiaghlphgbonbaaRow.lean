/-
  What the rows of this seat share: the program's knob, its layout; how an argument is opened into what the walks ask for. Conditions: none.
-/
import Derived.Test.YtiaghlphgbonbaaRows
import Derived.Test.YtiaghlphgbonbaaLib
import Derived.ProofKit
import Derived.OpenShut
import Derived.ChangeOld
import Derived.Lib.SmallJoins
import Derived.Deep.Slices
import Derived.Deep.Fields
namespace Go.Proofs.Ytiaghlphgbonbaa
open Go.ChangeShapes Go.WideShapes Go.ChangeAt Go.RowKit Go.Joins

theorem own : ownKnob Try.prog.godebug = none := by kernel_rfl
theorem laidOut : laidOutB Try.prog = true := by kernel_rfl
end Go.Proofs.Ytiaghlphgbonbaa
