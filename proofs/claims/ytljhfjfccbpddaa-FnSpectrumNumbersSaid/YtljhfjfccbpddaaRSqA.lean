/- Contracts of the laws' functions that mark a spectrum, and look for the marks. No condition. -/
import Derived.Test.YtljhfjfccbpddaaRAcA
import Derived.Test.YtljhfjfccbpddaaRPvX
namespace Go.Proofs.Ytljhfjfccbpddaa
set_option maxHeartbeats 20000000
set_option linter.unusedVariables false
set_option linter.unusedSimpArgs false
open Go.Pv
open Go.ChangeShapes Go.WideShapes Go.ChangeAt Go.RowKit
attribute [local irreducible] RunU WpA Step CallG CallNG Done DoneN
instance fnOk11 : FnOk Try.prog 11 := ⟨_, Try.func11, rfl, by decide⟩
end Go.Proofs.Ytljhfjfccbpddaa
