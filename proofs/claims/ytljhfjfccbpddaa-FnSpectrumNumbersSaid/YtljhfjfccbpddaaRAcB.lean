/- The lists of codes: the program and its reference make the same list. No condition. -/
import Derived.Test.YtljhfjfccbpddaaRAcA
namespace Go.Proofs.Ytljhfjfccbpddaa
set_option maxHeartbeats 20000000
set_option linter.unusedVariables false
set_option linter.unusedSimpArgs false
open Go.Pv
open Go.ChangeShapes Go.WideShapes Go.ChangeAt Go.RowKit
attribute [local irreducible] RunU WpA Step CallG CallNG Done DoneN
def lastOf (l : List Int) : Int := l.getD (l.length - 1) 0
end Go.Proofs.Ytljhfjfccbpddaa
