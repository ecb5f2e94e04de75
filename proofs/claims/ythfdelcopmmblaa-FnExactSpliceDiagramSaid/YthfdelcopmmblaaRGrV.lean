/- slices.Repeat of one element. No condition. -/
import Derived.Test.YthfdelcopmmblaaRGrD
import Derived.Test.YthfdelcopmmblaaRLay2
import Derived.Test.YthfdelcopmmblaaRPwE
namespace Go.Proofs.Ythfdelcopmmblaa
set_option maxHeartbeats 20000000
set_option linter.unusedVariables false
set_option linter.unusedSimpArgs false
open Go.Pv
open Go.ChangeShapes Go.WideShapes Go.ChangeAt Go.RowKit
attribute [local irreducible] RunU WpA Step CallG CallNG Done DoneN
abbrev aBs (l : List Bool) : Arg := .sh (.one (.sl false 1 (bools l)))
end Go.Proofs.Ythfdelcopmmblaa
