/- slices.Repeat of one element. No condition. -/
import Derived.Test.YtneomlnhlpkbjaaMGrU
import Derived.Test.YtneomlnhlpkbjaaMGrT
import Derived.Test.YtneomlnhlpkbjaaProg
import Derived.Test.YtneomlnhlpkbjaaMGrC
import Derived.Test.YtneomlnhlpkbjaaMPwE
set_option linter.unusedVariables false
set_option linter.unusedSimpArgs false
namespace Go.Proofs.Ytneomlnhlpkbjaa
set_option maxHeartbeats 20000000
open Go.Pv
open Go.ChangeShapes Go.WideShapes Go.ChangeAt Go.RowKit
attribute [local irreducible] RunU WpA Step CallG CallNG Done DoneN
end Go.Proofs.Ytneomlnhlpkbjaa
namespace Go.Proofs.Ytneomlnhlpkbjaa
end Go.Proofs.Ytneomlnhlpkbjaa
namespace Go.Proofs.Ytneomlnhlpkbjaa
set_option maxHeartbeats 20000000
open Go.Pv
open Go.ChangeShapes Go.WideShapes Go.ChangeAt Go.RowKit
attribute [local irreducible] RunU WpA Step CallG CallNG Done DoneN
end Go.Proofs.Ytneomlnhlpkbjaa
