/- The labels of the components of a graph, by the program. No condition. -/
import Derived.Test.YtpdfadnpfmlfgaaDoorNTy
set_option linter.unusedVariables false
set_option linter.unusedSimpArgs false
namespace Go.Proofs.YtpdfadnpfmlfgaaDoor
set_option maxHeartbeats 20000000
open Go.Pv
open Go.ChangeShapes Go.WideShapes Go.ChangeAt Go.RowKit
attribute [local irreducible] RunU WpA Step CallG CallNG Done DoneN
abbrev vGI (x : Int) : AV := .c (.lit (.int .i64 x))
end Go.Proofs.YtpdfadnpfmlfgaaDoor
