/- What a graph is: the program's test. No condition. -/
import Derived.Test.YtakecbnclmjloaaXGrD
namespace Go.Proofs.Ytakecbnclmjloaa
set_option maxHeartbeats 20000000
set_option linter.unusedVariables false
set_option linter.unusedSimpArgs false
open Go.Pv
open Go.ChangeShapes Go.WideShapes Go.ChangeAt Go.RowKit
attribute [local irreducible] RunU WpA Step CallG CallNG Done DoneN
attribute [local irreducible] IsGr decIsGr GoodE GoodAt Acy Joins
end Go.Proofs.Ytakecbnclmjloaa
