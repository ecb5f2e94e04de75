/- Closed facts on the lists of branches of the bounds 0 to 60. No condition. -/
import Derived.Test.YtlfffahomddigaaZDgA
namespace Go.Proofs.Ytlfffahomddigaa
set_option maxHeartbeats 20000000
set_option linter.unusedVariables false
set_option linter.unusedSimpArgs false
open Go.Pv
open Go.ChangeShapes Go.WideShapes Go.ChangeAt Go.RowKit
attribute [local irreducible] RunU WpA Step CallG CallNG Done DoneN
theorem okAll : ((List.range 61).all fun m : Nat => okB (m : Int)) = true := by kernel_rfl
end Go.Proofs.Ytlfffahomddigaa
