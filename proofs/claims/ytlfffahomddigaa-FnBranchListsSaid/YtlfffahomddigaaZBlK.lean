/- Closed facts of the lists of branches. No condition. -/
import Derived.Test.YtlfffahomddigaaZDgA
namespace Go.Proofs.Ytlfffahomddigaa
set_option maxHeartbeats 20000000
set_option linter.unusedVariables false
set_option linter.unusedSimpArgs false
open Go.Pv
open Go.ChangeShapes Go.WideShapes Go.ChangeAt Go.RowKit
attribute [local irreducible] RunU WpA Step CallG CallNG Done DoneN
theorem eqAll : ((List.range 61).all fun m : Nat => decide (specR (m : Int) = (specR 60).filter fun r => decide (muI r ≤ (m : Int)))) = true := by kernel_rfl
end Go.Proofs.Ytlfffahomddigaa
