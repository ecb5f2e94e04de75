/- F and G of all vertices by the reference: the walk. No condition. -/
import Derived.Test.YtleleajafgmpbaaVGrS
namespace Go.Proofs.Ytleleajafgmpbaa
set_option maxHeartbeats 20000000
set_option linter.unusedVariables false
set_option linter.unusedSimpArgs false
open Go.Pv
open Go.ChangeShapes Go.WideShapes Go.ChangeAt Go.RowKit
attribute [local irreducible] RunU WpA Step CallG CallNG Done DoneN
instance fnOk106 : FnOk Try.prog 106 := ⟨_, Try.func106, rfl, by decide⟩
end Go.Proofs.Ytleleajafgmpbaa
