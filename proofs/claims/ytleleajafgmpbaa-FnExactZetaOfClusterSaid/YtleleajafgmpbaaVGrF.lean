/- What a graph is: the reference's test. No condition. -/
import Derived.Test.YtleleajafgmpbaaVGrC
namespace Go.Proofs.Ytleleajafgmpbaa
set_option maxHeartbeats 20000000
set_option linter.unusedVariables false
set_option linter.unusedSimpArgs false
open Go.Pv
open Go.ChangeShapes Go.WideShapes Go.ChangeAt Go.RowKit
attribute [local irreducible] RunU WpA Step CallG CallNG Done DoneN
instance fnOk114 : FnOk Try.prog 114 := ⟨_, Try.func114, rfl, by decide⟩
instance fnOk105 : FnOk Try.prog 105 := ⟨_, Try.func105, rfl, by decide⟩
attribute [local irreducible] IsGr decIsGr GoodE GoodAt Acy Joins
end Go.Proofs.Ytleleajafgmpbaa
