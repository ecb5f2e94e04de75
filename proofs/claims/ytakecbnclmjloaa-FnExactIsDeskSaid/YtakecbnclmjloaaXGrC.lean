/- What a graph is: the program's test. No condition. -/
import Derived.Test.YtakecbnclmjloaaXPvU
import Derived.Test.YtakecbnclmjloaaXAcA
namespace Go.Proofs.Ytakecbnclmjloaa
set_option maxHeartbeats 20000000
set_option linter.unusedVariables false
set_option linter.unusedSimpArgs false
open Go.Pv
open Go.ChangeShapes Go.WideShapes Go.ChangeAt Go.RowKit
attribute [local irreducible] RunU WpA Step CallG CallNG Done DoneN
instance fnOk95 : FnOk Try.prog 95 := ⟨_, Try.func95, rfl, by decide⟩
instance fnOk74 : FnOk Try.prog 74 := ⟨_, Try.func74, rfl, by decide⟩
end Go.Proofs.Ytakecbnclmjloaa
