/- Paths and determinants by the reference. No condition. -/
import Derived.Test.YtfkhngjkpjcdfaaTGrU
import Derived.Test.YtfkhngjkpjcdfaaTGrT
namespace Go.Proofs.Ytfkhngjkpjcdfaa
set_option maxHeartbeats 20000000
set_option linter.unusedVariables false
set_option linter.unusedSimpArgs false
open Go.Pv
open Go.ChangeShapes Go.WideShapes Go.ChangeAt Go.RowKit
attribute [local irreducible] RunU WpA Step CallG CallNG Done DoneN
instance fnOk104 : FnOk Try.prog 104 := ⟨_, Try.func104, rfl, by decide⟩
instance fnOk168 : FnOk Try.prog 168 := ⟨_, Try.func168, rfl, by decide⟩
end Go.Proofs.Ytfkhngjkpjcdfaa
