/- Parts of graphs and their determinants, by the program. No condition. -/
import Derived.Test.YtfkhngjkpjcdfaaTGrY
import Derived.Test.YtfkhngjkpjcdfaaTGrV
namespace Go.Proofs.Ytfkhngjkpjcdfaa
set_option maxHeartbeats 20000000
set_option linter.unusedVariables false
set_option linter.unusedSimpArgs false
open Go.Pv
open Go.ChangeShapes Go.WideShapes Go.ChangeAt Go.RowKit
attribute [local irreducible] RunU WpA Step CallG CallNG Done DoneN
instance fnOk171 : FnOk Try.prog 171 := ⟨_, Try.func171, rfl, by decide⟩
instance fnOk140 : FnOk Try.prog 140 := ⟨_, Try.func140, rfl, by decide⟩
end Go.Proofs.Ytfkhngjkpjcdfaa
