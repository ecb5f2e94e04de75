/- Determinants of parts of graphs by the reference; linking numbers by both. No condition. -/
import Derived.Test.YtfkhngjkpjcdfaaTGrZ
import Derived.Test.YtfkhngjkpjcdfaaTGrW
namespace Go.Proofs.Ytfkhngjkpjcdfaa
set_option maxHeartbeats 20000000
set_option linter.unusedVariables false
set_option linter.unusedSimpArgs false
open Go.Pv
open Go.ChangeShapes Go.WideShapes Go.ChangeAt Go.RowKit
attribute [local irreducible] RunU WpA Step CallG CallNG Done DoneN
instance fnOk137 : FnOk Try.prog 137 := ⟨_, Try.func137, rfl, by decide⟩
instance fnOk89 : FnOk Try.prog 89 := ⟨_, Try.func89, rfl, by decide⟩
instance fnOk91 : FnOk Try.prog 91 := ⟨_, Try.func91, rfl, by decide⟩
end Go.Proofs.Ytfkhngjkpjcdfaa
