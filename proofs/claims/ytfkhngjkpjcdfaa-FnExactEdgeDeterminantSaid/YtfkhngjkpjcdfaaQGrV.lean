/- slices.Repeat of one element. No condition. -/
import Derived.Test.YtfkhngjkpjcdfaaQGrD
import Derived.Test.YtfkhngjkpjcdfaaQLay2
import Derived.Test.YtfkhngjkpjcdfaaQPwE
namespace Go.Proofs.Ytfkhngjkpjcdfaa
set_option maxHeartbeats 20000000
set_option linter.unusedVariables false
set_option linter.unusedSimpArgs false
open Go.Pv
open Go.ChangeShapes Go.WideShapes Go.ChangeAt Go.RowKit
attribute [local irreducible] RunU WpA Step CallG CallNG Done DoneN
instance fnOk148 : FnOk Try.prog 148 := ⟨_, Try.func148, rfl, by decide⟩
instance fnOk142 : FnOk Try.prog 142 := ⟨_, Try.func142, rfl, by decide⟩
abbrev aBs (l : List Bool) : Arg := .sh (.one (.sl false 1 (bools l)))
end Go.Proofs.Ytfkhngjkpjcdfaa
