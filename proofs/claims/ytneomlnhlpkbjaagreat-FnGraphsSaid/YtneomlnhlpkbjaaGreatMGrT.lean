/- F and G of all vertices by the reference: the walk. No condition. -/
import Derived.Test.YtneomlnhlpkbjaaGreatMGrQ
set_option linter.unusedVariables false
set_option linter.unusedSimpArgs false
namespace Go.Proofs.YtneomlnhlpkbjaaGreat
set_option maxHeartbeats 20000000
open Go.Pv
open Go.ChangeShapes Go.WideShapes Go.ChangeAt Go.RowKit
attribute [local irreducible] RunU WpA Step CallG CallNG Done DoneN
instance fnOk215 : FnOk Tryz.prog 215 := ⟨_, Tryz.func215, rfl, by decide⟩
end Go.Proofs.YtneomlnhlpkbjaaGreat
