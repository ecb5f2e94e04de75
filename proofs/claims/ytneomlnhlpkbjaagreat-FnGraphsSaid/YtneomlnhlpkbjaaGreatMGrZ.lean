/- Determinants of parts of graphs by the reference; linking numbers by both. No condition. -/
import Derived.Test.YtneomlnhlpkbjaaGreatMGrY
import Derived.Test.YtneomlnhlpkbjaaGreatMGrU
import Derived.Test.YtneomlnhlpkbjaaGreatMGrI
set_option linter.unusedVariables false
set_option linter.unusedSimpArgs false
namespace Go.Proofs.YtneomlnhlpkbjaaGreat
set_option maxHeartbeats 20000000
open Go.Pv
open Go.ChangeShapes Go.WideShapes Go.ChangeAt Go.RowKit
attribute [local irreducible] RunU WpA Step CallG CallNG Done DoneN
instance fnOk197 : FnOk Tryz.prog 197 := ⟨_, Tryz.func197, rfl, by decide⟩
instance fnOk171 : FnOk Tryz.prog 171 := ⟨_, Tryz.func171, rfl, by decide⟩
end Go.Proofs.YtneomlnhlpkbjaaGreat
namespace Go.Proofs.YtneomlnhlpkbjaaGreat
set_option maxHeartbeats 20000000
open Go.Pv
open Go.ChangeShapes Go.WideShapes Go.ChangeAt Go.RowKit
attribute [local irreducible] RunU WpA Step CallG CallNG Done DoneN
instance fnOk110 : FnOk Tryz.prog 110 := ⟨_, Tryz.func110, rfl, by decide⟩
end Go.Proofs.YtneomlnhlpkbjaaGreat
namespace Go.Proofs.YtneomlnhlpkbjaaGreat
set_option maxHeartbeats 20000000
open Go.Pv
open Go.ChangeShapes Go.WideShapes Go.ChangeAt Go.RowKit
attribute [local irreducible] RunU WpA Step CallG CallNG Done DoneN
instance fnOk169 : FnOk Tryz.prog 169 := ⟨_, Tryz.func169, rfl, by decide⟩
instance fnOk107 : FnOk Tryz.prog 107 := ⟨_, Tryz.func107, rfl, by decide⟩
instance fnOk109 : FnOk Tryz.prog 109 := ⟨_, Tryz.func109, rfl, by decide⟩
end Go.Proofs.YtneomlnhlpkbjaaGreat
