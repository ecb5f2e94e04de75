/- slices.Repeat of one element. No condition. -/
import Derived.Test.YtneomlnhlpkbjaaGreatMGrU
import Derived.Test.YtneomlnhlpkbjaaGreatMGrT
import Derived.Shelf.Bits.Mul64
import Derived.Test.YtneomlnhlpkbjaaGreatProg
import Derived.Test.YtneomlnhlpkbjaaGreatMGrC
import Derived.Test.YtneomlnhlpkbjaaGreatMPwE
set_option linter.unusedVariables false
set_option linter.unusedSimpArgs false
namespace Go.Proofs.YtneomlnhlpkbjaaGreat
set_option maxHeartbeats 20000000
open Go.Pv
open Go.ChangeShapes Go.WideShapes Go.ChangeAt Go.RowKit
attribute [local irreducible] RunU WpA Step CallG CallNG Done DoneN
instance fnOk112 : FnOk Tryz.prog 112 := ⟨_, Tryz.func112, rfl, by decide⟩
instance fnOk195 : FnOk Tryz.prog 195 := ⟨_, Tryz.func195, rfl, by decide⟩
end Go.Proofs.YtneomlnhlpkbjaaGreat
namespace Go.Proofs.YtneomlnhlpkbjaaGreat
open Go.Shelf
end Go.Proofs.YtneomlnhlpkbjaaGreat
namespace Go.Proofs.YtneomlnhlpkbjaaGreat
set_option maxHeartbeats 20000000
open Go.Pv
open Go.ChangeShapes Go.WideShapes Go.ChangeAt Go.RowKit
attribute [local irreducible] RunU WpA Step CallG CallNG Done DoneN
instance fnOk196 : FnOk Tryz.prog 196 := ⟨_, Tryz.func196, rfl, by decide⟩
instance fnOk170 : FnOk Tryz.prog 170 := ⟨_, Tryz.func170, rfl, by decide⟩
end Go.Proofs.YtneomlnhlpkbjaaGreat
