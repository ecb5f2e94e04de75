/- Codes of points of branches, by both sides. No condition. -/
import Derived.Test.YtneomlnhlpkbjaaGreatMPwE
import Derived.Test.YtneomlnhlpkbjaaGreatMBsA
import Derived.Test.YtneomlnhlpkbjaaGreatMGrC
set_option linter.unusedVariables false
set_option linter.unusedSimpArgs false
namespace Go.Pv
open Go.RowKit
section
variable {P : Program} {n : NN} {nid nx : Nat} {st : Nat → AV} {f : Fr} {X : Nat → Prop} {a : Act} {w : World} {ρ : Nat → Rho} {L : Nat → List Nat}
end
end Go.Pv
namespace Go.Proofs.YtneomlnhlpkbjaaGreat
set_option maxHeartbeats 20000000
open Go.Pv
open Go.ChangeShapes Go.WideShapes Go.ChangeAt Go.RowKit
attribute [local irreducible] RunU WpA Step CallG CallNG Done DoneN
instance fnOk97 : FnOk Tryz.prog 97 := ⟨_, Tryz.func97, rfl, by decide⟩
instance fnOk166 : FnOk Tryz.prog 166 := ⟨_, Tryz.func166, rfl, by decide⟩
attribute [local irreducible] decStrict decFalls decIsBr decWithin Strict Falls IsBr Within
abbrev vQJ (x : Int) : AV := .c (.lit (.int .i64 x))
end Go.Proofs.YtneomlnhlpkbjaaGreat
