/- Contracts of the laws' functions on lists of branches. No condition. -/
import Derived.Test.YtlfffahomddigaaZAcA
namespace Go.Proofs.Ytlfffahomddigaa
set_option maxHeartbeats 20000000
set_option linter.unusedVariables false
set_option linter.unusedSimpArgs false
open Go.Pv
open Go.ChangeShapes Go.WideShapes Go.ChangeAt Go.RowKit
attribute [local irreducible] RunU WpA Step CallG CallNG Done DoneN
instance fnOk18 : FnOk Try.prog 18 := ⟨_, Try.func18, rfl, by decide⟩
instance fnOk11 : FnOk Try.prog 11 := ⟨_, Try.func11, rfl, by decide⟩
instance fnOk12 : FnOk Try.prog 12 := ⟨_, Try.func12, rfl, by decide⟩
instance fnOk13 : FnOk Try.prog 13 := ⟨_, Try.func13, rfl, by decide⟩
end Go.Proofs.Ytlfffahomddigaa
