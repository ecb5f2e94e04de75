/- Contracts of the functions on lists of lists of numbers: copying, comparing, marking, and the lists of codes. No condition. -/
import Derived.Test.YtakecbnclmjloaaXSpA
namespace Go.Proofs.Ytakecbnclmjloaa
set_option maxHeartbeats 20000000
set_option linter.unusedVariables false
set_option linter.unusedSimpArgs false
open Go.Pv
open Go.ChangeShapes Go.WideShapes Go.ChangeAt Go.RowKit
attribute [local irreducible] RunU WpA Step CallG CallNG Done DoneN
instance fnOk68 : FnOk Try.prog 68 := ⟨_, Try.func68, rfl, by decide⟩
instance fnOk99 : FnOk Try.prog 99 := ⟨_, Try.func99, rfl, by decide⟩
instance fnOk39 : FnOk Try.prog 39 := ⟨_, Try.func39, rfl, by decide⟩
instance fnOk77 : FnOk Try.prog 77 := ⟨_, Try.func77, rfl, by decide⟩
instance fnOk41 : FnOk Try.prog 41 := ⟨_, Try.func41, rfl, by decide⟩
instance fnOk78 : FnOk Try.prog 78 := ⟨_, Try.func78, rfl, by decide⟩
instance fnOk43 : FnOk Try.prog 43 := ⟨_, Try.func43, rfl, by decide⟩
abbrev aLL (L : List (List Int)) : Arg := .sh (.one (.sl false 1 (LLs L)))
abbrev rLL (L : List (List Int)) : V := .one (.sl true 1 (LL L))
end Go.Proofs.Ytakecbnclmjloaa
