/- Contracts of the functions on lists of lists of numbers: copying, comparing, marking, and the lists of codes. No condition. -/
import Derived.Test.YtfkhngjkpjcdfaaSSpA
namespace Go.Proofs.Ytfkhngjkpjcdfaa
set_option maxHeartbeats 20000000
set_option linter.unusedVariables false
set_option linter.unusedSimpArgs false
open Go.Pv
open Go.ChangeShapes Go.WideShapes Go.ChangeAt Go.RowKit
attribute [local irreducible] RunU WpA Step CallG CallNG Done DoneN
instance fnOk158 : FnOk Try.prog 158 := ⟨_, Try.func158, rfl, by decide⟩
instance fnOk161 : FnOk Try.prog 161 := ⟨_, Try.func161, rfl, by decide⟩
instance fnOk54 : FnOk Try.prog 54 := ⟨_, Try.func54, rfl, by decide⟩
instance fnOk40 : FnOk Try.prog 40 := ⟨_, Try.func40, rfl, by decide⟩
instance fnOk55 : FnOk Try.prog 55 := ⟨_, Try.func55, rfl, by decide⟩
instance fnOk41 : FnOk Try.prog 41 := ⟨_, Try.func41, rfl, by decide⟩
instance fnOk56 : FnOk Try.prog 56 := ⟨_, Try.func56, rfl, by decide⟩
abbrev aLL (L : List (List Int)) : Arg := .sh (.one (.sl false 1 (LLs L)))
abbrev rLL (L : List (List Int)) : V := .one (.sl true 1 (LL L))
end Go.Proofs.Ytfkhngjkpjcdfaa
