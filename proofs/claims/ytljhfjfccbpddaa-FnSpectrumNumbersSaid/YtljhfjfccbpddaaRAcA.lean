/- Contracts of the functions on lists of lists of numbers: copying, comparing, marking, and the lists of codes. No condition. -/
import Derived.Test.YtljhfjfccbpddaaRSpA
namespace Go.Proofs.Ytljhfjfccbpddaa
set_option maxHeartbeats 20000000
set_option linter.unusedVariables false
set_option linter.unusedSimpArgs false
open Go.Pv
open Go.ChangeShapes Go.WideShapes Go.ChangeAt Go.RowKit
attribute [local irreducible] RunU WpA Step CallG CallNG Done DoneN
instance fnOk9 : FnOk Try.prog 9 := ⟨_, Try.func9, rfl, by decide⟩
instance fnOk39 : FnOk Try.prog 39 := ⟨_, Try.func39, rfl, by decide⟩
instance fnOk12 : FnOk Try.prog 12 := ⟨_, Try.func12, rfl, by decide⟩
instance fnOk40 : FnOk Try.prog 40 := ⟨_, Try.func40, rfl, by decide⟩
instance fnOk13 : FnOk Try.prog 13 := ⟨_, Try.func13, rfl, by decide⟩
abbrev aLL (L : List (List Int)) : Arg := .sh (.one (.sl false 1 (LLs L)))
abbrev rLL (L : List (List Int)) : V := .one (.sl true 1 (LL L))
theorem listL_ext : ∀ {a b : List (List Int)}, a.length = b.length → (∀ i, i < a.length → a.getD i [] = b.getD i []) → a = b
  | [], [], _, _ => rfl
  | [], _ :: _, h, _ => by simp at h
  | _ :: _, [], h, _ => by simp at h
  | x :: a, y :: b, h, e => by
    have h0 : x = y := by simpa using e 0 (by simp)
    rw [h0, listL_ext (a := a) (b := b) (by simpa using h) fun i hi => by simpa using e (i + 1) (by simpa using hi)]
end Go.Proofs.Ytljhfjfccbpddaa
