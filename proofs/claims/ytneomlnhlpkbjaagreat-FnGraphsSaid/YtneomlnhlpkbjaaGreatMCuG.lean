/- Permutations in order, and the lists by which curves are compared. No condition. -/
import Derived.Test.YtneomlnhlpkbjaaGreatMCuE
import Derived.Test.YtneomlnhlpkbjaaGreatMPvX
import Derived.Test.YtneomlnhlpkbjaaGreatMPwE
import Derived.Test.YtneomlnhlpkbjaaGreatProg
set_option linter.unusedVariables false
set_option linter.unusedSimpArgs false
namespace Go.Proofs.YtneomlnhlpkbjaaGreat
set_option maxHeartbeats 20000000
open Go.Pv
open Go.ChangeShapes Go.WideShapes Go.ChangeAt Go.RowKit
attribute [local irreducible] RunU WpA Step CallG CallNG Done DoneN
attribute [local irreducible] decStrict decFalls decIsBr decWithin Strict Falls IsBr Within
abbrev vLL (L : List (List Int)) : AV := .c (.sl false 1 (LLs L))
def CellG (x : Int) (i k : Nat) : Prop := (i = k ∧ x = 0) ∨ (i ≠ k ∧ 1 ≤ x ∧ x ≤ 200)
instance decCellG (x : Int) (i k : Nat) : Decidable (CellG x i k) := by unfold CellG; infer_instance
end Go.Proofs.YtneomlnhlpkbjaaGreat
namespace Go.Pv
open Go.RowKit
open Go.Sort
section
variable {P : Program} {n : NN} {nid : Nat} {st : Nat → AV} {f : Fr} {X : Nat → Prop} {a : Act} {w : World} {ρ : Nat → Rho} {L : Nat → List Nat}
end
end Go.Pv
namespace Go.Proofs.YtneomlnhlpkbjaaGreat
end Go.Proofs.YtneomlnhlpkbjaaGreat
namespace Go.Proofs.YtneomlnhlpkbjaaGreat
set_option maxHeartbeats 20000000
open Go.Pv
open Go.ChangeShapes Go.WideShapes Go.ChangeAt Go.RowKit
attribute [local irreducible] RunU WpA Step CallG CallNG Done DoneN
instance fnOk149 : FnOk Tryz.prog 149 := ⟨_, Tryz.func149, rfl, by decide⟩
end Go.Proofs.YtneomlnhlpkbjaaGreat
