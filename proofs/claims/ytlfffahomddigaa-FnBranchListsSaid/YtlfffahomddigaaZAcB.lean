/- The lists of codes: the program and its reference make the same list. No condition. -/
import Derived.Test.YtlfffahomddigaaZAcA
namespace Go.Proofs.Ytlfffahomddigaa
set_option maxHeartbeats 20000000
set_option linter.unusedVariables false
set_option linter.unusedSimpArgs false
open Go.Pv
open Go.ChangeShapes Go.WideShapes Go.ChangeAt Go.RowKit
attribute [local irreducible] RunU WpA Step CallG CallNG Done DoneN
theorem getD_get {l : List Int} {i : Nat} (h : i < l.length) : l.getD i 0 = l[i] := by simp [List.getD, h]
def lastOf (l : List Int) : Int := l.getD (l.length - 1) 0
theorem last_snoc (l : List Int) (c : Int) : lastOf (l ++ [c]) = c := by simp [lastOf]
theorem last_eq (l : List Int) : l.getD (((l.length : Int) - 1).toNat * 1) 0 = lastOf l := by
  rw [lastOf, Nat.mul_one, show ((l.length : Int) - 1).toNat = l.length - 1 by omega]
end Go.Proofs.Ytlfffahomddigaa
