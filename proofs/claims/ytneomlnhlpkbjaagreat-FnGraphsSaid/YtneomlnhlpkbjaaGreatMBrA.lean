/- Lists of branches within bounds: the program and its reference make the same list. No condition. -/
import Derived.Test.YtneomlnhlpkbjaaGreatMAcA
import Derived.Test.YtneomlnhlpkbjaaGreatMNuA
set_option linter.unusedVariables false
set_option linter.unusedSimpArgs false
namespace Go.Proofs.YtneomlnhlpkbjaaGreat
set_option maxHeartbeats 20000000
open Go.Pv
open Go.ChangeShapes Go.WideShapes Go.ChangeAt Go.RowKit
attribute [local irreducible] RunU WpA Step CallG CallNG Done DoneN
end Go.Proofs.YtneomlnhlpkbjaaGreat
namespace Go.Proofs.YtneomlnhlpkbjaaGreat
set_option maxHeartbeats 20000000
open Go.Pv
open Go.ChangeShapes Go.WideShapes Go.ChangeAt Go.RowKit
attribute [local irreducible] RunU WpA Step CallG CallNG Done DoneN
def divTo (l : List Int) : Nat → Int
  | 0 => 0
  | j + 1 => (Int.gcd (divTo l j) (l.getD j 0) : Int)
def divs (l : List Int) : Nat → List Int
  | 0 => []
  | j + 1 => divs l j ++ [divTo l (j + 1)]
end Go.Proofs.YtneomlnhlpkbjaaGreat
