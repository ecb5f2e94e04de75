/- Sequences of branches and their Milnor numbers, by the program. No condition. -/
import Derived.Test.YtljhfjfccbpddaaRBrA
import Derived.Test.YtljhfjfccbpddaaRPwF
import Derived.Test.YtljhfjfccbpddaaRPvX
namespace Go.Proofs.Ytljhfjfccbpddaa
set_option maxHeartbeats 20000000
set_option linter.unusedVariables false
set_option linter.unusedSimpArgs false
open Go.Pv
open Go.ChangeShapes Go.WideShapes Go.ChangeAt Go.RowKit
attribute [local irreducible] RunU WpA Step CallG CallNG Done DoneN
abbrev vAb (x : Int) : AV := .c (.lit (.int .i64 x))
abbrev aBr1 (l : List Int) : Arg := .sh (.agg [.sl false 1 (ints l)])
structure Tms (l : List Int) : Prop where
  len : 1 ≤ l.length ∧ l.length ≤ 100
  bnd : ∀ i, 0 ≤ l.getD i 0 ∧ l.getD i 0 ≤ 2000
  asc : ∀ i, i + 1 < l.length → l.getD i 0 ≤ l.getD (i + 1) 0
  pos : 0 < l.getD 0 0
end Go.Proofs.Ytljhfjfccbpddaa
