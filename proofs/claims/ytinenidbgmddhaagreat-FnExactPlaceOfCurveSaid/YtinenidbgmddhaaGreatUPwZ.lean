/- The curve with a name, by the reference. No condition. -/
import Derived.Test.YtinenidbgmddhaaGreatUPwX
import Derived.Test.YtinenidbgmddhaaGreatUPvZ
import Derived.Test.YtinenidbgmddhaaGreatUPvU
import Derived.Test.YtinenidbgmddhaaGreatUCwB
import Derived.Test.YtinenidbgmddhaaGreatUPwS
import Derived.Test.YtinenidbgmddhaaGreatUCvD
import Derived.Test.YtinenidbgmddhaaGreatUCvE
set_option linter.unusedVariables false
set_option linter.unusedSimpArgs false
namespace Go.Pv
open Go.RowKit
section
variable {P : Program} {n : NN} {nid : Nat} {st : Nat → AV}
theorem WpA.freezeInC {nx : Nat} {Q : Exit → (Nat → AV) → Nat → Prop} {c : Code} (t x : Nat) {id sz : Nat} {cs ds : List D} (ds' : List D) (ht : firstR c = some t) (hS : n.S = []) (hx : st x = .own id (.pt true (.sl true sz cs :: ds))) (he : D.erases (.sl true sz cs :: ds) = ds') (h : WpA P n c (put st x (.own id (.pt true ds'))) nx Q) : WpA P n c st nx Q := by
  subst he
  exact WpA.freezeIn x hS hx h
end
end Go.Pv
namespace Go.Proofs.YtinenidbgmddhaaGreat
set_option maxHeartbeats 20000000
open Go.Pv
open Go.ChangeShapes Go.WideShapes Go.ChangeAt Go.RowKit
attribute [local irreducible] RunU WpA Step CallG CallNG Done DoneN
attribute [local irreducible] StepW
end Go.Proofs.YtinenidbgmddhaaGreat
namespace Go.Proofs.YtinenidbgmddhaaGreat
set_option maxHeartbeats 20000000
open Go.Pv
open Go.ChangeShapes Go.WideShapes Go.ChangeAt Go.RowKit
attribute [local irreducible] RunU WpA Step CallG CallNG Done DoneN
def lsI (B C : List (List Int)) : List (List Int) × List (List Int) := bst B C B.length (facN B.length)
end Go.Proofs.YtinenidbgmddhaaGreat
namespace Go.Proofs.YtinenidbgmddhaaGreat
set_option maxHeartbeats 20000000
open Go.Pv
open Go.ChangeShapes Go.WideShapes Go.ChangeAt Go.RowKit
attribute [local irreducible] RunU WpA Step CallG CallNG Done DoneN DoneF CallF StepX
def lsS (B C : List (List Int)) : CuP := lstK B C B.length B.length (B, C) []
theorem take_LLx (L : List (List Int)) {j : Nat} (h : j < L.length) : LLs (L.take j) ++ [D.sl false 1 (ints (L.getD (j * 1) []))] = LLs (L.take (j + 1)) := by
  rw [← take_LL L h]; simp
end Go.Proofs.YtinenidbgmddhaaGreat
