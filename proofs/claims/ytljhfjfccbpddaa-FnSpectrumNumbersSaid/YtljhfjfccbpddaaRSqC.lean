/- The law on the spectra of powers: the program answers as its reference does, for every input. No condition. -/
import Derived.Test.YtljhfjfccbpddaaRSqB
import Derived.Test.YtljhfjfccbpddaaRows
namespace Go.Proofs.Ytljhfjfccbpddaa
set_option maxHeartbeats 20000000
set_option linter.unusedVariables false
set_option linter.unusedSimpArgs false
open Go.Pv
open Go.ChangeShapes Go.WideShapes Go.ChangeAt Go.RowKit
attribute [local irreducible] RunU WpA Step CallG CallNG Done DoneN
theorem own : ownKnob Try.prog.godebug = none := by kernel_rfl
theorem laidOut : laidOutB Try.prog = true := by kernel_rfl
theorem mkS_len (b : Int) (l : List Int) : (mkS b l).length ≤ 400 := by
  unfold mkS
  split
  · simp
  · rw [insTo_len]; omega
theorem pwS_len (a b : Int) : (pwS a b).length ≤ 400 := by
  unfold pwS
  split
  · exact mkS_len _ _
  · simp
end Go.Proofs.Ytljhfjfccbpddaa
