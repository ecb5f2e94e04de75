/- Lists of branches within bounds: the program and its reference make the same list. No condition. -/
import Derived.Test.YtljhfjfccbpddaaRAcA
import Derived.Test.YtljhfjfccbpddaaRNuA
namespace Go.Proofs.Ytljhfjfccbpddaa
set_option maxHeartbeats 20000000
set_option linter.unusedVariables false
set_option linter.unusedSimpArgs false
open Go.Pv
open Go.ChangeShapes Go.WideShapes Go.ChangeAt Go.RowKit
attribute [local irreducible] RunU WpA Step CallG CallNG Done DoneN
end Go.Proofs.Ytljhfjfccbpddaa
namespace Go.Proofs.Ytljhfjfccbpddaa
set_option maxHeartbeats 20000000
set_option linter.unusedVariables false
set_option linter.unusedSimpArgs false
open Go.Pv
open Go.ChangeShapes Go.WideShapes Go.ChangeAt Go.RowKit
attribute [local irreducible] RunU WpA Step CallG CallNG Done DoneN
def divTo (l : List Int) : Nat → Int
  | 0 => 0
  | j + 1 => (Int.gcd (divTo l j) (l.getD j 0) : Int)
def divs (l : List Int) : Nat → List Int
  | 0 => []
  | j + 1 => divs l j ++ [divTo l (j + 1)]
theorem divs_len (l : List Int) : ∀ j, (divs l j).length = j
  | 0 => rfl
  | j + 1 => by simp [divs, divs_len l j]
theorem divTo_bound {l : List Int} (h : ∀ i, 0 ≤ l.getD i 0 ∧ l.getD i 0 ≤ 1000000000) : ∀ j, 0 ≤ divTo l j ∧ divTo l j ≤ 1000000000
  | 0 => by simp [divTo]
  | j + 1 => by
    have h1 := divTo_bound h j
    have h2 := h j
    simp only [divTo]
    refine ⟨by omega, ?_⟩
    by_cases h0 : l.getD j 0 = 0
    · rw [h0, Int.gcd_zero_right]; omega
    · have := Int.gcd_le_right (a := divTo l j) (show 0 < l.getD j 0 by omega)
      omega
end Go.Proofs.Ytljhfjfccbpddaa
