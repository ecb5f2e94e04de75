/- Lists of branches within bounds: the program and its reference make the same list. No condition. -/
import Derived.Test.YtljhfjfccbpddaaRBrA
import Derived.Test.YtljhfjfccbpddaaRAcB
namespace Go.Proofs.Ytljhfjfccbpddaa
set_option maxHeartbeats 20000000
set_option linter.unusedVariables false
set_option linter.unusedSimpArgs false
open Go.Pv
open Go.ChangeShapes Go.WideShapes Go.ChangeAt Go.RowKit
attribute [local irreducible] RunU WpA Step CallG CallNG Done DoneN
def rng (lo hi : Int) : List Int := (List.range (hi - lo + 1).toNat).map fun i : Nat => lo + (i : Int)
def within : Nat → List Int → Int → Int → List (List Int)
  | 0, _, _, _ => []
  | f + 1, l, e, t => if e = 1 then [l] else (rng (lastOf l + 1) t).flatMap fun b => if (Int.gcd e b : Int) < e then within f (l ++ [b]) (Int.gcd e b) t else []
theorem next_half {e b : Int} (he : 0 < e) (h : (Int.gcd e b : Int) < e) : 2 * (Int.gcd e b : Int) ≤ e := by
  have h1 : (Int.gcd e b : Int) ∣ e := Int.gcd_dvd_left ..
  obtain ⟨k, hk⟩ := h1
  have hp : 0 < (Int.gcd e b : Int) := by
    have := Int.gcd_pos_of_ne_zero_left b (show e ≠ 0 by omega)
    omega
  have hk1 : 1 < k := by
    rcases Int.lt_or_le 1 k with h2 | h2
    · exact h2
    · have := Int.mul_le_mul_of_nonneg_left h2 (Int.le_of_lt hp)
      rw [← hk] at this
      omega
  have := Int.mul_le_mul_of_nonneg_left (show 2 ≤ k by omega) (Int.le_of_lt hp)
  rw [← hk] at this
  omega
end Go.Proofs.Ytljhfjfccbpddaa
