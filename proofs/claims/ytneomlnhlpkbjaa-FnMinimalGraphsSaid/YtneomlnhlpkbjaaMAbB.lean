/- Multiplicities of branches: at most one point far ahead is met by the sums (plain). No condition. -/
import Derived.Test.YtneomlnhlpkbjaaMPwF
set_option linter.unusedVariables false
set_option linter.unusedSimpArgs false
namespace Go.Proofs.Ytneomlnhlpkbjaa
set_option maxHeartbeats 20000000
open Go.Pv
open Go.ChangeShapes Go.WideShapes Go.ChangeAt Go.RowKit
attribute [local irreducible] RunU WpA Step CallG CallNG Done DoneN
def hf2 (m : Int) : Int := m * (m - 1) / 2
end Go.Proofs.Ytneomlnhlpkbjaa
namespace Go.Proofs.Ytneomlnhlpkbjaa
set_option maxHeartbeats 20000000
open Go.Pv
open Go.ChangeShapes Go.WideShapes Go.ChangeAt Go.RowKit
attribute [local irreducible] RunU WpA Step CallG CallNG Done DoneN
def sumI : List Int → Int
  | [] => 0
  | x :: l => x + sumI l
def Dn (p : Int) (rest : List Int) : Prop := ∀ X p' c d Y, rest = X ++ p' :: c :: d :: Y → c < p' → p < sumI X + p' + c + d
def UN : List Int → Prop
  | [] => True
  | p :: rest => (Dn p rest ∧ (∀ x, rest.head? = some x → x ≤ p)) ∧ UN rest
end Go.Proofs.Ytneomlnhlpkbjaa
