/- Multiplicities of branches: at most one point far ahead is met by the sums (plain). No condition. -/
import Derived.Test.YtneomlnhlpkbjaaGreatMPwF
set_option linter.unusedVariables false
set_option linter.unusedSimpArgs false
namespace Go.Proofs.YtneomlnhlpkbjaaGreat
set_option maxHeartbeats 20000000
open Go.Pv
open Go.ChangeShapes Go.WideShapes Go.ChangeAt Go.RowKit
attribute [local irreducible] RunU WpA Step CallG CallNG Done DoneN
instance fnOk245 : FnOk Tryz.prog 245 := ⟨_, Tryz.func245, rfl, by decide⟩
instance fnOk246 : FnOk Tryz.prog 246 := ⟨_, Tryz.func246, rfl, by decide⟩
instance fnOk240 : FnOk Tryz.prog 240 := ⟨_, Tryz.func240, rfl, by decide⟩
def hf2 (m : Int) : Int := m * (m - 1) / 2
end Go.Proofs.YtneomlnhlpkbjaaGreat
namespace Go.Proofs.YtneomlnhlpkbjaaGreat
set_option maxHeartbeats 20000000
open Go.Pv
open Go.ChangeShapes Go.WideShapes Go.ChangeAt Go.RowKit
attribute [local irreducible] RunU WpA Step CallG CallNG Done DoneN
def sumI : List Int → Int
  | [] => 0
  | x :: l => x + sumI l
def Dn (p : Int) (rest : List Int) : Prop := ∀ X p' c d Y, rest = X ++ p' :: c :: d :: Y → c < p' → p < sumI X + p' + c + d
def UN : List Int → Prop
  | [] => True
  | p :: rest => (Dn p rest ∧ (∀ x, rest.head? = some x → x ≤ p)) ∧ UN rest
end Go.Proofs.YtneomlnhlpkbjaaGreat
