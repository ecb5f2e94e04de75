/- Drawn branches: branches of Newton pairs. No condition. -/
import Derived.Test.YtneomlnhlpkbjaaMBsA
import Derived.Test.YtneomlnhlpkbjaaMAcB
import Derived.Test.YtneomlnhlpkbjaaMAbB
set_option linter.unusedVariables false
set_option linter.unusedSimpArgs false
namespace Go.Proofs.Ytneomlnhlpkbjaa
set_option maxHeartbeats 20000000
open Go.Pv
open Go.ChangeShapes Go.WideShapes Go.ChangeAt Go.RowKit
attribute [local irreducible] RunU WpA Step CallG CallNG Done DoneN
attribute [local irreducible] decStrict decFalls decIsBr decWithin Strict Falls IsBr Within
end Go.Proofs.Ytneomlnhlpkbjaa
namespace Go.Proofs.Ytneomlnhlpkbjaa
set_option maxHeartbeats 20000000
open Go.Pv
open Go.ChangeShapes Go.WideShapes Go.ChangeAt Go.RowKit
attribute [local irreducible] RunU WpA Step CallG CallNG Done DoneN
instance fnOk63 : FnOk Try.prog 63 := ⟨_, Try.func63, rfl, by decide⟩
attribute [local irreducible] decStrict decFalls decIsBr decWithin Strict Falls IsBr Within
def pr2 (ps : List (List Int)) : Nat → Int
  | 0 => 1
  | j + 1 => pr2 ps j * (ps.getD j []).getD 1 0
structure GoodP (ps : List (List Int)) : Prop where
  len : ps.length ≤ 3
  row : ∀ i, i < ps.length → (ps.getD i []).length = 2
  v1 : ∀ i, i < ps.length → 1 ≤ (ps.getD i []).getD 0 0 ∧ (ps.getD i []).getD 0 0 ≤ 60
  v2 : ∀ i, i < ps.length → 1 ≤ (ps.getD i []).getD 1 0 ∧ (ps.getD i []).getD 1 0 ≤ 5
  pr : ∀ j, j ≤ ps.length → 1 ≤ pr2 ps j ∧ pr2 ps j ≤ 64
end Go.Proofs.Ytneomlnhlpkbjaa
namespace Go.Proofs.Ytneomlnhlpkbjaa
set_option maxHeartbeats 20000000
open Go.Pv
open Go.ChangeShapes Go.WideShapes Go.ChangeAt Go.RowKit
attribute [local irreducible] RunU WpA Step CallG CallNG Done DoneN
attribute [local irreducible] decStrict decFalls decIsBr decWithin Strict Falls IsBr Within
end Go.Proofs.Ytneomlnhlpkbjaa
