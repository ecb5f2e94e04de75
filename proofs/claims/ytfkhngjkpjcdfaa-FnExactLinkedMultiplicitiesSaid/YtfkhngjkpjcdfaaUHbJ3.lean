/- Closed facts of the law FnExactLinkedMultiplicities, apart: each takes much memory. No condition. -/
import Derived.Test.YtfkhngjkpjcdfaaUHbM
import Derived.Test.YtfkhngjkpjcdfaaRows
namespace Go.Proofs.Ytfkhngjkpjcdfaa
set_option maxHeartbeats 20000000
set_option linter.unusedVariables false
set_option linter.unusedSimpArgs false
open Go.Pv
open Go.ChangeShapes Go.WideShapes Go.ChangeAt Go.RowKit
attribute [local irreducible] RunU WpA Step CallG CallNG Done DoneN
set_option maxRecDepth 100000 in
theorem inPlace_FnExactLinkedMultiplicities : (Rows.fnExactLinkedMultiplicitiesRow.inPlace == Try.pinned.checked.prog.inPlace 14) = true := by kernel_rfl
set_option maxRecDepth 100000 in
theorem unfollowed_FnExactLinkedMultiplicities : (Rows.fnExactLinkedMultiplicitiesRow.unfollowed == Try.pinned.checked.prog.unfollowed 14) = true := by kernel_rfl
set_option maxRecDepth 100000 in
theorem recurses_FnExactLinkedMultiplicities : (Rows.fnExactLinkedMultiplicitiesRow.recurses == Try.pinned.checked.prog.recurses 14) = true := by kernel_rfl
set_option maxRecDepth 100000 in
theorem named_FnExactLinkedMultiplicities : (Rows.fnExactLinkedMultiplicitiesRow.named == Try.pinned.checked.prog.varsNamed 14) = true := by kernel_rfl
set_option maxRecDepth 100000 in
theorem joined_FnExactLinkedMultiplicities : joinedFacts Try.pinned.checked.prog 14 Try.f14 Rows.fnExactLinkedMultiplicitiesSpec Rows.fnExactLinkedMultiplicitiesRow = true := by
  unfold joinedFacts
  rw [inPlace_FnExactLinkedMultiplicities, unfollowed_FnExactLinkedMultiplicities, recurses_FnExactLinkedMultiplicities, named_FnExactLinkedMultiplicities, mayEnter_ok]
  kernel_rfl
end Go.Proofs.Ytfkhngjkpjcdfaa
