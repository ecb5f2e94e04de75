/- Closed facts of the law FnExactSpliceWeights, apart: each takes much memory. No condition. -/
import Derived.Test.YtfkhngjkpjcdfaaQHbM
import Derived.Test.YtfkhngjkpjcdfaaRows
namespace Go.Proofs.Ytfkhngjkpjcdfaa
set_option maxHeartbeats 20000000
set_option linter.unusedVariables false
set_option linter.unusedSimpArgs false
open Go.Pv
open Go.ChangeShapes Go.WideShapes Go.ChangeAt Go.RowKit
attribute [local irreducible] RunU WpA Step CallG CallNG Done DoneN
set_option maxRecDepth 100000 in
theorem inPlace_FnExactSpliceWeights : (Rows.fnExactSpliceWeightsRow.inPlace == Try.pinned.checked.prog.inPlace 7) = true := by kernel_rfl
set_option maxRecDepth 100000 in
theorem unfollowed_FnExactSpliceWeights : (Rows.fnExactSpliceWeightsRow.unfollowed == Try.pinned.checked.prog.unfollowed 7) = true := by kernel_rfl
set_option maxRecDepth 100000 in
theorem recurses_FnExactSpliceWeights : (Rows.fnExactSpliceWeightsRow.recurses == Try.pinned.checked.prog.recurses 7) = true := by kernel_rfl
set_option maxRecDepth 100000 in
theorem named_FnExactSpliceWeights : (Rows.fnExactSpliceWeightsRow.named == Try.pinned.checked.prog.varsNamed 7) = true := by kernel_rfl
set_option maxRecDepth 100000 in
theorem joined_FnExactSpliceWeights : joinedFacts Try.pinned.checked.prog 7 Try.f7 Rows.fnExactSpliceWeightsSpec Rows.fnExactSpliceWeightsRow = true := by
  unfold joinedFacts
  rw [inPlace_FnExactSpliceWeights, unfollowed_FnExactSpliceWeights, recurses_FnExactSpliceWeights, named_FnExactSpliceWeights, mayEnter_ok]
  kernel_rfl
end Go.Proofs.Ytfkhngjkpjcdfaa
