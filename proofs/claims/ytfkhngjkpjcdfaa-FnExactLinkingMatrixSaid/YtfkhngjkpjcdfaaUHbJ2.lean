/- Closed facts of the law FnExactLinkingMatrix, apart: each takes much memory. No condition. -/
import Derived.Test.YtfkhngjkpjcdfaaUHbM
import Derived.Test.YtfkhngjkpjcdfaaRows
namespace Go.Proofs.Ytfkhngjkpjcdfaa
set_option maxHeartbeats 20000000
set_option linter.unusedVariables false
set_option linter.unusedSimpArgs false
open Go.Pv
open Go.ChangeShapes Go.WideShapes Go.ChangeAt Go.RowKit
attribute [local irreducible] RunU WpA Step CallG CallNG Done DoneN
set_option maxRecDepth 100000 in
theorem inPlace_FnExactLinkingMatrix : (Rows.fnExactLinkingMatrixRow.inPlace == Try.pinned.checked.prog.inPlace 13) = true := by kernel_rfl
set_option maxRecDepth 100000 in
theorem unfollowed_FnExactLinkingMatrix : (Rows.fnExactLinkingMatrixRow.unfollowed == Try.pinned.checked.prog.unfollowed 13) = true := by kernel_rfl
set_option maxRecDepth 100000 in
theorem recurses_FnExactLinkingMatrix : (Rows.fnExactLinkingMatrixRow.recurses == Try.pinned.checked.prog.recurses 13) = true := by kernel_rfl
set_option maxRecDepth 100000 in
theorem named_FnExactLinkingMatrix : (Rows.fnExactLinkingMatrixRow.named == Try.pinned.checked.prog.varsNamed 13) = true := by kernel_rfl
set_option maxRecDepth 100000 in
theorem joined_FnExactLinkingMatrix : joinedFacts Try.pinned.checked.prog 13 Try.f13 Rows.fnExactLinkingMatrixSpec Rows.fnExactLinkingMatrixRow = true := by
  unfold joinedFacts
  rw [inPlace_FnExactLinkingMatrix, unfollowed_FnExactLinkingMatrix, recurses_FnExactLinkingMatrix, named_FnExactLinkingMatrix, mayEnter_ok]
  kernel_rfl
end Go.Proofs.Ytfkhngjkpjcdfaa
