/- Closed facts of the law FnExactEdgeDeterminant, apart: each takes much memory. No condition. -/
import Derived.Test.YtfkhngjkpjcdfaaQHbM
import Derived.Test.YtfkhngjkpjcdfaaRows
namespace Go.Proofs.Ytfkhngjkpjcdfaa
set_option maxHeartbeats 20000000
set_option linter.unusedVariables false
set_option linter.unusedSimpArgs false
open Go.Pv
open Go.ChangeShapes Go.WideShapes Go.ChangeAt Go.RowKit
attribute [local irreducible] RunU WpA Step CallG CallNG Done DoneN
set_option maxRecDepth 100000 in
theorem inPlace_FnExactEdgeDeterminant : (Rows.fnExactEdgeDeterminantRow.inPlace == Try.pinned.checked.prog.inPlace 12) = true := by kernel_rfl
set_option maxRecDepth 100000 in
theorem unfollowed_FnExactEdgeDeterminant : (Rows.fnExactEdgeDeterminantRow.unfollowed == Try.pinned.checked.prog.unfollowed 12) = true := by kernel_rfl
set_option maxRecDepth 100000 in
theorem recurses_FnExactEdgeDeterminant : (Rows.fnExactEdgeDeterminantRow.recurses == Try.pinned.checked.prog.recurses 12) = true := by kernel_rfl
set_option maxRecDepth 100000 in
theorem named_FnExactEdgeDeterminant : (Rows.fnExactEdgeDeterminantRow.named == Try.pinned.checked.prog.varsNamed 12) = true := by kernel_rfl
set_option maxRecDepth 100000 in
theorem joined_FnExactEdgeDeterminant : joinedFacts Try.pinned.checked.prog 12 Try.f12 Rows.fnExactEdgeDeterminantSpec Rows.fnExactEdgeDeterminantRow = true := by
  unfold joinedFacts
  rw [inPlace_FnExactEdgeDeterminant, unfollowed_FnExactEdgeDeterminant, recurses_FnExactEdgeDeterminant, named_FnExactEdgeDeterminant, mayEnter_ok]
  kernel_rfl
end Go.Proofs.Ytfkhngjkpjcdfaa
