/- Closed facts of the law FnExactIsRationalGraph, apart: each takes much memory. No condition. -/
import Derived.Test.YtfkhngjkpjcdfaaTHbM
import Derived.Test.YtfkhngjkpjcdfaaRows
namespace Go.Proofs.Ytfkhngjkpjcdfaa
set_option maxHeartbeats 20000000
set_option linter.unusedVariables false
set_option linter.unusedSimpArgs false
open Go.Pv
open Go.ChangeShapes Go.WideShapes Go.ChangeAt Go.RowKit
attribute [local irreducible] RunU WpA Step CallG CallNG Done DoneN
set_option maxRecDepth 100000 in
theorem inPlace_FnExactIsRationalGraph : (Rows.fnExactIsRationalGraphRow.inPlace == Try.pinned.checked.prog.inPlace 9) = true := by kernel_rfl
set_option maxRecDepth 100000 in
theorem unfollowed_FnExactIsRationalGraph : (Rows.fnExactIsRationalGraphRow.unfollowed == Try.pinned.checked.prog.unfollowed 9) = true := by kernel_rfl
set_option maxRecDepth 100000 in
theorem recurses_FnExactIsRationalGraph : (Rows.fnExactIsRationalGraphRow.recurses == Try.pinned.checked.prog.recurses 9) = true := by kernel_rfl
set_option maxRecDepth 100000 in
theorem named_FnExactIsRationalGraph : (Rows.fnExactIsRationalGraphRow.named == Try.pinned.checked.prog.varsNamed 9) = true := by kernel_rfl
set_option maxRecDepth 100000 in
theorem joined_FnExactIsRationalGraph : joinedFacts Try.pinned.checked.prog 9 Try.f9 Rows.fnExactIsRationalGraphSpec Rows.fnExactIsRationalGraphRow = true := by
  unfold joinedFacts
  rw [inPlace_FnExactIsRationalGraph, unfollowed_FnExactIsRationalGraph, recurses_FnExactIsRationalGraph, named_FnExactIsRationalGraph, mayEnter_ok]
  kernel_rfl
end Go.Proofs.Ytfkhngjkpjcdfaa
