/- Closed facts of the law FnGraphs, apart: each takes much memory. No condition. -/
import Derived.Test.YtneomlnhlpkbjaaGreatMGwM
import Derived.Test.YtneomlnhlpkbjaaGreatRows
set_option linter.unusedVariables false
set_option linter.unusedSimpArgs false
namespace Go.Proofs.YtneomlnhlpkbjaaGreat
set_option maxHeartbeats 20000000
open Go.Pv
open Go.ChangeShapes Go.WideShapes Go.ChangeAt Go.RowKit
attribute [local irreducible] RunU WpA Step CallG CallNG Done DoneN
set_option maxRecDepth 100000 in
theorem inPlace_FnGraphs : (Rows.fnGraphsRow.inPlace == Tryz.pinned.checked.prog.inPlace 3) = true := by kernel_rfl
set_option maxRecDepth 100000 in
theorem unfollowed_FnGraphs : (Rows.fnGraphsRow.unfollowed == Tryz.pinned.checked.prog.unfollowed 3) = true := by kernel_rfl
set_option maxRecDepth 100000 in
theorem recurses_FnGraphs : (Rows.fnGraphsRow.recurses == Tryz.pinned.checked.prog.recurses 3) = true := by kernel_rfl
set_option maxRecDepth 100000 in
theorem named_FnGraphs : (Rows.fnGraphsRow.named == Tryz.pinned.checked.prog.varsNamed 3) = true := by kernel_rfl
set_option maxRecDepth 100000 in
theorem joined_FnGraphs : joinedFacts Tryz.pinned.checked.prog 3 Tryz.f3 Rows.fnGraphsSpec Rows.fnGraphsRow = true := by
  unfold joinedFacts
  rw [inPlace_FnGraphs, unfollowed_FnGraphs, recurses_FnGraphs, named_FnGraphs, mayEnter_ok]
  kernel_rfl
end Go.Proofs.YtneomlnhlpkbjaaGreat
