/- Closed facts of the law FnClusterLinkings, apart: each takes much memory. No condition. -/
import Derived.Test.YtmgmpnhlehonmaaGreatOGwM
import Derived.Test.YtmgmpnhlehonmaaGreatRows
set_option linter.unusedVariables false
set_option linter.unusedSimpArgs false
namespace Go.Proofs.YtmgmpnhlehonmaaGreat
set_option maxRecDepth 100000
set_option maxHeartbeats 20000000
open Go.Pv
open Go.ChangeShapes Go.WideShapes Go.ChangeAt Go.RowKit
attribute [local irreducible] RunU WpA Step CallG CallNG Done DoneN
theorem inPlace_FnClusterLinkings : (Rows.fnClusterLinkingsRow.inPlace == Tryz.pinned.checked.prog.inPlace 6) = true := by kernel_rfl
theorem unfollowed_FnClusterLinkings : (Rows.fnClusterLinkingsRow.unfollowed == Tryz.pinned.checked.prog.unfollowed 6) = true := by kernel_rfl
theorem recurses_FnClusterLinkings : (Rows.fnClusterLinkingsRow.recurses == Tryz.pinned.checked.prog.recurses 6) = true := by kernel_rfl
theorem named_FnClusterLinkings : (Rows.fnClusterLinkingsRow.named == Tryz.pinned.checked.prog.varsNamed 6) = true := by kernel_rfl
theorem joined_FnClusterLinkings : joinedFacts Tryz.pinned.checked.prog 6 Tryz.f6 Rows.fnClusterLinkingsSpec Rows.fnClusterLinkingsRow = true := by
 unfold joinedFacts
 rw [inPlace_FnClusterLinkings, unfollowed_FnClusterLinkings, recurses_FnClusterLinkings, named_FnClusterLinkings, mayEnter_ok]
 kernel_rfl
end Go.Proofs.YtmgmpnhlehonmaaGreat
