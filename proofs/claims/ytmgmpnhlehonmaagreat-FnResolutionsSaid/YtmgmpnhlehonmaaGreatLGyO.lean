/- Closed facts of the law FnResolutions, apart: each takes much memory. No condition. -/
import Derived.Test.YtmgmpnhlehonmaaGreatLGwM
import Derived.Test.YtmgmpnhlehonmaaGreatRows
set_option linter.unusedVariables false
set_option linter.unusedSimpArgs false
namespace Go.Proofs.YtmgmpnhlehonmaaGreat
set_option maxRecDepth 100000
set_option maxHeartbeats 20000000
open Go.Pv
open Go.ChangeShapes Go.WideShapes Go.ChangeAt Go.RowKit
attribute [local irreducible] RunU WpA Step CallG CallNG Done DoneN
theorem inPlace_FnResolutions : (Rows.fnResolutionsRow.inPlace == Tryz.pinned.checked.prog.inPlace 5) = true := by kernel_rfl
theorem unfollowed_FnResolutions : (Rows.fnResolutionsRow.unfollowed == Tryz.pinned.checked.prog.unfollowed 5) = true := by kernel_rfl
theorem recurses_FnResolutions : (Rows.fnResolutionsRow.recurses == Tryz.pinned.checked.prog.recurses 5) = true := by kernel_rfl
theorem named_FnResolutions : (Rows.fnResolutionsRow.named == Tryz.pinned.checked.prog.varsNamed 5) = true := by kernel_rfl
theorem joined_FnResolutions : joinedFacts Tryz.pinned.checked.prog 5 Tryz.f5 Rows.fnResolutionsSpec Rows.fnResolutionsRow = true := by
 unfold joinedFacts
 rw [inPlace_FnResolutions, unfollowed_FnResolutions, recurses_FnResolutions, named_FnResolutions, mayEnter_ok]
 kernel_rfl
end Go.Proofs.YtmgmpnhlehonmaaGreat
