/- Closed facts of the law FnLinkings, apart: each takes much memory. No condition. -/
import Derived.Test.YtmgmpnhlehonmaaGreatWGwM
import Derived.Test.YtmgmpnhlehonmaaGreatRows
set_option linter.unusedVariables false
set_option linter.unusedSimpArgs false
namespace Go.Proofs.YtmgmpnhlehonmaaGreat
set_option maxRecDepth 100000
set_option maxHeartbeats 20000000
open Go.Pv
open Go.ChangeShapes Go.WideShapes Go.ChangeAt Go.RowKit
attribute [local irreducible] Za WpA Zg Xf Zz Z6 Zd
theorem Zbj : (Rows.fnLinkingsRow.inPlace == Tryz.pinned.checked.prog.inPlace 3) = true := by kernel_rfl
theorem Kn : (Rows.fnLinkingsRow.unfollowed == Tryz.pinned.checked.prog.unfollowed 3) = true := by kernel_rfl
theorem Zaj : (Rows.fnLinkingsRow.recurses == Tryz.pinned.checked.prog.recurses 3) = true := by kernel_rfl
theorem Zed : (Rows.fnLinkingsRow.named == Tryz.pinned.checked.prog.varsNamed 3) = true := by kernel_rfl
theorem Zcx : joinedFacts Tryz.pinned.checked.prog 3 Tryz.f3 Rows.fnLinkingsSpec Rows.fnLinkingsRow = true := by
 unfold joinedFacts
 rw [Zbj, Kn, Zaj, Zed, Zow]
 kernel_rfl
end Go.Proofs.YtmgmpnhlehonmaaGreat
