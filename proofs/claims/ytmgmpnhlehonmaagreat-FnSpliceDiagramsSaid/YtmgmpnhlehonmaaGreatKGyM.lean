/- Closed facts of the law FnSpliceDiagrams, apart: each takes much memory. No condition. -/
import Derived.Test.YtmgmpnhlehonmaaGreatKGwM
import Derived.Test.YtmgmpnhlehonmaaGreatRows
set_option linter.unusedVariables false
set_option linter.unusedSimpArgs false
namespace Go.Proofs.YtmgmpnhlehonmaaGreat
set_option maxRecDepth 100000
set_option maxHeartbeats 20000000
open Go.Pv
open Go.ChangeShapes Go.WideShapes Go.ChangeAt Go.RowKit
attribute [local irreducible] RunU WpA Step CallG CallNG Done DoneN
theorem inPlace_FnSpliceDiagrams : (Rows.fnSpliceDiagramsRow.inPlace == Tryz.pinned.checked.prog.inPlace 4) = true := by kernel_rfl
theorem unfollowed_FnSpliceDiagrams : (Rows.fnSpliceDiagramsRow.unfollowed == Tryz.pinned.checked.prog.unfollowed 4) = true := by kernel_rfl
theorem recurses_FnSpliceDiagrams : (Rows.fnSpliceDiagramsRow.recurses == Tryz.pinned.checked.prog.recurses 4) = true := by kernel_rfl
theorem named_FnSpliceDiagrams : (Rows.fnSpliceDiagramsRow.named == Tryz.pinned.checked.prog.varsNamed 4) = true := by kernel_rfl
theorem joined_FnSpliceDiagrams : joinedFacts Tryz.pinned.checked.prog 4 Tryz.f4 Rows.fnSpliceDiagramsSpec Rows.fnSpliceDiagramsRow = true := by
 unfold joinedFacts
 rw [inPlace_FnSpliceDiagrams, unfollowed_FnSpliceDiagrams, recurses_FnSpliceDiagrams, named_FnSpliceDiagrams, mayEnter_ok]
 kernel_rfl
end Go.Proofs.YtmgmpnhlehonmaaGreat
