/- Closed facts of the law FnExactFundamentalCycle, apart: each takes much memory. No condition. -/
import Derived.Test.YtfkhngjkpjcdfaaTHbM
import Derived.Test.YtfkhngjkpjcdfaaRows
namespace Go.Proofs.Ytfkhngjkpjcdfaa
set_option maxHeartbeats 20000000
set_option linter.unusedVariables false
set_option linter.unusedSimpArgs false
open Go.Pv
open Go.ChangeShapes Go.WideShapes Go.ChangeAt Go.RowKit
attribute [local irreducible] RunU WpA Step CallG CallNG Done DoneN
set_option maxRecDepth 100000 in
theorem inPlace_FnExactFundamentalCycle : (Rows.fnExactFundamentalCycleRow.inPlace == Try.pinned.checked.prog.inPlace 10) = true := by kernel_rfl
set_option maxRecDepth 100000 in
theorem unfollowed_FnExactFundamentalCycle : (Rows.fnExactFundamentalCycleRow.unfollowed == Try.pinned.checked.prog.unfollowed 10) = true := by kernel_rfl
set_option maxRecDepth 100000 in
theorem recurses_FnExactFundamentalCycle : (Rows.fnExactFundamentalCycleRow.recurses == Try.pinned.checked.prog.recurses 10) = true := by kernel_rfl
set_option maxRecDepth 100000 in
theorem named_FnExactFundamentalCycle : (Rows.fnExactFundamentalCycleRow.named == Try.pinned.checked.prog.varsNamed 10) = true := by kernel_rfl
set_option maxRecDepth 100000 in
theorem joined_FnExactFundamentalCycle : joinedFacts Try.pinned.checked.prog 10 Try.f10 Rows.fnExactFundamentalCycleSpec Rows.fnExactFundamentalCycleRow = true := by
  unfold joinedFacts
  rw [inPlace_FnExactFundamentalCycle, unfollowed_FnExactFundamentalCycle, recurses_FnExactFundamentalCycle, named_FnExactFundamentalCycle, mayEnter_ok]
  kernel_rfl
end Go.Proofs.Ytfkhngjkpjcdfaa
