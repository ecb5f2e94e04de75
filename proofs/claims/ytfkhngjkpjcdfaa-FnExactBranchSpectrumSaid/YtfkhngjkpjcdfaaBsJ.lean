/- Closed facts of the seat's rows, apart: each takes much memory. No condition. -/
import Derived.Test.YtfkhngjkpjcdfaaTy
import Derived.Test.YtfkhngjkpjcdfaaRows
namespace Go.Proofs.Ytfkhngjkpjcdfaa
set_option maxHeartbeats 2000000
set_option linter.unusedVariables false
set_option linter.unusedSimpArgs false
open Go.Pv
open Go.ChangeShapes Go.WideShapes Go.ChangeAt Go.RowKit
attribute [local irreducible] RunU WpA Step CallG Done
set_option maxRecDepth 100000 in
theorem mayEnter_ok : Try.pinned.checked.prog.mayEnter = true := by kernel_rfl
set_option maxRecDepth 100000 in
theorem inPlace_FnExactBranchSpectrum : (Rows.fnExactBranchSpectrumRow.inPlace == Try.pinned.checked.prog.inPlace 5) = true := by kernel_rfl
set_option maxRecDepth 100000 in
theorem unfollowed_FnExactBranchSpectrum : (Rows.fnExactBranchSpectrumRow.unfollowed == Try.pinned.checked.prog.unfollowed 5) = true := by kernel_rfl
set_option maxRecDepth 100000 in
theorem recurses_FnExactBranchSpectrum : (Rows.fnExactBranchSpectrumRow.recurses == Try.pinned.checked.prog.recurses 5) = true := by kernel_rfl
set_option maxRecDepth 100000 in
theorem named_FnExactBranchSpectrum : (Rows.fnExactBranchSpectrumRow.named == Try.pinned.checked.prog.varsNamed 5) = true := by kernel_rfl
set_option maxRecDepth 100000 in
theorem joined_FnExactBranchSpectrum : joinedFacts Try.pinned.checked.prog 5 Try.f5 Rows.fnExactBranchSpectrumSpec Rows.fnExactBranchSpectrumRow = true := by
  unfold joinedFacts
  rw [inPlace_FnExactBranchSpectrum, unfollowed_FnExactBranchSpectrum, recurses_FnExactBranchSpectrum, named_FnExactBranchSpectrum, mayEnter_ok]
  kernel_rfl
end Go.Proofs.Ytfkhngjkpjcdfaa
