/- Some vertices of a graph and the edges between them: a graph again. No condition. -/
import Derived.Test.YtleleajafgmpbaaVGrI
namespace Go.Proofs.Ytleleajafgmpbaa
set_option linter.unusedVariables false
set_option linter.unusedSimpArgs false
end Go.Proofs.Ytleleajafgmpbaa
namespace Go.Proofs.Ytleleajafgmpbaa
set_option linter.unusedVariables false
set_option linter.unusedSimpArgs false
end Go.Proofs.Ytleleajafgmpbaa
