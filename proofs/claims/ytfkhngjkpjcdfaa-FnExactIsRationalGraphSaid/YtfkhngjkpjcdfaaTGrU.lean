/- Some vertices of a graph and the edges between them: a graph again. No condition. -/
import Derived.Test.YtfkhngjkpjcdfaaTGrI
namespace Go.Proofs.Ytfkhngjkpjcdfaa
set_option linter.unusedVariables false
set_option linter.unusedSimpArgs false
end Go.Proofs.Ytfkhngjkpjcdfaa
namespace Go.Proofs.Ytfkhngjkpjcdfaa
set_option linter.unusedVariables false
set_option linter.unusedSimpArgs false
end Go.Proofs.Ytfkhngjkpjcdfaa
