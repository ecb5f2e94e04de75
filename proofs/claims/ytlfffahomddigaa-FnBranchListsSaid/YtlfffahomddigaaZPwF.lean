/- A number stored into a row of a root of rows. No condition. -/
import Derived.Test.YtlfffahomddigaaZPvS
namespace Go.Pv
set_option linter.unusedVariables false
set_option linter.unusedSimpArgs false
section
variable {P : Program} {n : NN} {nid : Nat} {st : Nat → AV}
end
end Go.Pv
