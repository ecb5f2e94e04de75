/- What a graph is: the program's test. No condition. -/
import Derived.Test.YtinenidbgmddhaaGreatDTy
set_option linter.unusedVariables false
set_option linter.unusedSimpArgs false
namespace Go.Proofs.YtinenidbgmddhaaGreat
set_option maxHeartbeats 20000000
open Go.Pv
open Go.ChangeShapes Go.WideShapes Go.ChangeAt Go.RowKit
attribute [local irreducible] Za WpA Zk Z3 Zv Zb Zh
instance fnOk111:Zp Tryz.prog 111:=⟨_,Tryz.func111,rfl,by decide⟩
instance fnOk68:Zp Tryz.prog 68:=⟨_,Tryz.func68,rfl,by decide⟩
end Go.Proofs.YtinenidbgmddhaaGreat
