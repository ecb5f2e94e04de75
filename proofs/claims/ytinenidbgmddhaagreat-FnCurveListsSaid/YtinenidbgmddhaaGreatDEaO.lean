/- Closed facts of the law FnCurveLists, apart: each takes much memory. No condition. -/
import Derived.Test.YtinenidbgmddhaaGreatDGwM
import Derived.Test.YtinenidbgmddhaaGreatRows
set_option linter.unusedVariables false
set_option linter.unusedSimpArgs false
namespace Go.Proofs.YtinenidbgmddhaaGreat
set_option maxRecDepth 100000
set_option maxHeartbeats 20000000
open Go.Pv
open Go.ChangeShapes Go.WideShapes Go.ChangeAt Go.RowKit
attribute [local irreducible] Za WpA Zk Z3 Zv Zb Zh
theorem Hk:(Rows.fnCurveListsRow.inPlace == Tryz.pinned.checked.prog.inPlace 6)=true:=by kernel_rfl
theorem Wd:(Rows.fnCurveListsRow.unfollowed == Tryz.pinned.checked.prog.unfollowed 6)=true:=by kernel_rfl
theorem W9:(Rows.fnCurveListsRow.recurses == Tryz.pinned.checked.prog.recurses 6)=true:=by kernel_rfl
theorem Za8:(Rows.fnCurveListsRow.named == Tryz.pinned.checked.prog.varsNamed 6)=true:=by kernel_rfl
theorem Zab:joinedFacts Tryz.pinned.checked.prog 6 Tryz.f6 Rows.fnCurveListsSpec Rows.fnCurveListsRow=true:=by
 unfold joinedFacts
 rw [Hk,Wd,W9,Za8,Znn]
 kernel_rfl
end Go.Proofs.YtinenidbgmddhaaGreat
