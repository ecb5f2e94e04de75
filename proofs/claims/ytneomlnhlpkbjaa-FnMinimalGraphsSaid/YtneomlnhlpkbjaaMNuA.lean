/- The library's contracts at this program's numbers. No condition. -/
import Derived.Test.YtneomlnhlpkbjaaMAcA
import Derived.Shelf.SortG.Plain
import Derived.Shelf.SortG.SortNone
import Derived.Test.YtneomlnhlpkbjaaProg
set_option linter.unusedVariables false
set_option linter.unusedSimpArgs false
namespace Go.Proofs.Ytneomlnhlpkbjaa
set_option maxHeartbeats 20000000
open Go.Pv
open Go.ChangeShapes Go.WideShapes Go.ChangeAt Go.RowKit
attribute [local irreducible] RunU WpA Step CallG CallNG Done DoneN
instance fnOk58 : FnOk Try.prog 58 := ⟨_, Try.func58, rfl, by decide⟩
theorem abs_c (a : Int) (h : -4611686018427387904 ≤ a ∧ a ≤ 4611686018427387904) : CallA Try.prog 58 [aI a] [rI (a.natAbs : Int)] [] := by
  refine callA_of _ Try.func58 rfl Try.ntmps58 solid_any ?_
  repeat' (first | refine Two.mk (fun _ => ?_) (fun _ => ?_) | refine goA ?_ | refine nxA ?_ | refine Done.ret (.one res_any .nil) (.sh .nil) ?_ rfl)
  case refine_1 h1 => rw [show ((a.natAbs : Nat) : Int) = -a by omega]
  case refine_2 h1 => rw [show ((a.natAbs : Nat) : Int) = a by omega]
end Go.Proofs.Ytneomlnhlpkbjaa
namespace Go.Proofs.Ytneomlnhlpkbjaa
set_option maxHeartbeats 20000000
open Go.Pv
open Go.ChangeShapes Go.WideShapes Go.ChangeAt Go.RowKit
attribute [local irreducible] RunU WpA Step CallG CallNG Done DoneN
end Go.Proofs.Ytneomlnhlpkbjaa
namespace Go.Proofs.Ytneomlnhlpkbjaa
open Go.Shelf
def sort64_ren : Go.Shelf.Ren := ⟨fun | 53 => 52 | 64 => 61 | 63 => 60 | 78 => 74 | 79 => 75 | 70 => 65 | 71 => 66 | 72 => 67 | 73 => 68 | 74 => 69 | 75 => 70 | 59 => 71 | 76 => 72 | 77 => 73 | 88 => 85 | 89 => 86 | 90 => 87 | 91 => 88 | 92 => 89 | 68 => 59 | 96 => 93 | n => n, fun | 22 => 24 | 23 => 2 | 3 => 3 | 51 => 64 | 0 => 0 | 67 => 94 | 69 => 60 | 4 => 4 | 61 => 86 | 60 => 85 | 44 => 91 | 5 => 5 | 9 => 9 | 75 => 101 | 79 => 105 | 83 => 109 | 84 => 110 | n => n, fun | n => n⟩
theorem sort64 : Go.Proofs.SlLaysN.n53 Try.prog sort64_ren := {
  mixed := by kernel_rfl
  f53 := ⟨Try.f52.name, by decide, Try.func52.trans (congrArg some (by kernel_rfl))⟩
  f59 := ⟨Try.f71.name, by decide, Try.func71.trans (congrArg some (by kernel_rfl))⟩
  f63 := ⟨Try.f60.name, by decide, Try.func60.trans (congrArg some (by kernel_rfl))⟩
  f64 := Try.func61.trans (congrArg some (by kernel_rfl))
  f68 := ⟨Try.f59.name, by decide, Try.func59.trans (congrArg some (by kernel_rfl))⟩
  f70 := ⟨Try.f65.name, by decide, Try.func65.trans (congrArg some (by kernel_rfl))⟩
  f71 := ⟨Try.f66.name, by decide, Try.func66.trans (congrArg some (by kernel_rfl))⟩
  f72 := ⟨Try.f67.name, by decide, Try.func67.trans (congrArg some (by kernel_rfl))⟩
  f73 := ⟨Try.f68.name, by decide, Try.func68.trans (congrArg some (by kernel_rfl))⟩
  f74 := ⟨Try.f69.name, by decide, Try.func69.trans (congrArg some (by kernel_rfl))⟩
  f75 := ⟨Try.f70.name, by decide, Try.func70.trans (congrArg some (by kernel_rfl))⟩
  f76 := ⟨Try.f72.name, by decide, Try.func72.trans (congrArg some (by kernel_rfl))⟩
  f77 := ⟨Try.f73.name, by decide, Try.func73.trans (congrArg some (by kernel_rfl))⟩
  f78 := Try.func74.trans (congrArg some (by kernel_rfl))
  f79 := Try.func75.trans (congrArg some (by kernel_rfl))
  f88 := ⟨Try.f85.name, by decide, Try.func85.trans (congrArg some (by kernel_rfl))⟩
  f89 := Try.func86.trans (congrArg some (by kernel_rfl))
  f90 := Try.func87.trans (congrArg some (by kernel_rfl))
  f91 := ⟨Try.f88.name, by decide, Try.func88.trans (congrArg some (by kernel_rfl))⟩
  f92 := ⟨Try.f89.name, by decide, Try.func89.trans (congrArg some (by kernel_rfl))⟩
  f96 := ⟨Try.f93.name, by decide, Try.func93.trans (congrArg some (by kernel_rfl))⟩
  t0 := Try.underlying0
  a0 := Try.isAgg0
  z0 := Try.sizeOf0
  v0 := Try.zeroValue0
  t3 := Try.underlying3
  a3 := Try.isAgg3
  z3 := Try.sizeOf3
  v3 := Try.zeroValue3
  t4 := Try.underlying4
  a4 := Try.isAgg4
  z4 := Try.sizeOf4
  v4 := Try.zeroValue4
  t5 := Try.underlying5
  a5 := Try.isAgg5
  z5 := Try.sizeOf5
  v5 := Try.zeroValue5
  t9 := Try.underlying9
  a9 := Try.isAgg9
  z9 := Try.sizeOf9
  v9 := Try.zeroValue9
  t22 := Try.underlying24
  a22 := Try.isAgg24
  z22 := Try.sizeOf24
  v22 := Try.zeroValue24
  t23 := Try.underlying2
  a23 := Try.isAgg2
  z23 := Try.sizeOf2
  v23 := Try.zeroValue2
  t44 := Try.underlying91
  a44 := Try.isAgg91
  z44 := Try.sizeOf91
  v44 := Try.zeroValue91
  t51 := Try.underlying64
  a51 := Try.isAgg64
  z51 := Try.sizeOf64
  v51 := Try.zeroValue64
  t60 := Try.underlying85
  a60 := Try.isAgg85
  z60 := Try.sizeOf85
  v60 := Try.zeroValue85
  t61 := Try.underlying86
  a61 := Try.isAgg86
  z61 := Try.sizeOf86
  v61 := Try.zeroValue86
  t67 := Try.underlying94
  a67 := Try.isAgg94
  z67 := Try.sizeOf94
  v67 := Try.zeroValue94
  t69 := Try.underlying60
  a69 := Try.isAgg60
  z69 := Try.sizeOf60
  v69 := Try.zeroValue60
  t75 := Try.underlying101
  a75 := Try.isAgg101
  z75 := Try.sizeOf101
  v75 := Try.zeroValue101
  t79 := Try.underlying105
  a79 := Try.isAgg105
  z79 := Try.sizeOf105
  v79 := Try.zeroValue105
  t83 := Try.underlying109
  a83 := Try.isAgg109
  z83 := Try.sizeOf109
  v83 := Try.zeroValue109
  t84 := Try.underlying110
  a84 := Try.isAgg110
  z84 := Try.sizeOf110
  v84 := Try.zeroValue110 }
end Go.Proofs.Ytneomlnhlpkbjaa
