/- The library's contracts at this program's numbers. No condition. -/
import Derived.Test.YtleleajafgmpbaaVZcA
import Derived.Shelf.SortG.Plain
import Derived.Shelf.SortG.SortNone
import Derived.Test.YtleleajafgmpbaaProg
namespace Go.Proofs.Ytleleajafgmpbaa
set_option maxHeartbeats 20000000
set_option linter.unusedVariables false
set_option linter.unusedSimpArgs false
open Go.Pv
open Go.ChangeShapes Go.WideShapes Go.ChangeAt Go.RowKit
attribute [local irreducible] RunU WpA Step CallG CallNG Done DoneN
instance fnOk140 : FnOk Try.prog 140 := ⟨_, Try.func140, rfl, by decide⟩
end Go.Proofs.Ytleleajafgmpbaa
namespace Go.Proofs.Ytleleajafgmpbaa
set_option maxHeartbeats 20000000
set_option linter.unusedVariables false
set_option linter.unusedSimpArgs false
open Go.Pv
open Go.ChangeShapes Go.WideShapes Go.ChangeAt Go.RowKit
attribute [local irreducible] RunU WpA Step CallG CallNG Done DoneN
end Go.Proofs.Ytleleajafgmpbaa
namespace Go.Proofs.Ytleleajafgmpbaa
open Go.Shelf
def sort64_ren : Go.Shelf.Ren := ⟨fun | 53 => 83 | 64 => 104 | 63 => 103 | 78 => 125 | 79 => 126 | 70 => 116 | 71 => 117 | 72 => 118 | 73 => 119 | 74 => 120 | 75 => 121 | 59 => 122 | 76 => 123 | 77 => 124 | 88 => 132 | 89 => 133 | 90 => 134 | 91 => 135 | 92 => 136 | 68 => 128 | 96 => 139 | n => n, fun | 22 => 22 | 23 => 2 | 3 => 3 | 51 => 91 | 0 => 0 | 67 => 109 | 69 => 87 | 4 => 4 | 61 => 126 | 60 => 125 | 44 => 82 | 5 => 5 | 9 => 9 | 75 => 140 | 79 => 144 | 83 => 146 | 84 => 147 | n => n, fun | n => n⟩
theorem sort64 : Go.Proofs.SlLaysN.n53 Try.prog sort64_ren := {
  mixed := by kernel_rfl
  f53 := ⟨Try.f83.name, by decide, Try.func83.trans (congrArg some (by kernel_rfl))⟩
  f59 := ⟨Try.f122.name, by decide, Try.func122.trans (congrArg some (by kernel_rfl))⟩
  f63 := ⟨Try.f103.name, by decide, Try.func103.trans (congrArg some (by kernel_rfl))⟩
  f64 := Try.func104.trans (congrArg some (by kernel_rfl))
  f68 := ⟨Try.f128.name, by decide, Try.func128.trans (congrArg some (by kernel_rfl))⟩
  f70 := ⟨Try.f116.name, by decide, Try.func116.trans (congrArg some (by kernel_rfl))⟩
  f71 := ⟨Try.f117.name, by decide, Try.func117.trans (congrArg some (by kernel_rfl))⟩
  f72 := ⟨Try.f118.name, by decide, Try.func118.trans (congrArg some (by kernel_rfl))⟩
  f73 := ⟨Try.f119.name, by decide, Try.func119.trans (congrArg some (by kernel_rfl))⟩
  f74 := ⟨Try.f120.name, by decide, Try.func120.trans (congrArg some (by kernel_rfl))⟩
  f75 := ⟨Try.f121.name, by decide, Try.func121.trans (congrArg some (by kernel_rfl))⟩
  f76 := ⟨Try.f123.name, by decide, Try.func123.trans (congrArg some (by kernel_rfl))⟩
  f77 := ⟨Try.f124.name, by decide, Try.func124.trans (congrArg some (by kernel_rfl))⟩
  f78 := Try.func125.trans (congrArg some (by kernel_rfl))
  f79 := Try.func126.trans (congrArg some (by kernel_rfl))
  f88 := ⟨Try.f132.name, by decide, Try.func132.trans (congrArg some (by kernel_rfl))⟩
  f89 := Try.func133.trans (congrArg some (by kernel_rfl))
  f90 := Try.func134.trans (congrArg some (by kernel_rfl))
  f91 := ⟨Try.f135.name, by decide, Try.func135.trans (congrArg some (by kernel_rfl))⟩
  f92 := ⟨Try.f136.name, by decide, Try.func136.trans (congrArg some (by kernel_rfl))⟩
  f96 := ⟨Try.f139.name, by decide, Try.func139.trans (congrArg some (by kernel_rfl))⟩
  t0 := Try.underlying0
  a0 := Try.isAgg0
  z0 := Try.sizeOf0
  v0 := Try.zeroValue0
  t3 := Try.underlying3
  a3 := Try.isAgg3
  z3 := Try.sizeOf3
  v3 := Try.zeroValue3
  t4 := Try.underlying4
  a4 := Try.isAgg4
  z4 := Try.sizeOf4
  v4 := Try.zeroValue4
  t5 := Try.underlying5
  a5 := Try.isAgg5
  z5 := Try.sizeOf5
  v5 := Try.zeroValue5
  t9 := Try.underlying9
  a9 := Try.isAgg9
  z9 := Try.sizeOf9
  v9 := Try.zeroValue9
  t22 := Try.underlying22
  a22 := Try.isAgg22
  z22 := Try.sizeOf22
  v22 := Try.zeroValue22
  t23 := Try.underlying2
  a23 := Try.isAgg2
  z23 := Try.sizeOf2
  v23 := Try.zeroValue2
  t44 := Try.underlying82
  a44 := Try.isAgg82
  z44 := Try.sizeOf82
  v44 := Try.zeroValue82
  t51 := Try.underlying91
  a51 := Try.isAgg91
  z51 := Try.sizeOf91
  v51 := Try.zeroValue91
  t60 := Try.underlying125
  a60 := Try.isAgg125
  z60 := Try.sizeOf125
  v60 := Try.zeroValue125
  t61 := Try.underlying126
  a61 := Try.isAgg126
  z61 := Try.sizeOf126
  v61 := Try.zeroValue126
  t67 := Try.underlying109
  a67 := Try.isAgg109
  z67 := Try.sizeOf109
  v67 := Try.zeroValue109
  t69 := Try.underlying87
  a69 := Try.isAgg87
  z69 := Try.sizeOf87
  v69 := Try.zeroValue87
  t75 := Try.underlying140
  a75 := Try.isAgg140
  z75 := Try.sizeOf140
  v75 := Try.zeroValue140
  t79 := Try.underlying144
  a79 := Try.isAgg144
  z79 := Try.sizeOf144
  v79 := Try.zeroValue144
  t83 := Try.underlying146
  a83 := Try.isAgg146
  z83 := Try.sizeOf146
  v83 := Try.zeroValue146
  t84 := Try.underlying147
  a84 := Try.isAgg147
  z84 := Try.sizeOf147
  v84 := Try.zeroValue147 }
end Go.Proofs.Ytleleajafgmpbaa
