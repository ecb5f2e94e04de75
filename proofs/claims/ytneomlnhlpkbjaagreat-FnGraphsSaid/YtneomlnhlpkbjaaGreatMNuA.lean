/- The library's contracts at this program's numbers. No condition. -/
import Derived.Test.YtneomlnhlpkbjaaGreatMAcA
import Derived.Shelf.SortG.Plain
import Derived.Shelf.SortG.SortNone
import Derived.Test.YtneomlnhlpkbjaaGreatProg
set_option linter.unusedVariables false
set_option linter.unusedSimpArgs false
namespace Go.Proofs.YtneomlnhlpkbjaaGreat
set_option maxHeartbeats 20000000
open Go.Pv
open Go.ChangeShapes Go.WideShapes Go.ChangeAt Go.RowKit
attribute [local irreducible] RunU WpA Step CallG CallNG Done DoneN
instance fnOk241 : FnOk Tryz.prog 241 := ⟨_, Tryz.func241, rfl, by decide⟩
instance fnOk173 : FnOk Tryz.prog 173 := ⟨_, Tryz.func173, rfl, by decide⟩
theorem abs_c (a : Int) (h : -4611686018427387904 ≤ a ∧ a ≤ 4611686018427387904) : CallA Tryz.prog 173 [aI a] [rI (a.natAbs : Int)] [] := by
  refine callA_of _ Tryz.func173 rfl Tryz.ntmps173 solid_any ?_
  repeat' (first | refine Two.mk (fun _ => ?_) (fun _ => ?_) | refine goA ?_ | refine nxA ?_ | refine Done.ret (.one res_any .nil) (.sh .nil) ?_ rfl)
  case refine_1 h1 => rw [show ((a.natAbs : Nat) : Int) = -a by omega]
  case refine_2 h1 => rw [show ((a.natAbs : Nat) : Int) = a by omega]
end Go.Proofs.YtneomlnhlpkbjaaGreat
namespace Go.Proofs.YtneomlnhlpkbjaaGreat
set_option maxHeartbeats 20000000
open Go.Pv
open Go.ChangeShapes Go.WideShapes Go.ChangeAt Go.RowKit
attribute [local irreducible] RunU WpA Step CallG CallNG Done DoneN
end Go.Proofs.YtneomlnhlpkbjaaGreat
namespace Go.Proofs.YtneomlnhlpkbjaaGreat
open Go.Shelf
def sort64_ren : Go.Shelf.Ren := ⟨fun | 53 => 177 | 64 => 194 | 63 => 199 | 78 => 213 | 79 => 214 | 70 => 218 | 71 => 219 | 72 => 220 | 73 => 221 | 74 => 222 | 75 => 223 | 59 => 224 | 76 => 225 | 77 => 226 | 88 => 237 | 89 => 233 | 90 => 234 | 91 => 238 | 92 => 239 | 68 => 191 | 96 => 244 | n => n, fun | 22 => 24 | 23 => 2 | 3 => 3 | 51 => 129 | 0 => 0 | 67 => 184 | 69 => 67 | 4 => 4 | 61 => 177 | 60 => 176 | 44 => 181 | 5 => 5 | 9 => 9 | 75 => 200 | 79 => 204 | 83 => 212 | 84 => 213 | n => n, fun | n => n⟩
theorem sort64 : Go.Proofs.SlLaysN.n53 Tryz.prog sort64_ren := {
  mixed := by kernel_rfl
  f53 := ⟨Tryz.f177.name, by decide, Tryz.func177.trans (congrArg some (by kernel_rfl))⟩
  f59 := ⟨Tryz.f224.name, by decide, Tryz.func224.trans (congrArg some (by kernel_rfl))⟩
  f63 := ⟨Tryz.f199.name, by decide, Tryz.func199.trans (congrArg some (by kernel_rfl))⟩
  f64 := Tryz.func194.trans (congrArg some (by kernel_rfl))
  f68 := ⟨Tryz.f191.name, by decide, Tryz.func191.trans (congrArg some (by kernel_rfl))⟩
  f70 := ⟨Tryz.f218.name, by decide, Tryz.func218.trans (congrArg some (by kernel_rfl))⟩
  f71 := ⟨Tryz.f219.name, by decide, Tryz.func219.trans (congrArg some (by kernel_rfl))⟩
  f72 := ⟨Tryz.f220.name, by decide, Tryz.func220.trans (congrArg some (by kernel_rfl))⟩
  f73 := ⟨Tryz.f221.name, by decide, Tryz.func221.trans (congrArg some (by kernel_rfl))⟩
  f74 := ⟨Tryz.f222.name, by decide, Tryz.func222.trans (congrArg some (by kernel_rfl))⟩
  f75 := ⟨Tryz.f223.name, by decide, Tryz.func223.trans (congrArg some (by kernel_rfl))⟩
  f76 := ⟨Tryz.f225.name, by decide, Tryz.func225.trans (congrArg some (by kernel_rfl))⟩
  f77 := ⟨Tryz.f226.name, by decide, Tryz.func226.trans (congrArg some (by kernel_rfl))⟩
  f78 := Tryz.func213.trans (congrArg some (by kernel_rfl))
  f79 := Tryz.func214.trans (congrArg some (by kernel_rfl))
  f88 := ⟨Tryz.f237.name, by decide, Tryz.func237.trans (congrArg some (by kernel_rfl))⟩
  f89 := Tryz.func233.trans (congrArg some (by kernel_rfl))
  f90 := Tryz.func234.trans (congrArg some (by kernel_rfl))
  f91 := ⟨Tryz.f238.name, by decide, Tryz.func238.trans (congrArg some (by kernel_rfl))⟩
  f92 := ⟨Tryz.f239.name, by decide, Tryz.func239.trans (congrArg some (by kernel_rfl))⟩
  f96 := ⟨Tryz.f244.name, by decide, Tryz.func244.trans (congrArg some (by kernel_rfl))⟩
  t0 := Tryz.underlying0
  a0 := Tryz.isAgg0
  z0 := Tryz.sizeOf0
  v0 := Tryz.zeroValue0
  t3 := Tryz.underlying3
  a3 := Tryz.isAgg3
  z3 := Tryz.sizeOf3
  v3 := Tryz.zeroValue3
  t4 := Tryz.underlying4
  a4 := Tryz.isAgg4
  z4 := Tryz.sizeOf4
  v4 := Tryz.zeroValue4
  t5 := Tryz.underlying5
  a5 := Tryz.isAgg5
  z5 := Tryz.sizeOf5
  v5 := Tryz.zeroValue5
  t9 := Tryz.underlying9
  a9 := Tryz.isAgg9
  z9 := Tryz.sizeOf9
  v9 := Tryz.zeroValue9
  t22 := Tryz.underlying24
  a22 := Tryz.isAgg24
  z22 := Tryz.sizeOf24
  v22 := Tryz.zeroValue24
  t23 := Tryz.underlying2
  a23 := Tryz.isAgg2
  z23 := Tryz.sizeOf2
  v23 := Tryz.zeroValue2
  t44 := Tryz.underlying181
  a44 := Tryz.isAgg181
  z44 := Tryz.sizeOf181
  v44 := Tryz.zeroValue181
  t51 := Tryz.underlying129
  a51 := Tryz.isAgg129
  z51 := Tryz.sizeOf129
  v51 := Tryz.zeroValue129
  t60 := Tryz.underlying176
  a60 := Tryz.isAgg176
  z60 := Tryz.sizeOf176
  v60 := Tryz.zeroValue176
  t61 := Tryz.underlying177
  a61 := Tryz.isAgg177
  z61 := Tryz.sizeOf177
  v61 := Tryz.zeroValue177
  t67 := Tryz.underlying184
  a67 := Tryz.isAgg184
  z67 := Tryz.sizeOf184
  v67 := Tryz.zeroValue184
  t69 := Tryz.underlying67
  a69 := Tryz.isAgg67
  z69 := Tryz.sizeOf67
  v69 := Tryz.zeroValue67
  t75 := Tryz.underlying200
  a75 := Tryz.isAgg200
  z75 := Tryz.sizeOf200
  v75 := Tryz.zeroValue200
  t79 := Tryz.underlying204
  a79 := Tryz.isAgg204
  z79 := Tryz.sizeOf204
  v79 := Tryz.zeroValue204
  t83 := Tryz.underlying212
  a83 := Tryz.isAgg212
  z83 := Tryz.sizeOf212
  v83 := Tryz.zeroValue212
  t84 := Tryz.underlying213
  a84 := Tryz.isAgg213
  z84 := Tryz.sizeOf213
  v84 := Tryz.zeroValue213 }
end Go.Proofs.YtneomlnhlpkbjaaGreat
