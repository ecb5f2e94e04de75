/- The library's contracts at this program's numbers. No condition. -/
import Derived.Shelf.Bits.Mul64
import Derived.Test.YtfkhngjkpjcdfaaProg
namespace Go.Proofs.Ytfkhngjkpjcdfaa
open Go.Shelf
def bitsMul_ren : Go.Shelf.Ren := ⟨fun | 212 => 148 | 263 => 176 | 264 => 177 | n => n, fun | 46 => 130 | 51 => 153 | 146 => 154 | 53 => 156 | 148 => 157 | n => n, fun | n => n⟩
theorem bitsMul : Go.Proofs.Lays.n212 Try.prog bitsMul_ren := {
  mixed := by kernel_rfl
  f212 := Try.func148.trans (congrArg some (by kernel_rfl))
  f263 := Try.func176.trans (congrArg some (by kernel_rfl))
  f264 := Try.func177.trans (congrArg some (by kernel_rfl))
  t46 := Try.underlying130
  a46 := Try.isAgg130
  z46 := Try.sizeOf130
  v46 := Try.zeroValue130
  t51 := Try.underlying153
  a51 := Try.isAgg153
  z51 := Try.sizeOf153
  v51 := Try.zeroValue153
  t53 := Try.underlying156
  a53 := Try.isAgg156
  z53 := Try.sizeOf156
  v53 := Try.zeroValue156
  t146 := Try.underlying154
  a146 := Try.isAgg154
  z146 := Try.sizeOf154
  v146 := Try.zeroValue154
  t148 := Try.underlying157
  a148 := Try.isAgg157
  z148 := Try.sizeOf157
  v148 := Try.zeroValue157 }
end Go.Proofs.Ytfkhngjkpjcdfaa
