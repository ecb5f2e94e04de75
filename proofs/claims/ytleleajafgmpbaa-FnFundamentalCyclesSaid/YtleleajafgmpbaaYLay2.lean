/- The library's contracts at this program's numbers. No condition. -/
import Derived.Shelf.Bits.Mul64
import Derived.Test.YtleleajafgmpbaaProg
namespace Go.Proofs.Ytleleajafgmpbaa
open Go.Shelf
def bitsMul_ren : Go.Shelf.Ren := ⟨fun | 212 => 82 | 263 => 101 | 264 => 102 | n => n, fun | 46 => 91 | 51 => 109 | 146 => 110 | 53 => 87 | 148 => 112 | n => n, fun | n => n⟩
theorem bitsMul : Go.Proofs.Lays.n212 Try.prog bitsMul_ren := {
  mixed := by kernel_rfl
  f212 := Try.func82.trans (congrArg some (by kernel_rfl))
  f263 := Try.func101.trans (congrArg some (by kernel_rfl))
  f264 := Try.func102.trans (congrArg some (by kernel_rfl))
  t46 := Try.underlying91
  a46 := Try.isAgg91
  z46 := Try.sizeOf91
  v46 := Try.zeroValue91
  t51 := Try.underlying109
  a51 := Try.isAgg109
  z51 := Try.sizeOf109
  v51 := Try.zeroValue109
  t53 := Try.underlying87
  a53 := Try.isAgg87
  z53 := Try.sizeOf87
  v53 := Try.zeroValue87
  t146 := Try.underlying110
  a146 := Try.isAgg110
  z146 := Try.sizeOf110
  v146 := Try.zeroValue110
  t148 := Try.underlying112
  a148 := Try.isAgg112
  z148 := Try.sizeOf112
  v148 := Try.zeroValue112 }
end Go.Proofs.Ytleleajafgmpbaa
