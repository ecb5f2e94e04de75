/- The library's contracts at this program's numbers. No condition. -/
import Derived.Shelf.SlicesG.Reverse
import Derived.Test.YtakecbnclmjloaaProg
namespace Go.Proofs.Ytakecbnclmjloaa
open Go.Shelf
def rev64_ren : Go.Shelf.Ren := ⟨fun | 35 => 94 | n => n, fun | 22 => 26 | 23 => 2 | 3 => 3 | 4 => 4 | 0 => 0 | n => n, fun | n => n⟩
theorem rev64 : Go.Proofs.SlLaysN.n35 Try.prog rev64_ren := {
  mixed := by kernel_rfl
  f35 := ⟨Try.f94.name, by decide, Try.func94.trans (congrArg some (by kernel_rfl))⟩
  t0 := Try.underlying0
  a0 := Try.isAgg0
  z0 := Try.sizeOf0
  v0 := Try.zeroValue0
  t3 := Try.underlying3
  a3 := Try.isAgg3
  z3 := Try.sizeOf3
  v3 := Try.zeroValue3
  t4 := Try.underlying4
  a4 := Try.isAgg4
  z4 := Try.sizeOf4
  v4 := Try.zeroValue4
  t22 := Try.underlying26
  a22 := Try.isAgg26
  z22 := Try.sizeOf26
  v22 := Try.zeroValue26
  t23 := Try.underlying2
  a23 := Try.isAgg2
  z23 := Try.sizeOf2
  v23 := Try.zeroValue2 }
end Go.Proofs.Ytakecbnclmjloaa
