/- The library's contracts at this program's numbers. No condition. -/
import Derived.Shelf.Bits.Mul64
import Derived.Test.YtleleajafgmpbaaProg
namespace Go.Proofs.Ytleleajafgmpbaa
open Go.Shelf
end Go.Proofs.Ytleleajafgmpbaa
