/- The library's contracts at this program's numbers. No condition. -/
import Derived.Shelf.Bits.Mul64
import Derived.Test.YtfkhngjkpjcdfaaProg
namespace Go.Proofs.Ytfkhngjkpjcdfaa
open Go.Shelf
end Go.Proofs.Ytfkhngjkpjcdfaa
