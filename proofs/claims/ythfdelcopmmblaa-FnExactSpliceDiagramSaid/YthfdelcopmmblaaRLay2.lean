/- The library's contracts at this program's numbers. No condition. -/
import Derived.Test.YthfdelcopmmblaaProg
namespace Go.Proofs.Ythfdelcopmmblaa
end Go.Proofs.Ythfdelcopmmblaa
