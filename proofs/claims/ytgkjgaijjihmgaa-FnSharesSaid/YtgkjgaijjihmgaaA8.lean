/- Tags of boxes: what the program's and the reference's functions give. -/
import Derived.Test.YtgkjgaijjihmgaaA5
import Derived.Test.YtgkjgaijjihmgaaMem3
import Derived.Lib.AppendZerosOnto
namespace Go.Proofs.Ytgkjgaijjihmgaa
open Go.RowKit Gf
set_option maxRecDepth 100000
set_option maxHeartbeats 400000
end Go.Proofs.Ytgkjgaijjihmgaa
