/- Shares that fit: what the reference's function gives. -/
import Derived.Test.YtgkjgaijjihmgaaA26
namespace Go.Proofs.Ytgkjgaijjihmgaa
open Go.RowKit Gf
set_option maxRecDepth 100000
set_option maxHeartbeats 1000000
end Go.Proofs.Ytgkjgaijjihmgaa
