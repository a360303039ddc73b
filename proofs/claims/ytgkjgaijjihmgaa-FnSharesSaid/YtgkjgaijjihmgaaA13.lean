/- Marks on key rings, with what they leave as it was. -/
import Derived.Test.YtgkjgaijjihmgaaA7
import Derived.Test.YtgkjgaijjihmgaaMem6
namespace Go.Proofs.Ytgkjgaijjihmgaa
open Go.RowKit Gf
set_option maxRecDepth 100000
set_option maxHeartbeats 400000
/-- a number, a slice written, the rest as it was -/
def MarkP (v : Int) (lo hi e : Nat) (A : Option Addr) (n : Nat) (xs : List Value) (w : World) (en : Ending) (w' : World) : Prop := en = .returned (.int .i64 v) ∧ Ow w' lo hi e 1 A n xs ∧ Mk lo hi w w'
end Go.Proofs.Ytgkjgaijjihmgaa
