/- What the laws' helpers on slices of numbers give (equal, held, marked); each contract says for which arguments. -/
import Derived.Test.YtmjmjloiblbhcaaDoorProg
import Derived.Test.YtmjmjloiblbhcaaDoorMem2
import Derived.Deep.OwnRows
import Derived.Deep.QuietTactic
import Derived.BigQuiet
namespace Go.Proofs.YtmjmjloiblbhcaaDoor
open Go.RowKit
set_option maxRecDepth 100000
set_option maxHeartbeats 400000
theorem info_i : (Tryd.prog.info? 3).map (fun i => (i.zero, i.size, i.bytes)) = some (some (.int .i64 0), 1, 8) := by kernel_rfl
def markI (k : Int) (n : Nat) : List Int := (List.range n).map fun (j : Nat) => k + (j : Int)
theorem markI_length (k : Int) (n : Nat) : (markI k n).length = n := by simp [markI]
theorem markI_get (k : Int) (n j : Nat) (h : j < (markI k n).length) : (markI k n)[j] = k + j := by simp [markI]
end Go.Proofs.YtmjmjloiblbhcaaDoor
