/- What comparing and matching of globs is, and what the program's MatchGlob gives; each contract says for which arguments. -/
import Derived.Test.YtmjmjloiblbhcaaDoorB3
import Derived.Test.YtmjmjloiblbhcaaDoorMem2
namespace Go.Proofs.YtmjmjloiblbhcaaDoor
open Go.RowKit
set_option maxRecDepth 100000
set_option maxHeartbeats 400000
theorem path_size {s : ByteArray} (h : pathB s = true) : s.size ≤ 120 := by
  simp only [pathB, Bool.and_eq_true] at h
  exact (globB_true.1 h.1).1
def cmpG (a b : ByteArray) : Int := if globB a && globB b then cmpA a b else -2
def matchB (g p : ByteArray) : Bool := pathB p && coversB g p
end Go.Proofs.YtmjmjloiblbhcaaDoor
