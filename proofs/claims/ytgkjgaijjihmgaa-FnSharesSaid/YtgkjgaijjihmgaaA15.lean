/- Boxes: what the program's and the reference's masks give. -/
import Derived.Test.YtgkjgaijjihmgaaA10
import Derived.Test.YtgkjgaijjihmgaaMem7
import Derived.Deep.RegionHeld3
namespace Go.Proofs.Ytgkjgaijjihmgaa
open Go.RowKit Gf
set_option maxRecDepth 100000
set_option maxHeartbeats 400000
def xB (key nonce : Int) (l : List UInt8) : List UInt8 := List.zipWith (fun x y => x ^^^ y) l (smB key nonce l.length)
theorem xB_length (key nonce : Int) (l : List UInt8) : (xB key nonce l).length = l.length := by simp [xB, smB_length]
theorem xB_get (key nonce : Int) (l : List UInt8) (k : Nat) (h : k < (xB key nonce l).length) : (xB key nonce l)[k] = l[k]'(by rw [xB_length] at h; exact h) ^^^ (smB key nonce l.length)[k]'(by rw [smB_length]; rw [xB_length] at h; exact h) := by simp [xB]
end Go.Proofs.Ytgkjgaijjihmgaa
