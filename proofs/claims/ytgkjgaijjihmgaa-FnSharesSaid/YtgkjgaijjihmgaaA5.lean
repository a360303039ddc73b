/- Streams: what the program's and the reference's functions give. -/
import Derived.Test.YtgkjgaijjihmgaaA4
namespace Go.Proofs.Ytgkjgaijjihmgaa
open Go.RowKit Gf
set_option maxRecDepth 100000
set_option maxHeartbeats 400000
def smH (key nonce : Int) : Nat → Int
  | 0 => (key % 2147483629 + 2 * (nonce % 2147483629) + 1) % 2147483629
  | k + 1 => (48271 * smH key nonce k + key % 65521 + 1) % 2147483629
theorem smH_bd (key nonce : Int) (k : Nat) : 0 ≤ smH key nonce k ∧ smH key nonce k < 2147483629 := by
  cases k <;> simp only [smH] <;> omega
def smB (key nonce : Int) (n : Nat) : List UInt8 := (List.range n).map fun (i : Nat) => UInt8.ofNat (smH key nonce (i + 1) / 1024 % 256).toNat
theorem smB_length (key nonce : Int) (n : Nat) : (smB key nonce n).length = n := by simp [smB]
theorem smB_get (key nonce : Int) (n k : Nat) (h : k < (smB key nonce n).length) : ((smB key nonce n)[k].toNat : Int) = smH key nonce (k + 1) / 1024 % 256 := by
  simp only [smB, List.getElem_map, List.getElem_range, UInt8.toNat_ofNat']
  generalize smH key nonce (k + 1) = y
  omega
def smOk (key nonce n : Int) : Bool := inB key 0 1099511627776 && inB nonce 0 1099511627776 && inB n 0 2000
def sm_ (key nonce n : Int) : List UInt8 := if smOk key nonce n then smB key nonce n.toNat else []
end Go.Proofs.Ytgkjgaijjihmgaa
