/- Boxes by value: size, copy, equality, marks; opening. -/
import Derived.Test.YtgkjgaijjihmgaaA16
namespace Go.Proofs.Ytgkjgaijjihmgaa
open Go.RowKit Gf
set_option maxRecDepth 100000
set_option maxHeartbeats 400000
theorem quiet_pure {P : Program} {f : FuncId} {args : Array Value} {w : World} {n : Nat} {v : Value} (h : Calls P f args (w.drewN n) (Pure v (w.drewN n))) : Calls P f args (w.drewN n) fun e w'' => e = .returned v ∧ ∃ m, w'' = w.drewN m :=
  h.mono fun _ _ ⟨he, hm⟩ => ⟨he, n, hm.symm⟩
theorem markByteS_m (A : Option Addr) (n c : Nat) (l : List UInt8) (w : World) (lo hi : Nat) (k : Int) (hr : Ow w lo hi 5 1 A n (bC l)) (hk0 : 0 ≤ k) (hk1 : k ≤ 1099511627776) (hn : n ≤ 1099511627776) :
    Calls Try.prog 28 #[.slice A n c, .int .i64 k] w (MarkP (k + n) lo hi 5 A n (bC (markB k n)) w) :=
  (markByteS_c A n c l w lo hi k hr hk0 hk1 hn).mono fun _ _ ⟨h1, h2, _, h4⟩ => ⟨h1, h2, Mk.of_chg h4⟩
def obOk (key x t : Int) (l : List UInt8) : Bool := tagOk key x l.length && (tagB key x l == t)
def obL (key x t : Int) (l : List UInt8) : List UInt8 := if obOk key x t l then xB key x l else []
theorem ob_cases {k x t : Int} {l : List UInt8} : (obOk k x t l = false ∧ obL k x t l = [] ∧ (inB k 0 1099511627776 = false ∨ (inB k 0 1099511627776 = true ∧ inB x 0 1099511627776 = false) ∨ (inB k 0 1099511627776 = true ∧ inB x 0 1099511627776 = true ∧ 2000 < l.length)))
    ∨ (tagOk k x l.length = true ∧ ((obOk k x t l = false ∧ obL k x t l = [] ∧ (tagB k x l == t) = false) ∨ (obOk k x t l = true ∧ obL k x t l = xB k x l ∧ (tagB k x l == t) = true))) := by
  unfold obL obOk
  cases h1 : tagOk k x l.length
  · exact .inl ⟨rfl, rfl, tag_cases h1⟩
  · right
    refine ⟨rfl, ?_⟩
    cases h2 : (tagB k x l == t)
    · exact .inl ⟨rfl, rfl, rfl⟩
    · exact .inr ⟨rfl, rfl, rfl⟩
end Go.Proofs.Ytgkjgaijjihmgaa
