/- Key rings: copies, rotation, trimming: what the program's and the reference's functions give. -/
import Derived.Test.YtgkjgaijjihmgaaA7
import Derived.Test.YtgkjgaijjihmgaaMem6
import Derived.WalkSpells
import Derived.Deep.RegionHeld3
namespace Go.Proofs.Ytgkjgaijjihmgaa
open Go.RowKit Gf
set_option maxRecDepth 100000
set_option maxHeartbeats 400000
theorem Rd.nil_len {w : World} {hi size n : Nat} {xs : List Value} (h : Rd w hi size none n xs) : n = 0 := by
  rcases Nat.eq_zero_or_pos n with h0 | h0
  · exact h0
  · obtain ⟨b, off, e, _⟩ := h.2.2 h0
    cases e
def RetRing2 (x : Int) (l : List Int) (ok : Bool) (w : World) (en : Ending) (w' : World) : Prop :=
  ∃ A c, en = .returned (.tuple #[.agg #[.int .i64 x, .slice A l.length c], .bool ok]) ∧ l.length ≤ c ∧ Ow w' w.heap.size w'.heap.size 3 1 A l.length (iC l) ∧ Below w.heap.size w w'
end Go.Proofs.Ytgkjgaijjihmgaa
