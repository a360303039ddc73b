/- Marks on key rings, with what they leave as it was. -/
import Derived.Test.YtmebpmaldcogbaaA7
import Derived.Test.YtmebpmaldcogbaaMem6
namespace Go.Proofs.Ytmebpmaldcogbaa
open Go.RowKit Gf
set_option maxRecDepth 100000
set_option maxHeartbeats 400000
/-- a number, a slice written, the rest as it was -/
def MarkP (v : Int) (lo hi e : Nat) (A : Option Addr) (n : Nat) (xs : List Value) (w : World) (en : Ending) (w' : World) : Prop := en = .returned (.int .i64 v) ∧ Ow w' lo hi e 1 A n xs ∧ Mk lo hi w w'
theorem markKeyRing_m (x : Int) (A : Option Addr) (n c : Nat) (l : List Int) (w : World) (lo hi : Nat) (k : Int) (hr : Ow w lo hi 3 1 A n (iC l)) (hhi : hi ≤ w.heap.size) (hk0 : 0 ≤ k) (hk1 : k ≤ 1099511627776) (hn : n ≤ 1099511627776) :
    Calls Try.prog 67 #[.agg #[.int .i64 x, .slice A n c], .int .i64 k] w (MarkP (k + n) lo hi 3 A n (iC (markI k n)) w) := by
  go_enter Try.func67, Try.ntmps67
  go_wp2_with fail
  have hX := Below.alloc (Below.refl w.heap.size w) (Nat.le_refl _) (.cells #[.int .i64 x, .slice A n c] 58)
  refine (markIntS_c A n c l _ lo hi k (hr.below hX hhi) hk0 hk1 hn).mono ?_
  rintro e w1 ⟨rfl, ho1, _, hch⟩
  have hBe : Mk lo hi w w1 := Mk.pre hX (Mk.of_chg hch)
  go_wp2_with fail
  go_ret
  exact ⟨rfl, ho1, hBe⟩
end Go.Proofs.Ytmebpmaldcogbaa
