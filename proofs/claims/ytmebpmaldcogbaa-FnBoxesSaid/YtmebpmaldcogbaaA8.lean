/- Tags of boxes: what the program's and the reference's functions give. -/
import Derived.Test.YtmebpmaldcogbaaA5
import Derived.Test.YtmebpmaldcogbaaMem3
import Derived.Lib.AppendZerosOnto
namespace Go.Proofs.Ytmebpmaldcogbaa
open Go.RowKit Gf
set_option maxRecDepth 100000
set_option maxHeartbeats 400000
theorem grow_c (n : Nat) (w : World) (hn : n ≤ 1048576) : Calls Try.prog 162 #[.slice none 0 0, .int .i64 n] w (RetRow 5 1 0 [] w) := by
  by_cases h0 : n = 0
  · subst h0
    go_enter Try.func162, Try.ntmps162
    go_wp2_with fail
    go_ret
    exact ⟨_, _, rfl, Nat.le_refl _, World.ownsRow_nil _ _ _ _, Below.refl _ _⟩
  · have hpos : 0 < n := by omega
    have hpos' : (0 : Int) < n := by omega
    go_enter Try.func162, Try.ntmps162
    go_wp2_with (at_builtin; refine wpList_zeros _ rfl (.tmp 20) (.tmp 21) 25 3 rfl .i64 .i64 5 (.int .u8 0) 1 Try.underlying25 Try.underlying3 info5 rfl n rfl rfl hpos (by omega) (by omega) ?_; intro c cur w1 hc hcm hcs hh hb1)
    go_ret
    exact ⟨_, _, rfl, Nat.zero_le _, ⟨by simp, .inr ⟨w.heap.size, c, cur, rfl, Nat.le_refl _, hh, Nat.zero_le _, hcm, by omega, by simp⟩⟩, hb1⟩
end Go.Proofs.Ytmebpmaldcogbaa
