/- Walks of the laws on numbers: each returns true, whatever the numbers are. -/
import Derived.Test.YtmebpmaldcogbaaA1
namespace Go.Proofs.Ytmebpmaldcogbaa
open Go.RowKit Gf
set_option maxRecDepth 100000
set_option maxHeartbeats 400000
theorem fnExactConstants_walk (w : World) : Calls Try.prog 3 #[] w (RetV (.bool true) w) := by
  go_enter Try.func3, Try.ntmps3
  go_wp2
  go_ret
  exact ⟨rfl, Below.refl _ _⟩
theorem fnExactNoise_walk (a b c : Int) (_ha : (Lit.int .i64 a).wf = true) (_hb : (Lit.int .i64 b).wf = true) (_hc : (Lit.int .i64 c).wf = true) (w : World) : Calls Try.prog 4 #[.int .i64 a, .int .i64 b, .int .i64 c] w (RetV (.bool true) w) := by
  clear _ha _hb _hc
  go_enter Try.func4, Try.ntmps4
  go_wp2_with (first | (go_at_call 27; refine (Noise_s _ _ _ _).mono ?_; rintro e w' ⟨rfl, rfl⟩) | (go_at_call 28; refine (Noise_i _ _ _ _).mono ?_; rintro e w' ⟨rfl, rfl⟩))
  go_ret
  exact ⟨rfl, Below.refl _ _⟩
theorem fnExactGMul_walk (a b : Int) (_ha : (Lit.int .i64 a).wf = true) (_hb : (Lit.int .i64 b).wf = true) (w : World) : Calls Try.prog 6 #[.int .i64 a, .int .i64 b] w (RetV (.bool true) w) := by
  clear _ha _hb
  go_enter Try.func6, Try.ntmps6
  go_wp2_with (first | (go_at_call 33; refine (GMul_s _ _ _).mono ?_; rintro e w' ⟨rfl, rfl⟩) | (go_at_call 34; refine (GMul_i _ _ _).mono ?_; rintro e w' ⟨rfl, rfl⟩))
  go_ret
  exact ⟨rfl, Below.refl _ _⟩
theorem fnExactGInv_walk (a : Int) (_ha : (Lit.int .i64 a).wf = true) (w : World) : Calls Try.prog 7 #[.int .i64 a] w (RetV (.bool true) w) := by
  clear _ha
  go_enter Try.func7, Try.ntmps7
  go_wp2_with (first | (go_at_call 35; refine (GInv_s _ _).mono ?_; rintro e w' ⟨rfl, rfl⟩) | (go_at_call 36; refine (GInv_i _ _).mono ?_; rintro e w' ⟨rfl, rfl⟩))
  go_ret
  exact ⟨rfl, Below.refl _ _⟩
end Go.Proofs.Ytmebpmaldcogbaa
