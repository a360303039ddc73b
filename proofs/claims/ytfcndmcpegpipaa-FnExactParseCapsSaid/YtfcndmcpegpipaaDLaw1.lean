/- The laws of CapsText and ParseCaps: each returns true, for all arguments. -/
import Derived.Test.YtfcndmcpegpipaaK2
namespace Go.Proofs.Ytfcndmcpegpipaa
open Go.RowKit
set_option maxRecDepth 100000
set_option maxHeartbeats 400000
theorem fnExactCapsText_walk (x : Int) (w : World) (_ : (Lit.int .i64 x).wf = true) :
    Calls Try.prog 3 #[.int .i64 x] w (RetV (.bool true) w) := by
  have C1 := CapsText_s x w
  have C2 := hide fun w => CapsText_i x w
  generalize capsG x = R at C1 C2
  go_enter Try.func3, Try.ntmps3
  go_wp2_with fail
  refine C1.mono ?_
  rintro e w1 ⟨rfl, hb1⟩
  go_wp2_with fail
  refine (C2.out w1).mono ?_
  rintro e w2 ⟨rfl, rfl⟩
  go_wp2_with fail
  go_ret
  exact ⟨rfl, hb1⟩
theorem fnExactParseCaps_walk (s : ByteArray) (w : World) (hs : s.size ≤ maxLen) :
    Calls Try.prog 4 #[.string s] w (RetV (.bool true) w) := by
  simp only [maxLen] at hs
  by_cases h0 : 1048576 < s.size
  · go_enter Try.func4, Try.ntmps4
    go_wp2_with fail
    go_ret
    exact ⟨rfl, Below.refl _ _⟩
  have C1 := ParseCaps_s s w
  have C2 := hide fun w => ParseCaps_i s hs w
  generalize parseB s = R at C1 C2
  obtain ⟨n, b⟩ := R
  cases b
  all_goals
    go_enter Try.func4, Try.ntmps4
    go_wp2_with fail
    refine C1.mono ?_
    rintro e w1 ⟨rfl, hb1⟩
    go_wp2_with fail
    refine (C2.out w1).mono ?_
    rintro e w2 ⟨rfl, rfl⟩
    go_wp2_with fail
    go_ret
    exact ⟨rfl, hb1⟩
end Go.Proofs.Ytfcndmcpegpipaa
