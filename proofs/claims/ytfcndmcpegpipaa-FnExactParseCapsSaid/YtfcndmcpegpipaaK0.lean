/- What the bounds' tests of the program and of its reference give, for all arguments. -/
import Derived.Test.YtfcndmcpegpipaaProg
import Derived.Test.YtfcndmcpegpipaaMem
namespace Go.Proofs.Ytfcndmcpegpipaa
open Go.RowKit
set_option maxRecDepth 100000
set_option maxHeartbeats 400000
theorem within_c (a b c : Int) (w : World) :
    Calls Try.prog 10 #[.int .i64 a, .int .i64 b, .int .i64 c] w (Pure (.bool (inB a b c)) w) := by
  by_cases h1 : b ≤ a <;> by_cases h2 : a ≤ c
  all_goals
    have e : Hid (inB a b c = (decide (b ≤ a) && decide (a ≤ c))) := rfl
    go_enter Try.func10, Try.ntmps10
    go_wp2
    go_ret
    exact ⟨by rw [e.out]; simp [*], rfl⟩
theorem l01In_c (a b c : Int) (w : World) :
    Calls Try.prog 9 #[.int .i64 a, .int .i64 b, .int .i64 c] w (Pure (.bool (inB a b c)) w) := by
  by_cases h1 : b ≤ a <;> by_cases h2 : a ≤ c
  all_goals
    have e : Hid (inB a b c = (decide (b ≤ a) && decide (a ≤ c))) := rfl
    go_enter Try.func9, Try.ntmps9
    go_wp2
    go_ret
    exact ⟨by rw [e.out]; simp [*], rfl⟩
theorem byte_back (b : UInt8) : ((b.toNat : Int)).toNat.toUInt8 = b := by simp
end Go.Proofs.Ytfcndmcpegpipaa
