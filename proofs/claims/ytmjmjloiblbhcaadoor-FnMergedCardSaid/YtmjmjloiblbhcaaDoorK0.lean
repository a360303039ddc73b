/- What the bounds' tests of the program and of its reference give, for all arguments. -/
import Derived.Test.YtmjmjloiblbhcaaDoorProg
import Derived.Test.YtmjmjloiblbhcaaDoorMem
namespace Go.Proofs.YtmjmjloiblbhcaaDoor
open Go.RowKit
set_option maxRecDepth 100000
set_option maxHeartbeats 400000
theorem within_c (a b c : Int) (w : World) :
    Calls Tryd.prog 37 #[.int .i64 a, .int .i64 b, .int .i64 c] w (Pure (.bool (inB a b c)) w) := by
  by_cases h1 : b ≤ a <;> by_cases h2 : a ≤ c
  all_goals
    have e : Hid (inB a b c = (decide (b ≤ a) && decide (a ≤ c))) := rfl
    go_enter Tryd.func37, Tryd.ntmps37
    go_wp2
    go_ret
    exact ⟨by rw [e.out]; simp [*], rfl⟩
theorem l01In_c (a b c : Int) (w : World) :
    Calls Tryd.prog 31 #[.int .i64 a, .int .i64 b, .int .i64 c] w (Pure (.bool (inB a b c)) w) := by
  by_cases h1 : b ≤ a <;> by_cases h2 : a ≤ c
  all_goals
    have e : Hid (inB a b c = (decide (b ≤ a) && decide (a ≤ c))) := rfl
    go_enter Tryd.func31, Tryd.ntmps31
    go_wp2
    go_ret
    exact ⟨by rw [e.out]; simp [*], rfl⟩
theorem byte_back (b : UInt8) : ((b.toNat : Int)).toNat.toUInt8 = b := by simp
end Go.Proofs.YtmjmjloiblbhcaaDoor
