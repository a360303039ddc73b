/- Equal rows of bytes compare equal; a box that is opened with its own key gives its plain text. -/
import Derived.Test.YtgkjgaijjihmgaaA17
import Derived.Test.YtgkjgaijjihmgaaA30
import Derived.Test.YtgkjgaijjihmgaaALaw3
import Derived.BigQuiet
namespace Go.Proofs.Ytgkjgaijjihmgaa
open Go.RowKit Gf
set_option maxRecDepth 100000
set_option maxHeartbeats 400000
theorem sameBytes_c (A A' : Option Addr) (n c c' : Nat) (l : List UInt8) (w : World) (hi hi' : Nat) (hr : Rd w hi 1 A n (bC l)) (hr' : Rd w hi' 1 A' n (bC l)) :
    Calls Try.prog 13 #[.slice A n c, .slice A' n c'] w (RetV (.bool true) w) := by
  have hn := hr.bd
  go_enter Try.func13, Try.ntmps13
  go_wp2_with fail
  go_loopw [5] (fun i wr => ∃ k m : Nat, k ≤ n ∧ i = .int .i64 k ∧ wr = w.drewN m) (fun i _ => n - (intOf i).toNat)
  case atStart => exact ⟨0, 0, by omega, rfl, rfl⟩
  case round =>
    obtain ⟨k, m, hk, rfl, rfl⟩ := hrel
    by_cases hlt : k < n
    · obtain ⟨b, off, rfl, hblt, hl, hc⟩ := hr.byte hlt
      obtain ⟨b', off', rfl, hblt', hl', hc'⟩ := hr'.byte hlt
      have e1 : ((l[k].toNat : Int) != (l[k].toNat : Int)) = false := by simp
      go_wp2_with fail
      go_quiet (fail)
      go_wp2
      exact ⟨⟨k + 1, _, by omega, by go_num, rfl⟩, by simp [intOf]; omega⟩
    · go_wp2
      go_ret
      exact ⟨rfl, below_drewN (Below.refl _ _) m⟩
theorem xB_xB (k n : Int) (l : List UInt8) : xB k n (xB k n l) = l := by
  apply List.ext_getElem
  · rw [xB_length, xB_length]
  · intro i h1 h2
    rw [xB_get, xB_get]
    simp only [xB_length]
    rw [UInt8.xor_assoc, UInt8.xor_self, UInt8.xor_zero]
theorem dig_bd (l : List UInt8) : 0 ≤ dig l ∧ dig l < 4611686018427387904 := by
  have h1 := dgU_bd l
  have h2 := dgV_bd l
  unfold dig
  omega
def RetBox3 (x : Int) (l : List UInt8) (t : Int) (ok : Bool) (n : Nat) (w : World) (en : Ending) (w' : World) : Prop :=
  ∃ A c, en = .returned (.tuple #[.agg #[.int .i64 x, .slice A n c, .int .i64 t], .bool ok]) ∧ n ≤ c ∧ w'.ownsRow w.heap.size 5 1 (.slice A n c) n (bC l) ∧ Below w.heap.size w w'
def RetRow3 (l : List UInt8) (ok : Bool) (n : Nat) (w : World) (en : Ending) (w' : World) : Prop :=
  ∃ A c, en = .returned (.tuple #[.slice A n c, .bool ok]) ∧ n ≤ c ∧ w'.ownsRow w.heap.size 5 1 (.slice A n c) n (bC l) ∧ Below w.heap.size w w'
end Go.Proofs.Ytgkjgaijjihmgaa
