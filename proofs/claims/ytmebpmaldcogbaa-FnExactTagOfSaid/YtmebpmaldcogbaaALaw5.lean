/- Walk of the law on tags: it returns true. -/
import Derived.Test.YtmebpmaldcogbaaA10
namespace Go.Proofs.Ytmebpmaldcogbaa
open Go.RowKit Gf
set_option maxRecDepth 100000
set_option maxHeartbeats 400000
theorem fnExactTagOf_walk (x y : Int) (A : Option Addr) (n c : Nat) (l : List UInt8) (w : World) (_hx : (Lit.int .i64 x).wf = true) (_hy : (Lit.int .i64 y).wf = true) (hr : Rd w w.heap.size 1 A n (bC l)) :
    Calls Try.prog 14 #[.int .i64 x, .int .i64 y, .slice A n c] w (RetV (.bool true) w) := by
  clear _hx _hy
  have hbd := hr.bd
  by_cases hn : 1048576 < n
  · go_enter Try.func14, Try.ntmps14
    go_wp2_with fail
    go_ret
    exact ⟨rfl, Below.refl _ _⟩
  · go_enter Try.func14, Try.ntmps14
    go_wp2_with fail
    refine (toByteS_c A n c l _ hr (by omega)).mono ?_
    rintro e w1 ⟨A1, c1, rfl, hc1, ho1, hb1⟩
    go_wp2_with fail
    refine (TagOf_s x y A1 n c1 l _ (own_rd ho1)).mono ?_
    rintro e w2 ⟨rfl, hb2⟩
    have hb02 := then_ hb1 hb2 hb1.size
    go_wp2_with fail
    refine (toByteS_c A n c l _ (hr.up hb02) (by omega)).mono ?_
    rintro e w3 ⟨A3, c3, rfl, hc3, ho3, hb3⟩
    have hb03 := then_ hb02 hb3 hb02.size
    go_wp2_with fail
    refine (TagOf_i x y A3 n c3 l _ (own_rd ho3)).mono ?_
    rintro e w4 ⟨rfl, hb4⟩
    have hb04 := then_ hb03 hb4 hb03.size
    have r3 := (own_rd ho3).up hb4
    go_wp2_with fail
    refine (toByteS_c A n c l _ (hr.up hb04) (by omega)).mono ?_
    rintro e w5 ⟨A5, c5, rfl, hc5, ho5, hb5⟩
    have hb05 := then_ hb04 hb5 hb04.size
    go_wp2_with fail
    refine (eqByteS_c A3 A5 n c3 c5 l _ _ _ (r3.up hb5) (own_rd ho5)).mono ?_
    rintro e w6 ⟨rfl, hb6⟩
    have hb06 := then_ hb05 hb6 hb05.size
    go_wp2_with fail
    go_ret
    exact ⟨rfl, hb06⟩
end Go.Proofs.Ytmebpmaldcogbaa
