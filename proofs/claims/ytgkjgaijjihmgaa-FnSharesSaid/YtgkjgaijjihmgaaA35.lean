/- What giving a share to a seal gives; marks of seals and shares. -/
import Derived.Test.YtgkjgaijjihmgaaA34
import Derived.Test.YtgkjgaijjihmgaaA26
import Derived.Test.YtgkjgaijjihmgaaA22
import Derived.Test.YtgkjgaijjihmgaaA17
namespace Go.Proofs.Ytgkjgaijjihmgaa
open Go.RowKit Gf
set_option maxRecDepth 100000
set_option maxHeartbeats 400000
theorem ShW.below' {w w' : World} {lo hi e n : Nat} {A : Option Addr} {hs : List (Option Addr × Nat)} {ss : List Sh} (r : ShW w lo hi e A n hs ss) (hb : Below w.heap.size w w') (hhi : hi ≤ w.heap.size) : ShW w' lo hi e A n hs ss := r.below hb hhi
theorem markSeal_m (need sum : Int) (A : Option Addr) (n c : Nat) (hs : List (Option Addr × Nat)) (ss : List Sh) (w : World) (lo hi : Nat) (k0 : Int) (hr : ShW w lo hi 31 A n hs ss) (hhi : hi ≤ w.heap.size) (hk0 : 0 ≤ k0) (hk1 : k0 + cntS ss ≤ 1099511627776) :
    Calls Try.prog 26 #[.agg #[.int .i64 need, .int .i64 sum, .slice A n c], .int .i64 k0] w (MarkSP (k0 + cntS ss) lo hi 31 A n hs (markS k0 ss) w) := by
  go_enter Try.func26, Try.ntmps26
  go_wp2_with fail
  have hX := Below.alloc (Below.refl w.heap.size w) (Nat.le_refl _) (.cells #[.int .i64 need, .int .i64 sum, .slice A n c] 39)
  refine (markShareS_m A n c hs ss _ lo hi k0 (hr.below' hX hhi) (by first | omega | (simp; done) | (simp; omega)) hk0 hk1).mono ?_
  rintro e w1 ⟨rfl, ho1, hch⟩
  have hBe : Mk lo hi w w1 := Mk.pre hX hch
  go_wp2_with fail
  go_ret
  exact ⟨rfl, ho1, hBe⟩
theorem markShare_m (x : Int) (A : Option Addr) (n c : Nat) (l : List UInt8) (w : World) (lo hi : Nat) (k : Int) (hr : Ow w lo hi 5 1 A n (bC l)) (hhi : hi ≤ w.heap.size) (hk0 : 0 ≤ k) (hk1 : k ≤ 1099511627776) (hn : n ≤ 1099511627776) :
    Calls Try.prog 27 #[.agg #[.int .i64 x, .slice A n c], .int .i64 k] w (MarkP (k + n) lo hi 5 A n (bC (markB k n)) w) := by
  go_enter Try.func27, Try.ntmps27
  go_wp2_with fail
  have hX := Below.alloc (Below.refl w.heap.size w) (Nat.le_refl _) (.cells #[.int .i64 x, .slice A n c] 31)
  refine (markByteS_c A n c l _ lo hi k (hr.below hX hhi) hk0 hk1 hn).mono ?_
  rintro e w1 ⟨rfl, ho1, _, hch⟩
  have hBe : Mk lo hi w w1 := Mk.pre hX (Mk.of_chg hch)
  go_wp2_with fail
  go_ret
  exact ⟨rfl, ho1, hBe⟩
theorem heldSeal_c (need sum : Int) (A : Option Addr) (n c : Nat) (ss : List Sh) (w : World) (hi : Nat) (k0 : Int) (hr : ShR w hi A n (markS k0 ss)) (hhi : hi ≤ w.heap.size) (hk0 : 0 ≤ k0) (hk1 : k0 + cntS ss ≤ 1099511627776) :
    Calls Try.prog 29 #[.agg #[.int .i64 need, .int .i64 sum, .slice A n c], .int .i64 k0] w (RetV (.int .i64 (k0 + cntS ss)) w) := by
  go_enter Try.func29, Try.ntmps29
  go_wp2_with fail
  refine (heldShareS_c A n c ss _ hi k0 (hr.below (by repeat (first | with_reducible exact Below.refl _ _ | with_reducible assumption | refine Below.alloc ?_ (by first | omega | (simp; done) | (simp; omega)) _ | refine Below.setCell ?_ (by first | omega | (simp; done) | (simp; omega)) _ | refine Below.drew ?_ | refine below_drewN ?_ _ | exact Below.refl _ _ | assumption)) hhi) (by first | omega | (simp; done) | (simp; omega)) hk0 hk1).mono ?_
  rintro e w1 ⟨rfl, hb1⟩
  have hB : Below w.heap.size w w1 := then_ (by repeat (first | with_reducible exact Below.refl _ _ | with_reducible assumption | refine Below.alloc ?_ (by first | omega | (simp; done) | (simp; omega)) _ | refine Below.setCell ?_ (by first | omega | (simp; done) | (simp; omega)) _ | refine Below.drew ?_ | refine below_drewN ?_ _ | exact Below.refl _ _ | assumption)) hb1 (by first | omega | (simp; done) | (simp; omega))
  go_wp2_with fail
  go_ret
  exact ⟨rfl, hB⟩
/-- giving a share: is it refused at once; is it there already -/
def gvBad (need : Int) (ss : List Sh) (x : Int) (d : List UInt8) : Bool := !slOk need ss || !shOk x d.length || (decide (0 < ss.length) && decide (lenS ss ≠ d.length))
def gvDup (ss : List Sh) (x : Int) : Bool := ss.any fun s => s.1 == x
/-- the secret out of the shares with the new one -/
def gvSec (need : Int) (ss : List Sh) (x : Int) (d : List UInt8) : List UInt8 := cbR (ss ++ [(x, d)]) need
/-- the code, the shares behind it, the secret -/
def gvCode (need sum : Int) (ss : List Sh) (x : Int) (d : List UInt8) : Int :=
  if gvBad need ss x d then 4 else if gvDup ss x then 3 else if (ss.length : Int) + 1 < need then 0 else if dig (gvSec need ss x d) ≠ sum then 2 else 1
def gvSh (need sum : Int) (ss : List Sh) (x : Int) (d : List UInt8) : List Sh :=
  if gvCode need sum ss x d = 4 ∨ gvCode need sum ss x d = 3 then ss else if gvCode need sum ss x d = 0 then ss ++ [(x, d)] else []
def gvOut (need sum : Int) (ss : List Sh) (x : Int) (d : List UInt8) : List UInt8 := if gvCode need sum ss x d = 1 then gvSec need ss x d else []
def RetGive (need sum : Int) (ss : List Sh) (code : Int) (l : List UInt8) (w : World) (en : Ending) (w' : World) : Prop :=
  ∃ A c hs B cb, en = .returned (.tuple #[.agg #[.int .i64 need, .int .i64 sum, .slice A ss.length c], .int .i64 code, .slice B l.length cb]) ∧ ss.length ≤ c ∧ l.length ≤ cb ∧ ShO w' w.heap.size 31 A ss.length c hs ss ∧
    w'.ownsRow w.heap.size 5 1 (.slice B l.length cb) l.length (bC l) ∧ Below w.heap.size w w'
end Go.Proofs.Ytgkjgaijjihmgaa
