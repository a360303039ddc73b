/- One share by value: size, copy, validity, equality. -/
import Derived.Test.YtgkjgaijjihmgaaA3
import Derived.Test.YtgkjgaijjihmgaaMem2
import Derived.Deep.RegionWith
import Derived.Deep.RegionHeld3
namespace Go.Proofs.Ytgkjgaijjihmgaa
open Go.RowKit Gf
set_option maxRecDepth 100000
set_option maxHeartbeats 400000
theorem szByteS_ok (A : Option Addr) (n c : Nat) (left : Int) (w : World) (h0 : (n : Int) ≤ left) (h1 : left ≤ 1099511627776) :
    Calls Try.prog 57 #[.slice A n c, .int .i64 left] w (Pure (.int .i64 (left - n)) w) := by
  go_enter Try.func57, Try.ntmps57
  go_wp2
  go_ret
  exact ⟨rfl, rfl⟩
theorem szByteS_no (A : Option Addr) (n c : Nat) (left : Int) (w : World) (h0 : left < n) (h1 : -1 ≤ left) (h2 : left ≤ 1099511627776) (hn : n ≤ 9223372036854775807) :
    Calls Try.prog 57 #[.slice A n c, .int .i64 left] w (Pure (.int .i64 (-1)) w) := by
  go_enter Try.func57, Try.ntmps57
  go_wp2
  go_ret
  exact ⟨rfl, rfl⟩
def shV (x : Int) (A : Option Addr) (n c : Nat) : Value := .agg #[.int .i64 x, .slice A n c]
theorem szShare_ok (x : Int) (A : Option Addr) (n c : Nat) (left : Int) (w : World) (h0 : (n : Int) ≤ left) (h1 : left ≤ 1099511627776) :
    Calls Try.prog 19 #[.agg #[.int .i64 x, .slice A n c], .int .i64 left] w (RetV (.int .i64 (left - n)) w) := by
  go_enter Try.func19, Try.ntmps19
  go_wp2_with (go_at_call 57; refine (szByteS_ok _ _ _ _ _ h0 h1).mono ?_; rintro e w' ⟨rfl, rfl⟩)
  go_ret
  exact ⟨rfl, (Below.refl _ _).alloc (Nat.le_refl _) _⟩
theorem szShare_no (x : Int) (A : Option Addr) (n c : Nat) (left : Int) (w : World) (h0 : left < n) (h1 : -1 ≤ left) (h2 : left ≤ 1099511627776) (hn : n ≤ 9223372036854775807) :
    Calls Try.prog 19 #[.agg #[.int .i64 x, .slice A n c], .int .i64 left] w (RetV (.int .i64 (-1)) w) := by
  go_enter Try.func19, Try.ntmps19
  go_wp2_with (go_at_call 57; refine (szByteS_no _ _ _ _ _ h0 h1 h2 hn).mono ?_; rintro e w' ⟨rfl, rfl⟩)
  go_ret
  exact ⟨rfl, (Below.refl _ _).alloc (Nat.le_refl _) _⟩
/-- a share in new memory -/
def RetShare (x : Int) (l : List UInt8) (w : World) (en : Ending) (w' : World) : Prop :=
  ∃ A c, en = .returned (.agg #[.int .i64 x, .slice A l.length c]) ∧ l.length ≤ c ∧ w'.ownsRow w.heap.size 5 1 (.slice A l.length c) l.length (bC l) ∧ Below w.heap.size w w'
theorem toShare_c (x : Int) (A : Option Addr) (n c : Nat) (l : List UInt8) (w : World) (hr : Rd w w.heap.size 1 A n (bC l)) (hn : n ≤ 1048576) :
    Calls Try.prog 22 #[.agg #[.int .i64 x, .slice A n c]] w (RetShare x l w) := by
  have hln := hr.bn
  subst hln
  go_enter Try.func22, Try.ntmps22
  go_wp2_with fail
  refine (toByteS_c A _ c l _ (hr.up (by repeat (first | with_reducible exact Below.refl _ _ | with_reducible assumption | refine Below.alloc ?_ (by first | omega | (simp; done) | (simp; omega)) _ | refine Below.setCell ?_ (by first | omega | (simp; done) | (simp; omega)) _ | refine Below.drew ?_ | refine below_drewN ?_ _ | exact Below.refl _ _ | assumption))) hn).mono ?_
  rintro e w1 ⟨A1, c1, rfl, hc1, ho1, hb1⟩
  have hz : w.heap.size + 1 + 1 + 1 ≤ w1.heap.size := by have := hb1.size; simp at this; omega
  have hb01 : Below w.heap.size w w1 := then_ (by repeat (first | with_reducible exact Below.refl _ _ | with_reducible assumption | refine Below.alloc ?_ (by first | omega | (simp; done) | (simp; omega)) _ | refine Below.setCell ?_ (by first | omega | (simp; done) | (simp; omega)) _ | refine Below.drew ?_ | refine below_drewN ?_ _ | exact Below.refl _ _ | assumption)) hb1 (by first | omega | (simp; done) | (simp; omega))
  have HB1 := hide hb01
  have HO1 := hide (own_mono (base' := w.heap.size + 1 + 1 + 1) ho1 (by first | omega | (simp; done) | (simp; omega)))
  obtain ⟨hcl, hfr⟩ := bcell hb1
  clear hb1 ho1 hb01
  go_wp2_with fail
  refine bodyPost_ret (v := .agg #[.int .i64 x, .slice A1 l.length c1]) (by simp [results, Try.results22, go_sem, hcl]) rfl ?_
  have hb01 := HB1.out
  have ho1 := HO1.out
  refine ⟨_, _, rfl, hc1, ?_, (by repeat (first | with_reducible exact Below.refl _ _ | with_reducible assumption | refine Below.alloc ?_ (by first | omega | (simp; done) | (simp; omega)) _ | refine Below.setCell ?_ (by first | omega | (simp; done) | (simp; omega)) _ | refine Below.drew ?_ | refine below_drewN ?_ _ | exact Below.refl _ _ | assumption))⟩
  exact own_mono (base := w.heap.size + 1 + 1 + 1) (by repeat (first | with_reducible assumption | with_reducible refine ownsRow_setCell_below ?_ (by first | omega | (simp; done) | (simp; omega)) _ | with_reducible refine World.ownsRow.alloc ?_ _ | exact own_mono (by assumption) (by first | omega | (simp; done) | (simp; omega)) | assumption | refine ownsRow_setCell_below ?_ (by first | omega | (simp; done) | (simp; omega)) _ | refine World.ownsRow.alloc ?_ _)) (by omega)
def shOk (x : Int) (n : Nat) : Bool := inB x 1 255 && inB n 1 64
theorem ShareOk_s (x : Int) (A : Option Addr) (n c : Nat) (w : World) (_hn : n ≤ 9223372036854775807) :
    Calls Try.prog 60 #[.agg #[.int .i64 x, .slice A n c]] w (RetV (.bool (shOk x n)) w) := by
  have e : Hid (shOk x n = (inB x 1 255 && inB n 1 64)) := rfl
  cases h1 : inB x 1 255 <;> cases h2 : inB n 1 64
  all_goals
    rw [h1, h2] at e
    go_enter Try.func60, Try.ntmps60
    go_wp2_with (go_at_call 38; refine (l01In_c _ _ _ _).mono ?_; rintro e w' ⟨rfl, rfl⟩)
    go_ret
    exact ⟨by rw [e.out]; rfl, (by repeat (first | with_reducible exact Below.refl _ _ | with_reducible assumption | refine Below.alloc ?_ (by first | omega | (simp; done) | (simp; omega)) _ | refine Below.setCell ?_ (by first | omega | (simp; done) | (simp; omega)) _ | refine Below.drew ?_ | refine below_drewN ?_ _ | exact Below.refl _ _ | assumption))⟩
theorem isShare_c (x : Int) (A : Option Addr) (n c : Nat) (w : World) (_hn : n ≤ 9223372036854775807) :
    Calls Try.prog 53 #[.agg #[.int .i64 x, .slice A n c]] w (RetV (.bool (shOk x n)) w) := by
  have e : Hid (shOk x n = (inB x 1 255 && inB n 1 64)) := rfl
  cases h1 : inB x 1 255 <;> cases h2 : inB n 1 64
  all_goals
    rw [h1, h2] at e
    go_enter Try.func53, Try.ntmps53
    go_wp2_with (go_at_call 41; refine (within_c _ _ _ _).mono ?_; rintro e w' ⟨rfl, rfl⟩)
    go_ret
    exact ⟨by rw [e.out]; rfl, (by repeat (first | with_reducible exact Below.refl _ _ | with_reducible assumption | refine Below.alloc ?_ (by first | omega | (simp; done) | (simp; omega)) _ | refine Below.setCell ?_ (by first | omega | (simp; done) | (simp; omega)) _ | refine Below.drew ?_ | refine below_drewN ?_ _ | exact Below.refl _ _ | assumption))⟩
theorem eqShare_c (x : Int) (A A' : Option Addr) (n c c' : Nat) (l : List UInt8) (w : World) (hr : Rd w w.heap.size 1 A n (bC l)) (hr' : Rd w w.heap.size 1 A' n (bC l)) :
    Calls Try.prog 25 #[.agg #[.int .i64 x, .slice A n c], .agg #[.int .i64 x, .slice A' n c']] w (RetV (.bool true) w) := by
  go_enter Try.func25, Try.ntmps25
  go_wp2_with fail
  refine (eqByteS_c A A' n c c' l _ _ _ (hr.below (by repeat (first | with_reducible exact Below.refl _ _ | with_reducible assumption | refine Below.alloc ?_ (by first | omega | (simp; done) | (simp; omega)) _ | refine Below.setCell ?_ (by first | omega | (simp; done) | (simp; omega)) _ | refine Below.drew ?_ | refine below_drewN ?_ _ | exact Below.refl _ _ | assumption)) (Nat.le_refl _)) (hr'.below (by repeat (first | with_reducible exact Below.refl _ _ | with_reducible assumption | refine Below.alloc ?_ (by first | omega | (simp; done) | (simp; omega)) _ | refine Below.setCell ?_ (by first | omega | (simp; done) | (simp; omega)) _ | refine Below.drew ?_ | refine below_drewN ?_ _ | exact Below.refl _ _ | assumption)) (Nat.le_refl _))).mono ?_
  rintro e w1 ⟨rfl, hb1⟩
  have hb01 : Below w.heap.size w w1 := then_ (by repeat (first | with_reducible exact Below.refl _ _ | with_reducible assumption | refine Below.alloc ?_ (by first | omega | (simp; done) | (simp; omega)) _ | refine Below.setCell ?_ (by first | omega | (simp; done) | (simp; omega)) _ | refine Below.drew ?_ | refine below_drewN ?_ _ | exact Below.refl _ _ | assumption)) hb1 (by first | omega | (simp; done) | (simp; omega))
  go_wp2_with fail
  go_ret
  exact ⟨rfl, hb01⟩
end Go.Proofs.Ytgkjgaijjihmgaa
