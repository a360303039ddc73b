/- One share by value: size, copy, validity, equality. -/
import Derived.Test.YtmebpmaldcogbaaA3
import Derived.Test.YtmebpmaldcogbaaMem2
import Derived.Deep.RegionWith
import Derived.Deep.RegionHeld3
namespace Go.Proofs.Ytmebpmaldcogbaa
open Go.RowKit Gf
set_option maxRecDepth 100000
set_option maxHeartbeats 400000
theorem szByteS_ok (A : Option Addr) (n c : Nat) (left : Int) (w : World) (h0 : (n : Int) ≤ left) (h1 : left ≤ 1099511627776) :
    Calls Try.prog 125 #[.slice A n c, .int .i64 left] w (Pure (.int .i64 (left - n)) w) := by
  go_enter Try.func125, Try.ntmps125
  go_wp2
  go_ret
  exact ⟨rfl, rfl⟩
theorem szByteS_no (A : Option Addr) (n c : Nat) (left : Int) (w : World) (h0 : left < n) (h1 : -1 ≤ left) (h2 : left ≤ 1099511627776) (hn : n ≤ 9223372036854775807) :
    Calls Try.prog 125 #[.slice A n c, .int .i64 left] w (Pure (.int .i64 (-1)) w) := by
  go_enter Try.func125, Try.ntmps125
  go_wp2
  go_ret
  exact ⟨rfl, rfl⟩
def shV (x : Int) (A : Option Addr) (n c : Nat) : Value := .agg #[.int .i64 x, .slice A n c]
theorem szShare_ok (x : Int) (A : Option Addr) (n c : Nat) (left : Int) (w : World) (h0 : (n : Int) ≤ left) (h1 : left ≤ 1099511627776) :
    Calls Try.prog 51 #[.agg #[.int .i64 x, .slice A n c], .int .i64 left] w (RetV (.int .i64 (left - n)) w) := by
  go_enter Try.func51, Try.ntmps51
  go_wp2_with (go_at_call 125; refine (szByteS_ok _ _ _ _ _ h0 h1).mono ?_; rintro e w' ⟨rfl, rfl⟩)
  go_ret
  exact ⟨rfl, (Below.refl _ _).alloc (Nat.le_refl _) _⟩
theorem szShare_no (x : Int) (A : Option Addr) (n c : Nat) (left : Int) (w : World) (h0 : left < n) (h1 : -1 ≤ left) (h2 : left ≤ 1099511627776) (hn : n ≤ 9223372036854775807) :
    Calls Try.prog 51 #[.agg #[.int .i64 x, .slice A n c], .int .i64 left] w (RetV (.int .i64 (-1)) w) := by
  go_enter Try.func51, Try.ntmps51
  go_wp2_with (go_at_call 125; refine (szByteS_no _ _ _ _ _ h0 h1 h2 hn).mono ?_; rintro e w' ⟨rfl, rfl⟩)
  go_ret
  exact ⟨rfl, (Below.refl _ _).alloc (Nat.le_refl _) _⟩
/-- a share in new memory -/
def RetShare (x : Int) (l : List UInt8) (w : World) (en : Ending) (w' : World) : Prop :=
  ∃ A c, en = .returned (.agg #[.int .i64 x, .slice A l.length c]) ∧ l.length ≤ c ∧ w'.ownsRow w.heap.size 5 1 (.slice A l.length c) l.length (bC l) ∧ Below w.heap.size w w'
theorem toShare_c (x : Int) (A : Option Addr) (n c : Nat) (l : List UInt8) (w : World) (hr : Rd w w.heap.size 1 A n (bC l)) (hn : n ≤ 1048576) :
    Calls Try.prog 53 #[.agg #[.int .i64 x, .slice A n c]] w (RetShare x l w) := by
  have hln := hr.bn
  subst hln
  go_enter Try.func53, Try.ntmps53
  go_wp2_with fail
  refine (toByteS_c A _ c l _ (hr.up (by repeat (first | exact Below.refl _ _ | assumption | refine Below.alloc ?_ (by first | omega | (simp; done) | (simp; omega)) _ | refine Below.setCell ?_ (by first | omega | (simp; done) | (simp; omega)) _ | refine Below.drew ?_ | refine below_drewN ?_ _))) hn).mono ?_
  rintro e w1 ⟨A1, c1, rfl, hc1, ho1, hb1⟩
  have hz : w.heap.size + 1 + 1 + 1 ≤ w1.heap.size := by have := hb1.size; simp at this; omega
  have hb01 : Below w.heap.size w w1 := then_ (by repeat (first | exact Below.refl _ _ | assumption | refine Below.alloc ?_ (by first | omega | (simp; done) | (simp; omega)) _ | refine Below.setCell ?_ (by first | omega | (simp; done) | (simp; omega)) _ | refine Below.drew ?_ | refine below_drewN ?_ _)) hb1 (by first | omega | (simp; done) | (simp; omega))
  have HB1 := hide hb01
  have HO1 := hide (own_mono (base' := w.heap.size + 1 + 1 + 1) ho1 (by first | omega | (simp; done) | (simp; omega)))
  obtain ⟨hcl, hfr⟩ := bcell hb1
  clear hb1 ho1 hb01
  go_wp2_with fail
  refine bodyPost_ret (v := .agg #[.int .i64 x, .slice A1 l.length c1]) (by simp [results, Try.results53, go_sem, hcl]) rfl ?_
  have hb01 := HB1.out
  have ho1 := HO1.out
  refine ⟨_, _, rfl, hc1, ?_, (by repeat (first | exact Below.refl _ _ | assumption | refine Below.alloc ?_ (by first | omega | (simp; done) | (simp; omega)) _ | refine Below.setCell ?_ (by first | omega | (simp; done) | (simp; omega)) _ | refine Below.drew ?_ | refine below_drewN ?_ _))⟩
  exact own_mono (base := w.heap.size + 1 + 1 + 1) (by repeat (first | assumption | exact own_mono (by assumption) (by first | omega | (simp; done) | (simp; omega)) | refine ownsRow_setCell_below ?_ (by first | omega | (simp; done) | (simp; omega)) _ | refine World.ownsRow.alloc ?_ _)) (by omega)
def shOk (x : Int) (n : Nat) : Bool := inB x 1 255 && inB n 1 64
theorem ShareOk_s (x : Int) (A : Option Addr) (n c : Nat) (w : World) (_hn : n ≤ 9223372036854775807) :
    Calls Try.prog 52 #[.agg #[.int .i64 x, .slice A n c]] w (RetV (.bool (shOk x n)) w) := by
  have e : Hid (shOk x n = (inB x 1 255 && inB n 1 64)) := rfl
  cases h1 : inB x 1 255 <;> cases h2 : inB n 1 64
  all_goals
    rw [h1, h2] at e
    go_enter Try.func52, Try.ntmps52
    go_wp2_with (go_at_call 102; refine (l01In_c _ _ _ _).mono ?_; rintro e w' ⟨rfl, rfl⟩)
    go_ret
    exact ⟨by rw [e.out]; rfl, (by repeat (first | exact Below.refl _ _ | assumption | refine Below.alloc ?_ (by first | omega | (simp; done) | (simp; omega)) _ | refine Below.setCell ?_ (by first | omega | (simp; done) | (simp; omega)) _ | refine Below.drew ?_ | refine below_drewN ?_ _))⟩
theorem isShare_c (x : Int) (A : Option Addr) (n c : Nat) (w : World) (_hn : n ≤ 9223372036854775807) :
    Calls Try.prog 126 #[.agg #[.int .i64 x, .slice A n c]] w (RetV (.bool (shOk x n)) w) := by
  have e : Hid (shOk x n = (inB x 1 255 && inB n 1 64)) := rfl
  cases h1 : inB x 1 255 <;> cases h2 : inB n 1 64
  all_goals
    rw [h1, h2] at e
    go_enter Try.func126, Try.ntmps126
    go_wp2_with (go_at_call 104; refine (within_c _ _ _ _).mono ?_; rintro e w' ⟨rfl, rfl⟩)
    go_ret
    exact ⟨by rw [e.out]; rfl, (by repeat (first | exact Below.refl _ _ | assumption | refine Below.alloc ?_ (by first | omega | (simp; done) | (simp; omega)) _ | refine Below.setCell ?_ (by first | omega | (simp; done) | (simp; omega)) _ | refine Below.drew ?_ | refine below_drewN ?_ _))⟩
theorem ShareOk_i (x : Int) (A : Option Addr) (n c : Nat) (w : World) (hn : n ≤ 9223372036854775807) :
    Calls Try.prog 54 #[.agg #[.int .i64 x, .slice A n c]] w (RetV (.bool (shOk x n)) w) := by
  go_enter Try.func54, Try.ntmps54
  go_wp2_with fail
  refine (isShare_c x A n c _ hn).mono ?_
  rintro e w1 ⟨rfl, hb1⟩
  have hb01 : Below w.heap.size w w1 := then_ (by repeat (first | exact Below.refl _ _ | assumption | refine Below.alloc ?_ (by first | omega | (simp; done) | (simp; omega)) _ | refine Below.setCell ?_ (by first | omega | (simp; done) | (simp; omega)) _ | refine Below.drew ?_ | refine below_drewN ?_ _)) hb1 (by first | omega | (simp; done) | (simp; omega))
  go_wp2_with fail
  go_ret
  exact ⟨rfl, hb01⟩
theorem eqShare_c (x : Int) (A A' : Option Addr) (n c c' : Nat) (l : List UInt8) (w : World) (hr : Rd w w.heap.size 1 A n (bC l)) (hr' : Rd w w.heap.size 1 A' n (bC l)) :
    Calls Try.prog 55 #[.agg #[.int .i64 x, .slice A n c], .agg #[.int .i64 x, .slice A' n c']] w (RetV (.bool true) w) := by
  go_enter Try.func55, Try.ntmps55
  go_wp2_with fail
  refine (eqByteS_c A A' n c c' l _ _ _ (hr.below (by repeat (first | exact Below.refl _ _ | assumption | refine Below.alloc ?_ (by first | omega | (simp; done) | (simp; omega)) _ | refine Below.setCell ?_ (by first | omega | (simp; done) | (simp; omega)) _ | refine Below.drew ?_ | refine below_drewN ?_ _)) (Nat.le_refl _)) (hr'.below (by repeat (first | exact Below.refl _ _ | assumption | refine Below.alloc ?_ (by first | omega | (simp; done) | (simp; omega)) _ | refine Below.setCell ?_ (by first | omega | (simp; done) | (simp; omega)) _ | refine Below.drew ?_ | refine below_drewN ?_ _)) (Nat.le_refl _))).mono ?_
  rintro e w1 ⟨rfl, hb1⟩
  have hb01 : Below w.heap.size w w1 := then_ (by repeat (first | exact Below.refl _ _ | assumption | refine Below.alloc ?_ (by first | omega | (simp; done) | (simp; omega)) _ | refine Below.setCell ?_ (by first | omega | (simp; done) | (simp; omega)) _ | refine Below.drew ?_ | refine below_drewN ?_ _)) hb1 (by first | omega | (simp; done) | (simp; omega))
  go_wp2_with fail
  go_ret
  exact ⟨rfl, hb01⟩
theorem fnExactShareOk_walk (x : Int) (A : Option Addr) (n c : Nat) (l : List UInt8) (w : World) (_hx : (Lit.int .i64 x).wf = true) (hr : Rd w w.heap.size 1 A n (bC l)) :
    Calls Try.prog 10 #[.agg #[.int .i64 x, .slice A n c]] w (RetV (.bool true) w) := by
  clear _hx
  have hbd := hr.bd
  by_cases hn : n ≤ 1048576
  · have hln := hr.bn
    subst hln
    go_enter Try.func10, Try.ntmps10
    go_wp2_with fail
    have La := Blk.new w 46 #[.int .i64 x, .slice A l.length c]
    refine (szShare_ok x A _ c 1048576 _ (by omega) (by omega)).mono ?_
    rintro e w1 ⟨rfl, hb1⟩
    have hB : Below w.heap.size w w1 := then_ (by repeat (first | exact Below.refl _ _ | assumption | refine Below.alloc ?_ (by first | omega | (simp; done) | (simp; omega)) _ | refine Below.setCell ?_ (by first | omega | (simp; done) | (simp; omega)) _ | refine Below.drew ?_ | refine below_drewN ?_ _)) hb1 (by first | omega | (simp; done) | (simp; omega))
    obtain ⟨La, ca, _, _⟩ := La.step hb1
    clear hb1
    go_wp2_with fail
    refine (toShare_c x A _ c l _ (hr.up hB) (by omega)).mono ?_
    rintro e w2 ⟨A2, c2, rfl, hc2, ho2, hb2⟩
    replace hB : Below w.heap.size w w2 := then_ hB hb2 hB.size
    obtain ⟨La, ca, _, _⟩ := La.step hb2
    clear hb2 ho2
    go_wp2_with fail
    refine (ShareOk_s x A2 _ c2 _ (by omega)).mono ?_
    rintro e w3 ⟨rfl, hb3⟩
    replace hB : Below w.heap.size w w3 := then_ hB hb3 hB.size
    obtain ⟨La, ca, _, _⟩ := La.step hb3
    clear hb3
    go_wp2_with fail
    refine (toShare_c x A _ c l _ (hr.up hB) (by omega)).mono ?_
    rintro e w4 ⟨A4, c4, rfl, hc4, ho4, hb4⟩
    replace hB : Below w.heap.size w w4 := then_ hB hb4 hB.size
    obtain ⟨La, ca, _, hlt⟩ := La.step hb4
    have r4 := own_rd ho4
    have Lx := Blk.new w4 40 #[.int .i64 x, .slice A4 l.length c4]
    have hz := hB.size
    clear hb4 ho4
    go_wp2_with fail
    refine (ShareOk_i x A4 _ c4 _ (by omega)).mono ?_
    rintro e w5 ⟨rfl, hb5⟩
    have hB4 : Below w4.heap.size w4 w5 := then_ (by repeat (first | exact Below.refl _ _ | assumption | refine Below.alloc ?_ (by first | omega | (simp; done) | (simp; omega)) _ | refine Below.setCell ?_ (by first | omega | (simp; done) | (simp; omega)) _ | refine Below.drew ?_ | refine below_drewN ?_ _)) hb5 (by first | omega | (simp; done) | (simp; omega))
    replace hB : Below w.heap.size w w5 := then_ hB hB4 hB.size
    obtain ⟨La, ca, _, _⟩ := (La.alloc _).step hb5
    obtain ⟨Lx, cx, _, _⟩ := Lx.step hb5
    clear hb5
    go_wp2_with fail
    replace hB := hB.drew
    replace hB4 := hB4.drew
    replace La := La.drew
    replace Lx := Lx.drew
    go_region_with (first | (go_at_call 53; refine (toShare_c x A _ c l _ (hr.up hB) (by omega)).mono ?_; rintro e w6 ⟨A6, c6, rfl, hc6, ho6, hb6⟩; replace hB : Below w.heap.size w w6 := then_ hB hb6 hB.size; replace hB4 : Below w4.heap.size w4 w6 := then_ hB4 hb6 hB4.size; obtain ⟨La, ca, _, _⟩ := La.step hb6; obtain ⟨Lx, cx, _, _⟩ := Lx.step hb6) | (go_at_call 55; refine (eqShare_c x A4 A6 _ c4 c6 l _ ((r4.below hB4 (Nat.le_refl _)).mono hB4.size) (own_rd ho6)).mono ?_; rintro e w7 ⟨rfl, hb7⟩; replace hB : Below w.heap.size w w7 := then_ hB hb7 hB.size))
    all_goals
      go_wp2_with fail
      go_ret
      exact ⟨rfl, hB⟩
  · go_enter Try.func10, Try.ntmps10
    go_wp2_with fail
    refine (szShare_no x A _ c 1048576 _ (by omega) (by omega) (by omega) hbd).mono ?_
    rintro e w1 ⟨rfl, hb1⟩
    have hb01 : Below w.heap.size w w1 := then_ (by repeat (first | exact Below.refl _ _ | assumption | refine Below.alloc ?_ (by first | omega | (simp; done) | (simp; omega)) _ | refine Below.setCell ?_ (by first | omega | (simp; done) | (simp; omega)) _ | refine Below.drew ?_ | refine below_drewN ?_ _)) hb1 (by first | omega | (simp; done) | (simp; omega))
    go_wp2_with fail
    go_ret
    exact ⟨rfl, hb01⟩
end Go.Proofs.Ytmebpmaldcogbaa
