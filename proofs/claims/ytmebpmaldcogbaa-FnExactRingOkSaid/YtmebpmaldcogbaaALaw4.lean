/- Walk of the law on a key ring's validity: it returns true. -/
import Derived.Test.YtmebpmaldcogbaaA7
import Derived.Deep.RegionWith
namespace Go.Proofs.Ytmebpmaldcogbaa
open Go.RowKit Gf
set_option maxRecDepth 100000
set_option maxHeartbeats 400000
theorem fnExactRingOk_walk (x : Int) (A : Option Addr) (n c : Nat) (l : List Int) (w : World) (_hx : (Lit.int .i64 x).wf = true ∧ ∀ y ∈ l, (Lit.int .i64 y).wf = true) (hr : Rd w w.heap.size 1 A n (iC l)) :
    Calls Try.prog 13 #[.agg #[.int .i64 x, .slice A n c]] w (RetV (.bool true) w) := by
  clear _hx
  have hbd := hr.bd
  by_cases hn : n ≤ 1048576
  · have hln := hr.in_
    subst hln
    go_enter Try.func13, Try.ntmps13
    go_wp2_with fail
    have La := Blk.new w 55 #[.int .i64 x, .slice A l.length c]
    refine (szKeyRing_ok x A _ c 1048576 _ (by omega) (by omega)).mono ?_
    rintro e w1 ⟨rfl, hb1⟩
    have hB : Below w.heap.size w w1 := then_ (by repeat (first | exact Below.refl _ _ | assumption | refine Below.alloc ?_ (by first | omega | (simp; done) | (simp; omega)) _ | refine Below.setCell ?_ (by first | omega | (simp; done) | (simp; omega)) _ | refine Below.drew ?_ | refine below_drewN ?_ _)) hb1 (by first | omega | (simp; done) | (simp; omega))
    obtain ⟨La, ca, _, _⟩ := La.step hb1
    clear hb1
    go_wp2_with fail
    refine (toKeyRing_c x A _ c l _ (hr.up hB) (by omega)).mono ?_
    rintro e w2 ⟨A2, c2, rfl, hc2, ho2, hb2⟩
    replace hB : Below w.heap.size w w2 := then_ hB hb2 hB.size
    obtain ⟨La, ca, _, _⟩ := La.step hb2
    clear hb2
    go_wp2_with fail
    refine (RingOk_s x A2 _ c2 l _ (own_rd ho2)).mono ?_
    rintro e w3 ⟨rfl, hb3⟩
    replace hB : Below w.heap.size w w3 := then_ hB hb3 hB.size
    obtain ⟨La, ca, _, _⟩ := La.step hb3
    clear hb3
    go_wp2_with fail
    refine (toKeyRing_c x A _ c l _ (hr.up hB) (by omega)).mono ?_
    rintro e w4 ⟨A4, c4, rfl, hc4, ho4, hb4⟩
    replace hB : Below w.heap.size w w4 := then_ hB hb4 hB.size
    obtain ⟨La, ca, _, hlt⟩ := La.step hb4
    have r4 := own_rd ho4
    have Lx := Blk.new w4 58 #[.int .i64 x, .slice A4 l.length c4]
    have hz := hB.size
    clear hb4 ho4
    go_wp2_with fail
    refine (RingOk_i x A4 _ c4 l _ ((r4.below (by repeat (first | exact Below.refl _ _ | assumption | refine Below.alloc ?_ (by first | omega | (simp; done) | (simp; omega)) _ | refine Below.setCell ?_ (by first | omega | (simp; done) | (simp; omega)) _ | refine Below.drew ?_ | refine below_drewN ?_ _)) (Nat.le_refl _)).mono (by first | omega | (simp; done) | (simp; omega)))).mono ?_
    rintro e w5 ⟨rfl, hb5⟩
    have hB4 : Below w4.heap.size w4 w5 := then_ (by repeat (first | exact Below.refl _ _ | assumption | refine Below.alloc ?_ (by first | omega | (simp; done) | (simp; omega)) _ | refine Below.setCell ?_ (by first | omega | (simp; done) | (simp; omega)) _ | refine Below.drew ?_ | refine below_drewN ?_ _)) hb5 (by first | omega | (simp; done) | (simp; omega))
    replace hB : Below w.heap.size w w5 := then_ hB hB4 hB.size
    obtain ⟨La, ca, _, _⟩ := (La.alloc _).step hb5
    obtain ⟨Lx, cx, _, _⟩ := Lx.step hb5
    clear hb5
    go_wp2_with fail
    replace hB := hB.drew
    replace hB4 := hB4.drew
    replace La := La.drew
    replace Lx := Lx.drew
    go_region_with (first | (go_at_call 60; refine (toKeyRing_c x A _ c l _ (hr.up hB) (by omega)).mono ?_; rintro e w6 ⟨A6, c6, rfl, hc6, ho6, hb6⟩; replace hB : Below w.heap.size w w6 := then_ hB hb6 hB.size; replace hB4 : Below w4.heap.size w4 w6 := then_ hB4 hb6 hB4.size; obtain ⟨La, ca, _, _⟩ := La.step hb6; obtain ⟨Lx, cx, _, _⟩ := Lx.step hb6) | (go_at_call 62; refine (eqKeyRing_c x A4 A6 _ c4 c6 l _ ((r4.below hB4 (Nat.le_refl _)).mono hB4.size) (own_rd ho6)).mono ?_; rintro e w7 ⟨rfl, hb7⟩; replace hB : Below w.heap.size w w7 := then_ hB hb7 hB.size))
    all_goals
      go_wp2_with fail
      go_ret
      exact ⟨rfl, hB⟩
  · go_enter Try.func13, Try.ntmps13
    go_wp2_with fail
    refine (szKeyRing_no x A _ c 1048576 _ (by omega) (by omega) (by omega) hbd).mono ?_
    rintro e w1 ⟨rfl, hb1⟩
    have hb01 : Below w.heap.size w w1 := then_ (by repeat (first | exact Below.refl _ _ | assumption | refine Below.alloc ?_ (by first | omega | (simp; done) | (simp; omega)) _ | refine Below.setCell ?_ (by first | omega | (simp; done) | (simp; omega)) _ | refine Below.drew ?_ | refine below_drewN ?_ _)) hb1 (by first | omega | (simp; done) | (simp; omega))
    go_wp2_with fail
    go_ret
    exact ⟨rfl, hb01⟩
end Go.Proofs.Ytmebpmaldcogbaa
