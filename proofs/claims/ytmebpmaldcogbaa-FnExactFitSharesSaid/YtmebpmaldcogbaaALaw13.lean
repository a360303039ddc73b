/- Walk of the law on shares that fit: it returns true. -/
import Derived.Test.YtmebpmaldcogbaaA29
import Derived.Test.YtmebpmaldcogbaaA20
import Derived.Deep.RegionHeld3
namespace Go.Proofs.Ytmebpmaldcogbaa
open Go.RowKit Gf
set_option maxRecDepth 100000
set_option maxHeartbeats 1000000
theorem fnExactFitShares_walk (A : Option Addr) (n c : Nat) (ss : List Sh) (k : Int) (w : World) (hr : ShR w w.heap.size A n ss) (_hnc : n ≤ c) (_hk : (Lit.int .i64 k).wf = true) :
    Calls Try.prog 22 #[.slice A n c, .int .i64 k] w (RetV (.bool true) w) := by
  clear _hk _hnc
  by_cases hn : cntS ss ≤ 1048576
  · have hln := hr.1
    subst hln
    have hcl := cnt_len ss
    have hdl : ∀ k (h : k < ss.length), ss[k].2.length ≤ 1048576 := by
      intro k h
      have h1 := cntS_take_succ h
      have h2 := cntS_take_le ss (k + 1)
      omega
    have HDL := hide hdl
    clear hdl
    have hB : Below w.heap.size w w := Below.refl _ _
    go_enter Try.func22, Try.ntmps22
    go_wp2_with fail
    refine (szShareS_ok A _ c ss _ 1048576 ((hr.mono (by omega)).up (by repeat (first | with_reducible exact Below.refl _ _ | with_reducible assumption | refine Below.alloc ?_ (by first | omega | (simp; done) | (simp; omega)) _ | refine Below.setCell ?_ (by first | omega | (simp; done) | (simp; omega)) _ | refine Below.drew ?_ | refine below_drewN ?_ _ | exact Below.refl _ _ | assumption))) (by omega) (by omega)).mono ?_
    rintro e w1 ⟨rfl, hb⟩
    have hT : Below w.heap.size w w1 := then_ (by repeat (first | with_reducible exact Below.refl _ _ | with_reducible assumption | refine Below.alloc ?_ (by first | omega | (simp; done) | (simp; omega)) _ | refine Below.setCell ?_ (by first | omega | (simp; done) | (simp; omega)) _ | refine Below.drew ?_ | refine below_drewN ?_ _ | exact Below.refl _ _ | assumption)) hb (by first | omega | (simp; done) | (simp; omega))
    have s1 : w.heap.size + 0 ≤ w1.heap.size := by have := hb.size; (try simp at this); omega
    replace hB := then_ hB hT hB.size
    replace hr := hr.below hT (by omega)
    clear hb hT
    go_wp2_with fail
    refine (toShareS_c A _ c ss _ ((hr.mono (by omega)).up (by repeat (first | with_reducible exact Below.refl _ _ | with_reducible assumption | refine Below.alloc ?_ (by first | omega | (simp; done) | (simp; omega)) _ | refine Below.setCell ?_ (by first | omega | (simp; done) | (simp; omega)) _ | refine Below.drew ?_ | refine below_drewN ?_ _ | exact Below.refl _ _ | assumption))) (by omega) HDL.out).mono ?_
    rintro e w2 ⟨A2, c2, hs2, rfl, hc2, ho, hb⟩
    have hT : Below w1.heap.size w1 w2 := then_ (by repeat (first | with_reducible exact Below.refl _ _ | with_reducible assumption | refine Below.alloc ?_ (by first | omega | (simp; done) | (simp; omega)) _ | refine Below.setCell ?_ (by first | omega | (simp; done) | (simp; omega)) _ | refine Below.drew ?_ | refine below_drewN ?_ _ | exact Below.refl _ _ | assumption)) hb (by first | omega | (simp; done) | (simp; omega))
    have s2 : w1.heap.size + 0 ≤ w2.heap.size := by have := hb.size; (try simp at this); omega
    replace hB := then_ hB hT hB.size
    replace hr := hr.below hT (by omega)
    clear hb hT
    have r2 := (ShO.w ho).mono (lo' := w1.heap.size) (by first | omega | (simp; done) | (simp; omega)) (Nat.le_refl _)
    clear ho
    go_wp2_with fail
    refine (FitShares_s A2 _ c2 ss k _ ((r2.rd.mono (by omega)).up (by repeat (first | with_reducible exact Below.refl _ _ | with_reducible assumption | refine Below.alloc ?_ (by first | omega | (simp; done) | (simp; omega)) _ | refine Below.setCell ?_ (by first | omega | (simp; done) | (simp; omega)) _ | refine Below.drew ?_ | refine below_drewN ?_ _ | exact Below.refl _ _ | assumption)))).mono ?_
    rintro e w3 ⟨rfl, hb⟩
    have hT : Below w2.heap.size w2 w3 := then_ (by repeat (first | with_reducible exact Below.refl _ _ | with_reducible assumption | refine Below.alloc ?_ (by first | omega | (simp; done) | (simp; omega)) _ | refine Below.setCell ?_ (by first | omega | (simp; done) | (simp; omega)) _ | refine Below.drew ?_ | refine below_drewN ?_ _ | exact Below.refl _ _ | assumption)) hb (by first | omega | (simp; done) | (simp; omega))
    have s3 : w2.heap.size + 0 ≤ w3.heap.size := by have := hb.size; (try simp at this); omega
    replace hB := then_ hB hT hB.size
    replace hr := hr.below hT (by omega)
    replace r2 := r2.below hT (by omega)
    clear hb hT
    clear r2
    go_wp2_with fail
    refine (toShareS_c A _ c ss _ ((hr.mono (by omega)).up (by repeat (first | with_reducible exact Below.refl _ _ | with_reducible assumption | refine Below.alloc ?_ (by first | omega | (simp; done) | (simp; omega)) _ | refine Below.setCell ?_ (by first | omega | (simp; done) | (simp; omega)) _ | refine Below.drew ?_ | refine below_drewN ?_ _ | exact Below.refl _ _ | assumption))) (by omega) HDL.out).mono ?_
    rintro e w4 ⟨A4, c4, hs4, rfl, hc4, ho, hb⟩
    have hT : Below w3.heap.size w3 w4 := then_ (by repeat (first | with_reducible exact Below.refl _ _ | with_reducible assumption | refine Below.alloc ?_ (by first | omega | (simp; done) | (simp; omega)) _ | refine Below.setCell ?_ (by first | omega | (simp; done) | (simp; omega)) _ | refine Below.drew ?_ | refine below_drewN ?_ _ | exact Below.refl _ _ | assumption)) hb (by first | omega | (simp; done) | (simp; omega))
    have s4 : w3.heap.size + 0 ≤ w4.heap.size := by have := hb.size; (try simp at this); omega
    replace hB := then_ hB hT hB.size
    replace hr := hr.below hT (by omega)
    clear hb hT
    have X0 := (ShO.w ho).mono (lo' := w3.heap.size) (by first | omega | (simp; done) | (simp; omega)) (Nat.le_refl _)
    clear ho
    go_wp2_with fail
    refine (FitShares_i A4 _ c4 ss k _ ((X0.rd.mono (by omega)).up (by repeat (first | with_reducible exact Below.refl _ _ | with_reducible assumption | refine Below.alloc ?_ (by first | omega | (simp; done) | (simp; omega)) _ | refine Below.setCell ?_ (by first | omega | (simp; done) | (simp; omega)) _ | refine Below.drew ?_ | refine below_drewN ?_ _ | exact Below.refl _ _ | assumption))) hc4).mono ?_
    rintro e w5 ⟨rfl, hb⟩
    have hT : Below w4.heap.size w4 w5 := then_ (by repeat (first | with_reducible exact Below.refl _ _ | with_reducible assumption | refine Below.alloc ?_ (by first | omega | (simp; done) | (simp; omega)) _ | refine Below.setCell ?_ (by first | omega | (simp; done) | (simp; omega)) _ | refine Below.drew ?_ | refine below_drewN ?_ _ | exact Below.refl _ _ | assumption)) hb (by first | omega | (simp; done) | (simp; omega))
    have s5 : w4.heap.size + 0 ≤ w5.heap.size := by have := hb.size; (try simp at this); omega
    replace hB := then_ hB hT hB.size
    replace hr := hr.below hT (by omega)
    replace X0 := X0.below hT (by omega)
    clear hb hT
    go_wp2_with fail
    refine (toShareS_c A _ c ss _ ((hr.mono (by omega)).up (by repeat (first | with_reducible exact Below.refl _ _ | with_reducible assumption | refine Below.alloc ?_ (by first | omega | (simp; done) | (simp; omega)) _ | refine Below.setCell ?_ (by first | omega | (simp; done) | (simp; omega)) _ | refine Below.drew ?_ | refine below_drewN ?_ _ | exact Below.refl _ _ | assumption))) (by omega) HDL.out).mono ?_
    rintro e w6 ⟨A6, c6, hs6, rfl, hc6, ho, hb⟩
    have hT : Below w5.heap.size w5 w6 := then_ (by repeat (first | with_reducible exact Below.refl _ _ | with_reducible assumption | refine Below.alloc ?_ (by first | omega | (simp; done) | (simp; omega)) _ | refine Below.setCell ?_ (by first | omega | (simp; done) | (simp; omega)) _ | refine Below.drew ?_ | refine below_drewN ?_ _ | exact Below.refl _ _ | assumption)) hb (by first | omega | (simp; done) | (simp; omega))
    have s6 : w5.heap.size + 0 ≤ w6.heap.size := by have := hb.size; (try simp at this); omega
    replace hB := then_ hB hT hB.size
    replace hr := hr.below hT (by omega)
    replace X0 := X0.below hT (by omega)
    clear hb hT
    have R := (ShO.w ho).mono (lo' := w5.heap.size) (by first | omega | (simp; done) | (simp; omega)) (Nat.le_refl _)
    clear ho
    go_wp2_with fail
    refine (eqShareS_c A4 A6 _ c4 c6 ss _ ((X0.rd.mono (by omega)).up (by repeat (first | with_reducible exact Below.refl _ _ | with_reducible assumption | refine Below.alloc ?_ (by first | omega | (simp; done) | (simp; omega)) _ | refine Below.setCell ?_ (by first | omega | (simp; done) | (simp; omega)) _ | refine Below.drew ?_ | refine below_drewN ?_ _ | exact Below.refl _ _ | assumption))) ((R.rd.mono (by omega)).up (by repeat (first | with_reducible exact Below.refl _ _ | with_reducible assumption | refine Below.alloc ?_ (by first | omega | (simp; done) | (simp; omega)) _ | refine Below.setCell ?_ (by first | omega | (simp; done) | (simp; omega)) _ | refine Below.drew ?_ | refine below_drewN ?_ _ | exact Below.refl _ _ | assumption)))).mono ?_
    rintro e w7 ⟨rfl, hb⟩
    have hT : Below w6.heap.size w6 w7 := then_ (by repeat (first | with_reducible exact Below.refl _ _ | with_reducible assumption | refine Below.alloc ?_ (by first | omega | (simp; done) | (simp; omega)) _ | refine Below.setCell ?_ (by first | omega | (simp; done) | (simp; omega)) _ | refine Below.drew ?_ | refine below_drewN ?_ _ | exact Below.refl _ _ | assumption)) hb (by first | omega | (simp; done) | (simp; omega))
    have s7 : w6.heap.size + 0 ≤ w7.heap.size := by have := hb.size; (try simp at this); omega
    replace hB := then_ hB hT hB.size
    replace hr := hr.below hT (by omega)
    replace X0 := X0.below hT (by omega)
    replace R := R.below hT (by omega)
    clear hb hT
    go_wp2_with fail
    go_ret
    exact ⟨rfl, hB⟩
  · go_enter Try.func22, Try.ntmps22
    go_wp2_with fail
    refine (szShareS_no A n c ss _ 1048576 hr (by omega) (by omega) (by omega)).mono ?_
    rintro e w1 ⟨rfl, hb1⟩
    go_wp2_with fail
    go_ret
    exact ⟨rfl, hb1⟩
end Go.Proofs.Ytmebpmaldcogbaa
