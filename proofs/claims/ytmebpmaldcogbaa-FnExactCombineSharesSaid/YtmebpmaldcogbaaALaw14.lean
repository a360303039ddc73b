/- Walk of the law on combining shares: it returns true. -/
import Derived.Test.YtmebpmaldcogbaaA29
import Derived.Test.YtmebpmaldcogbaaA20
import Derived.Deep.RegionHeld3
namespace Go.Proofs.Ytmebpmaldcogbaa
open Go.RowKit Gf
set_option maxRecDepth 100000
set_option maxHeartbeats 1000000
theorem fnExactCombineShares_walk (A : Option Addr) (n c : Nat) (ss : List Sh) (k : Int) (w : World) (hr : ShR w w.heap.size A n ss) (_hnc : n ≤ c) (_hk : (Lit.int .i64 k).wf = true) :
    Calls Try.prog 23 #[.slice A n c, .int .i64 k] w (RetV (.bool true) w) := by
  clear _hk _hnc
  by_cases hn : cntS ss ≤ 1048576
  · have hln := hr.1
    subst hln
    have hcl := cnt_len ss
    have hdl : ∀ k (h : k < ss.length), ss[k].2.length ≤ 1048576 := by
      intro k h
      have h1 := cntS_take_succ h
      have h2 := cntS_take_le ss (k + 1)
      omega
    have HDL := hide hdl
    clear hdl
    have cs : ∀ (A : Option Addr) (c : Nat) (w : World), ShR w w.heap.size A ss.length ss → Calls Try.prog 46 #[.slice A ss.length c, .int .i64 k] w (RetB2 (cbR ss k) (cbOk ss k) w) := fun A c w hr => CombineShares_s A _ c ss k w hr
    have ci : ∀ (A : Option Addr) (c : Nat) (w : World), ShR w w.heap.size A ss.length ss → ss.length ≤ c → Calls Try.prog 43 #[.slice A ss.length c, .int .i64 k] w (RetB2 (cbR ss k) (cbOk ss k) w) := fun A c w hr h => CombineShares_i A _ c ss k w hr h
    have hm := cbR_len ss k
    generalize cbR ss k = l1 at cs ci hm
    generalize cbOk ss k = k1 at cs ci
    have CS := hide cs
    have CI := hide ci
    clear cs ci
    have hB : Below w.heap.size w w := Below.refl _ _
    go_enter Try.func23, Try.ntmps23
    go_wp2_with fail
    refine (szShareS_ok A _ c ss _ 1048576 ((hr.mono (by omega)).up (by repeat (first | with_reducible exact Below.refl _ _ | with_reducible assumption | refine Below.alloc ?_ (by first | omega | (simp; done) | (simp; omega)) _ | refine Below.setCell ?_ (by first | omega | (simp; done) | (simp; omega)) _ | refine Below.drew ?_ | refine below_drewN ?_ _ | exact Below.refl _ _ | assumption))) (by omega) (by omega)).mono ?_
    rintro e w1 ⟨rfl, hb⟩
    have hT : Below w.heap.size w w1 := then_ (by repeat (first | with_reducible exact Below.refl _ _ | with_reducible assumption | refine Below.alloc ?_ (by first | omega | (simp; done) | (simp; omega)) _ | refine Below.setCell ?_ (by first | omega | (simp; done) | (simp; omega)) _ | refine Below.drew ?_ | refine below_drewN ?_ _ | exact Below.refl _ _ | assumption)) hb (by first | omega | (simp; done) | (simp; omega))
    have s1 : w.heap.size + 0 ≤ w1.heap.size := by have := hb.size; (try simp at this); omega
    replace hB := then_ hB hT hB.size
    replace hr := hr.below hT (by omega)
    clear hb hT
    go_wp2_with fail
    refine (toShareS_c A _ c ss _ ((hr.mono (by omega)).up (by repeat (first | with_reducible exact Below.refl _ _ | with_reducible assumption | refine Below.alloc ?_ (by first | omega | (simp; done) | (simp; omega)) _ | refine Below.setCell ?_ (by first | omega | (simp; done) | (simp; omega)) _ | refine Below.drew ?_ | refine below_drewN ?_ _ | exact Below.refl _ _ | assumption))) (by omega) HDL.out).mono ?_
    rintro e w2 ⟨A2, c2, hs2, rfl, hc2, ho, hb⟩
    have hT : Below w1.heap.size w1 w2 := then_ (by repeat (first | with_reducible exact Below.refl _ _ | with_reducible assumption | refine Below.alloc ?_ (by first | omega | (simp; done) | (simp; omega)) _ | refine Below.setCell ?_ (by first | omega | (simp; done) | (simp; omega)) _ | refine Below.drew ?_ | refine below_drewN ?_ _ | exact Below.refl _ _ | assumption)) hb (by first | omega | (simp; done) | (simp; omega))
    have s2 : w1.heap.size + 0 ≤ w2.heap.size := by have := hb.size; (try simp at this); omega
    replace hB := then_ hB hT hB.size
    replace hr := hr.below hT (by omega)
    clear hb hT
    have r2 := (ShO.w ho).mono (lo' := w1.heap.size) (by first | omega | (simp; done) | (simp; omega)) (Nat.le_refl _)
    clear ho
    go_wp2_with fail
    refine (CS.out A2 c2 _ ((r2.rd.mono (by omega)).up (by repeat (first | with_reducible exact Below.refl _ _ | with_reducible assumption | refine Below.alloc ?_ (by first | omega | (simp; done) | (simp; omega)) _ | refine Below.setCell ?_ (by first | omega | (simp; done) | (simp; omega)) _ | refine Below.drew ?_ | refine below_drewN ?_ _ | exact Below.refl _ _ | assumption)))).mono ?_
    rintro e w3 ⟨A3, c3, rfl, hc3, ho, hb⟩
    have hT : Below w2.heap.size w2 w3 := then_ (by repeat (first | with_reducible exact Below.refl _ _ | with_reducible assumption | refine Below.alloc ?_ (by first | omega | (simp; done) | (simp; omega)) _ | refine Below.setCell ?_ (by first | omega | (simp; done) | (simp; omega)) _ | refine Below.drew ?_ | refine below_drewN ?_ _ | exact Below.refl _ _ | assumption)) hb (by first | omega | (simp; done) | (simp; omega))
    have s3 : w2.heap.size + 0 ≤ w3.heap.size := by have := hb.size; (try simp at this); omega
    replace hB := then_ hB hT hB.size
    replace hr := hr.below hT (by omega)
    replace r2 := r2.below hT (by omega)
    clear hb hT
    have W0 := (Ow.of_own ho).mono (lo' := w2.heap.size) (by first | omega | (simp; done) | (simp; omega)) (Nat.le_refl _)
    clear ho
    clear r2
    go_wp2_with fail
    refine (toShareS_c A _ c ss _ ((hr.mono (by omega)).up (by repeat (first | with_reducible exact Below.refl _ _ | with_reducible assumption | refine Below.alloc ?_ (by first | omega | (simp; done) | (simp; omega)) _ | refine Below.setCell ?_ (by first | omega | (simp; done) | (simp; omega)) _ | refine Below.drew ?_ | refine below_drewN ?_ _ | exact Below.refl _ _ | assumption))) (by omega) HDL.out).mono ?_
    rintro e w4 ⟨A4, c4, hs4, rfl, hc4, ho, hb⟩
    have hT : Below w3.heap.size w3 w4 := then_ (by repeat (first | with_reducible exact Below.refl _ _ | with_reducible assumption | refine Below.alloc ?_ (by first | omega | (simp; done) | (simp; omega)) _ | refine Below.setCell ?_ (by first | omega | (simp; done) | (simp; omega)) _ | refine Below.drew ?_ | refine below_drewN ?_ _ | exact Below.refl _ _ | assumption)) hb (by first | omega | (simp; done) | (simp; omega))
    have s4 : w3.heap.size + 0 ≤ w4.heap.size := by have := hb.size; (try simp at this); omega
    replace hB := then_ hB hT hB.size
    replace hr := hr.below hT (by omega)
    replace W0 := W0.below hT (by omega)
    clear hb hT
    have X0 := (ShO.w ho).mono (lo' := w3.heap.size) (by first | omega | (simp; done) | (simp; omega)) (Nat.le_refl _)
    clear ho
    go_wp2_with fail
    refine (CI.out A4 c4 _ ((X0.rd.mono (by omega)).up (by repeat (first | with_reducible exact Below.refl _ _ | with_reducible assumption | refine Below.alloc ?_ (by first | omega | (simp; done) | (simp; omega)) _ | refine Below.setCell ?_ (by first | omega | (simp; done) | (simp; omega)) _ | refine Below.drew ?_ | refine below_drewN ?_ _ | exact Below.refl _ _ | assumption))) hc4).mono ?_
    rintro e w5 ⟨A5, c5, rfl, hc5, ho, hb⟩
    have hT : Below w4.heap.size w4 w5 := then_ (by repeat (first | with_reducible exact Below.refl _ _ | with_reducible assumption | refine Below.alloc ?_ (by first | omega | (simp; done) | (simp; omega)) _ | refine Below.setCell ?_ (by first | omega | (simp; done) | (simp; omega)) _ | refine Below.drew ?_ | refine below_drewN ?_ _ | exact Below.refl _ _ | assumption)) hb (by first | omega | (simp; done) | (simp; omega))
    have s5 : w4.heap.size + 0 ≤ w5.heap.size := by have := hb.size; (try simp at this); omega
    replace hB := then_ hB hT hB.size
    replace hr := hr.below hT (by omega)
    replace W0 := W0.below hT (by omega)
    replace X0 := X0.below hT (by omega)
    clear hb hT
    have G0 := (Ow.of_own ho).mono (lo' := w4.heap.size) (by first | omega | (simp; done) | (simp; omega)) (Nat.le_refl _)
    clear ho
    go_wp2_with fail
    refine (eqByteS_c A5 A3 _ c5 c3 l1 _ _ _ G0.rd W0.rd).mono ?_
    rintro e w6 ⟨rfl, hb⟩
    have hT : Below w5.heap.size w5 w6 := then_ (by repeat (first | with_reducible exact Below.refl _ _ | with_reducible assumption | refine Below.alloc ?_ (by first | omega | (simp; done) | (simp; omega)) _ | refine Below.setCell ?_ (by first | omega | (simp; done) | (simp; omega)) _ | refine Below.drew ?_ | refine below_drewN ?_ _ | exact Below.refl _ _ | assumption)) hb (by first | omega | (simp; done) | (simp; omega))
    have s6 : w5.heap.size + 0 ≤ w6.heap.size := by have := hb.size; (try simp at this); omega
    replace hB := then_ hB hT hB.size
    replace hr := hr.below hT (by omega)
    replace W0 := W0.below hT (by omega)
    replace X0 := X0.below hT (by omega)
    replace G0 := G0.below hT (by omega)
    clear hb hT
    go_wp2_with fail
    refine (toShareS_c A _ c ss _ ((hr.mono (by omega)).up (by repeat (first | with_reducible exact Below.refl _ _ | with_reducible assumption | refine Below.alloc ?_ (by first | omega | (simp; done) | (simp; omega)) _ | refine Below.setCell ?_ (by first | omega | (simp; done) | (simp; omega)) _ | refine Below.drew ?_ | refine below_drewN ?_ _ | exact Below.refl _ _ | assumption))) (by omega) HDL.out).mono ?_
    rintro e w7 ⟨A7, c7, hs7, rfl, hc7, ho, hb⟩
    have hT : Below w6.heap.size w6 w7 := then_ (by repeat (first | with_reducible exact Below.refl _ _ | with_reducible assumption | refine Below.alloc ?_ (by first | omega | (simp; done) | (simp; omega)) _ | refine Below.setCell ?_ (by first | omega | (simp; done) | (simp; omega)) _ | refine Below.drew ?_ | refine below_drewN ?_ _ | exact Below.refl _ _ | assumption)) hb (by first | omega | (simp; done) | (simp; omega))
    have s7 : w6.heap.size + 0 ≤ w7.heap.size := by have := hb.size; (try simp at this); omega
    replace hB := then_ hB hT hB.size
    replace hr := hr.below hT (by omega)
    replace W0 := W0.below hT (by omega)
    replace X0 := X0.below hT (by omega)
    replace G0 := G0.below hT (by omega)
    clear hb hT
    have R := (ShO.w ho).mono (lo' := w6.heap.size) (by first | omega | (simp; done) | (simp; omega)) (Nat.le_refl _)
    clear ho
    go_wp2_with fail
    refine (eqShareS_c A4 A7 _ c4 c7 ss _ ((X0.rd.mono (by omega)).up (by repeat (first | with_reducible exact Below.refl _ _ | with_reducible assumption | refine Below.alloc ?_ (by first | omega | (simp; done) | (simp; omega)) _ | refine Below.setCell ?_ (by first | omega | (simp; done) | (simp; omega)) _ | refine Below.drew ?_ | refine below_drewN ?_ _ | exact Below.refl _ _ | assumption))) ((R.rd.mono (by omega)).up (by repeat (first | with_reducible exact Below.refl _ _ | with_reducible assumption | refine Below.alloc ?_ (by first | omega | (simp; done) | (simp; omega)) _ | refine Below.setCell ?_ (by first | omega | (simp; done) | (simp; omega)) _ | refine Below.drew ?_ | refine below_drewN ?_ _ | exact Below.refl _ _ | assumption)))).mono ?_
    rintro e w8 ⟨rfl, hb⟩
    have hT : Below w7.heap.size w7 w8 := then_ (by repeat (first | with_reducible exact Below.refl _ _ | with_reducible assumption | refine Below.alloc ?_ (by first | omega | (simp; done) | (simp; omega)) _ | refine Below.setCell ?_ (by first | omega | (simp; done) | (simp; omega)) _ | refine Below.drew ?_ | refine below_drewN ?_ _ | exact Below.refl _ _ | assumption)) hb (by first | omega | (simp; done) | (simp; omega))
    have s8 : w7.heap.size + 0 ≤ w8.heap.size := by have := hb.size; (try simp at this); omega
    replace hB := then_ hB hT hB.size
    replace hr := hr.below hT (by omega)
    replace W0 := W0.below hT (by omega)
    replace X0 := X0.below hT (by omega)
    replace G0 := G0.below hT (by omega)
    replace R := R.below hT (by omega)
    clear hb hT
    clear R
    go_wp2_with fail
    refine (markShareS_m A4 _ c4 _ ss _ _ _ 1 X0 (by omega) (by omega) (by omega)).mono ?_
    rintro e w9 ⟨rfl, ho, hM⟩
    have s9 : w8.heap.size + 0 ≤ w9.heap.size := hM.size
    replace hB := hB.trans (hM.below (by omega) (by omega))
    replace hr := hr.mkd hM (by omega)
    replace W0 := W0.mkd hM (by omega)
    replace G0 := G0.mkd hM (by omega)
    replace X0 := ho
    clear hM
    clear ho
    clear X0
    go_wp2_with fail
    refine (eqByteS_c A5 A3 _ c5 c3 l1 _ _ _ G0.rd W0.rd).mono ?_
    rintro e w10 ⟨rfl, hb⟩
    have hT : Below w9.heap.size w9 w10 := then_ (by repeat (first | with_reducible exact Below.refl _ _ | with_reducible assumption | refine Below.alloc ?_ (by first | omega | (simp; done) | (simp; omega)) _ | refine Below.setCell ?_ (by first | omega | (simp; done) | (simp; omega)) _ | refine Below.drew ?_ | refine below_drewN ?_ _ | exact Below.refl _ _ | assumption)) hb (by first | omega | (simp; done) | (simp; omega))
    have s10 : w9.heap.size + 0 ≤ w10.heap.size := by have := hb.size; (try simp at this); omega
    replace hB := then_ hB hT hB.size
    replace hr := hr.below hT (by omega)
    replace W0 := W0.below hT (by omega)
    replace G0 := G0.below hT (by omega)
    clear hb hT
    go_wp2_with fail
    refine (markByteS_q A5 _ c5 l1 _ _ _ 1 G0 (by omega) (by omega) (by omega)).mono ?_
    rintro e w11 ⟨rfl, ho, hM⟩
    have s11 : w10.heap.size + 0 ≤ w11.heap.size := hM.size
    replace hB := hB.trans (hM.below (by omega) (by omega))
    replace hr := hr.mkd hM (by omega)
    replace W0 := W0.mkd hM (by omega)
    replace G0 := ho
    clear hM
    clear ho
    go_wp2_with fail
    refine (heldByteS_c A5 _ c5 _ _ 1 G0.rd (by omega) (by omega) (by omega)).mono ?_
    rintro e w12 ⟨rfl, hb⟩
    have hT : Below w11.heap.size w11 w12 := then_ (by repeat (first | with_reducible exact Below.refl _ _ | with_reducible assumption | refine Below.alloc ?_ (by first | omega | (simp; done) | (simp; omega)) _ | refine Below.setCell ?_ (by first | omega | (simp; done) | (simp; omega)) _ | refine Below.drew ?_ | refine below_drewN ?_ _ | exact Below.refl _ _ | assumption)) hb (by first | omega | (simp; done) | (simp; omega))
    have s12 : w11.heap.size + 0 ≤ w12.heap.size := by have := hb.size; (try simp at this); omega
    replace hB := then_ hB hT hB.size
    replace hr := hr.below hT (by omega)
    replace W0 := W0.below hT (by omega)
    replace G0 := G0.below hT (by omega)
    clear hb hT
    go_wp2_with fail
    refine (toShareS_c A _ c ss _ ((hr.mono (by omega)).up (by repeat (first | with_reducible exact Below.refl _ _ | with_reducible assumption | refine Below.alloc ?_ (by first | omega | (simp; done) | (simp; omega)) _ | refine Below.setCell ?_ (by first | omega | (simp; done) | (simp; omega)) _ | refine Below.drew ?_ | refine below_drewN ?_ _ | exact Below.refl _ _ | assumption))) (by omega) HDL.out).mono ?_
    rintro e w13 ⟨A13, c13, hs13, rfl, hc13, ho, hb⟩
    have hT : Below w12.heap.size w12 w13 := then_ (by repeat (first | with_reducible exact Below.refl _ _ | with_reducible assumption | refine Below.alloc ?_ (by first | omega | (simp; done) | (simp; omega)) _ | refine Below.setCell ?_ (by first | omega | (simp; done) | (simp; omega)) _ | refine Below.drew ?_ | refine below_drewN ?_ _ | exact Below.refl _ _ | assumption)) hb (by first | omega | (simp; done) | (simp; omega))
    have s13 : w12.heap.size + 0 ≤ w13.heap.size := by have := hb.size; (try simp at this); omega
    replace hB := then_ hB hT hB.size
    replace hr := hr.below hT (by omega)
    replace W0 := W0.below hT (by omega)
    replace G0 := G0.below hT (by omega)
    clear hb hT
    have RH := (ShO.w ho).mono (lo' := w12.heap.size) (by first | omega | (simp; done) | (simp; omega)) (Nat.le_refl _)
    clear ho
    go_wp2_with fail
    refine (CI.out A13 c13 _ ((RH.rd.mono (by omega)).up (by repeat (first | with_reducible exact Below.refl _ _ | with_reducible assumption | refine Below.alloc ?_ (by first | omega | (simp; done) | (simp; omega)) _ | refine Below.setCell ?_ (by first | omega | (simp; done) | (simp; omega)) _ | refine Below.drew ?_ | refine below_drewN ?_ _ | exact Below.refl _ _ | assumption))) hc13).mono ?_
    rintro e w14 ⟨AI, cI, rfl, hcI, ho, hb⟩
    have hT : Below w13.heap.size w13 w14 := then_ (by repeat (first | with_reducible exact Below.refl _ _ | with_reducible assumption | refine Below.alloc ?_ (by first | omega | (simp; done) | (simp; omega)) _ | refine Below.setCell ?_ (by first | omega | (simp; done) | (simp; omega)) _ | refine Below.drew ?_ | refine below_drewN ?_ _ | exact Below.refl _ _ | assumption)) hb (by first | omega | (simp; done) | (simp; omega))
    have s14 : w13.heap.size + 0 ≤ w14.heap.size := by have := hb.size; (try simp at this); omega
    replace hB := then_ hB hT hB.size
    replace hr := hr.below hT (by omega)
    replace W0 := W0.below hT (by omega)
    replace G0 := G0.below hT (by omega)
    replace RH := RH.below hT (by omega)
    clear hb hT
    have H0 := (Ow.of_own ho).mono (lo' := w13.heap.size) (by first | omega | (simp; done) | (simp; omega)) (Nat.le_refl _)
    clear ho
    clear RH
    go_wp2_with fail
    refine (eqByteS_c AI A3 _ cI c3 l1 _ _ _ H0.rd W0.rd).mono ?_
    rintro e w15 ⟨rfl, hb⟩
    have hT : Below w14.heap.size w14 w15 := then_ (by repeat (first | with_reducible exact Below.refl _ _ | with_reducible assumption | refine Below.alloc ?_ (by first | omega | (simp; done) | (simp; omega)) _ | refine Below.setCell ?_ (by first | omega | (simp; done) | (simp; omega)) _ | refine Below.drew ?_ | refine below_drewN ?_ _ | exact Below.refl _ _ | assumption)) hb (by first | omega | (simp; done) | (simp; omega))
    have s15 : w14.heap.size + 0 ≤ w15.heap.size := by have := hb.size; (try simp at this); omega
    replace hB := then_ hB hT hB.size
    replace hr := hr.below hT (by omega)
    replace W0 := W0.below hT (by omega)
    replace G0 := G0.below hT (by omega)
    replace H0 := H0.below hT (by omega)
    clear hb hT
    clear H0
    go_wp2_with fail
    refine (heldByteS_c A5 _ c5 _ _ 1 G0.rd (by omega) (by omega) (by omega)).mono ?_
    rintro e w16 ⟨rfl, hb⟩
    have hT : Below w15.heap.size w15 w16 := then_ (by repeat (first | with_reducible exact Below.refl _ _ | with_reducible assumption | refine Below.alloc ?_ (by first | omega | (simp; done) | (simp; omega)) _ | refine Below.setCell ?_ (by first | omega | (simp; done) | (simp; omega)) _ | refine Below.drew ?_ | refine below_drewN ?_ _ | exact Below.refl _ _ | assumption)) hb (by first | omega | (simp; done) | (simp; omega))
    have s16 : w15.heap.size + 0 ≤ w16.heap.size := by have := hb.size; (try simp at this); omega
    replace hB := then_ hB hT hB.size
    replace hr := hr.below hT (by omega)
    replace W0 := W0.below hT (by omega)
    replace G0 := G0.below hT (by omega)
    clear hb hT
    go_wp2_with fail
    go_ret
    exact ⟨rfl, hB⟩
  · go_enter Try.func23, Try.ntmps23
    go_wp2_with fail
    refine (szShareS_no A n c ss _ 1048576 hr (by omega) (by omega) (by omega)).mono ?_
    rintro e w1 ⟨rfl, hb1⟩
    go_wp2_with fail
    go_ret
    exact ⟨rfl, hb1⟩
end Go.Proofs.Ytmebpmaldcogbaa
