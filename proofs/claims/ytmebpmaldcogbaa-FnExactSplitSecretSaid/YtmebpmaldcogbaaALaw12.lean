/- Walk of the law on splitting a secret: it returns true. -/
import Derived.Test.YtmebpmaldcogbaaA24
import Derived.Test.YtmebpmaldcogbaaA20
import Derived.Deep.RegionHeld3
namespace Go.Proofs.Ytmebpmaldcogbaa
open Go.RowKit Gf
set_option maxRecDepth 100000
set_option maxHeartbeats 1000000
theorem fnExactSplitSecret_walk (A : Option Addr) (m c : Nat) (l : List UInt8) (n k seed : Int) (w : World) (hr : Rd w w.heap.size 1 A m (bC l)) (_hn : (Lit.int .i64 n).wf = true) (_hk : (Lit.int .i64 k).wf = true) (_hs : (Lit.int .i64 seed).wf = true) :
    Calls Try.prog 18 #[.slice A m c, .int .i64 n, .int .i64 k, .int .i64 seed] w (RetV (.bool true) w) := by
  clear _hn _hk _hs
  have hbd := hr.bd
  by_cases hn : m ≤ 1048576
  · have hln := hr.bn
    subst hln
    have cs : ∀ (A : Option Addr) (c : Nat) (w : World), Rd w w.heap.size 1 A l.length (bC l) → Calls Try.prog 39 #[.slice A l.length c, .int .i64 n, .int .i64 k, .int .i64 seed] w (RetShs2 (spR l n k seed) (spOk l.length n k seed) w) := fun A c w hr => SplitSecret_s A _ c l n k seed w hr
    have ci : ∀ (A : Option Addr) (c : Nat) (w : World), Rd w w.heap.size 1 A l.length (bC l) → Calls Try.prog 40 #[.slice A l.length c, .int .i64 n, .int .i64 k, .int .i64 seed] w (RetShs2 (spR l n k seed) (spOk l.length n k seed) w) := fun A c w hr => SplitSecret_i A _ c l n k seed w hr
    have hm := cnt_spR l n k seed
    have hm2 := cnt_len (spR l n k seed)
    generalize spR l n k seed = l1 at cs ci hm hm2
    generalize spOk l.length n k seed = k1 at cs ci
    have CS := hide cs
    have CI := hide ci
    clear cs ci
    have hB : Below w.heap.size w w := Below.refl _ _
    go_enter Try.func18, Try.ntmps18
    go_wp2_with fail
    refine (toByteS_c A _ c l _ ((hr.mono (by omega)).up (by repeat (first | with_reducible exact Below.refl _ _ | with_reducible assumption | refine Below.alloc ?_ (by first | omega | (simp; done) | (simp; omega)) _ | refine Below.setCell ?_ (by first | omega | (simp; done) | (simp; omega)) _ | refine Below.drew ?_ | refine below_drewN ?_ _ | exact Below.refl _ _ | assumption))) (by omega)).mono ?_
    rintro e w1 ⟨A1, c1, rfl, hc1, ho, hb⟩
    have hT : Below w.heap.size w w1 := then_ (by repeat (first | with_reducible exact Below.refl _ _ | with_reducible assumption | refine Below.alloc ?_ (by first | omega | (simp; done) | (simp; omega)) _ | refine Below.setCell ?_ (by first | omega | (simp; done) | (simp; omega)) _ | refine Below.drew ?_ | refine below_drewN ?_ _ | exact Below.refl _ _ | assumption)) hb (by first | omega | (simp; done) | (simp; omega))
    have s1 : w.heap.size + 0 ≤ w1.heap.size := by have := hb.size; (try simp at this); omega
    replace hB := then_ hB hT hB.size
    replace hr := hr.below hT (by omega)
    clear hb hT
    have r1 := (Ow.of_own ho).mono (lo' := w.heap.size + 0) (by first | omega | (simp; done) | (simp; omega)) (Nat.le_refl _)
    clear ho
    go_wp2_with fail
    refine (CS.out A1 c1 _ ((r1.rd.mono (by omega)).up (by repeat (first | with_reducible exact Below.refl _ _ | with_reducible assumption | refine Below.alloc ?_ (by first | omega | (simp; done) | (simp; omega)) _ | refine Below.setCell ?_ (by first | omega | (simp; done) | (simp; omega)) _ | refine Below.drew ?_ | refine below_drewN ?_ _ | exact Below.refl _ _ | assumption)))).mono ?_
    rintro e w2 ⟨A2, c2, hs2, rfl, hc2, ho, hb⟩
    have hT : Below w1.heap.size w1 w2 := then_ (by repeat (first | with_reducible exact Below.refl _ _ | with_reducible assumption | refine Below.alloc ?_ (by first | omega | (simp; done) | (simp; omega)) _ | refine Below.setCell ?_ (by first | omega | (simp; done) | (simp; omega)) _ | refine Below.drew ?_ | refine below_drewN ?_ _ | exact Below.refl _ _ | assumption)) hb (by first | omega | (simp; done) | (simp; omega))
    have s2 : w1.heap.size + 0 ≤ w2.heap.size := by have := hb.size; (try simp at this); omega
    replace hB := then_ hB hT hB.size
    replace hr := hr.below hT (by omega)
    replace r1 := r1.below hT (by omega)
    clear hb hT
    have W0 := (ShO.w ho).mono (lo' := w1.heap.size) (by first | omega | (simp; done) | (simp; omega)) (Nat.le_refl _)
    clear ho
    clear r1
    go_wp2_with fail
    refine (toByteS_c A _ c l _ ((hr.mono (by omega)).up (by repeat (first | with_reducible exact Below.refl _ _ | with_reducible assumption | refine Below.alloc ?_ (by first | omega | (simp; done) | (simp; omega)) _ | refine Below.setCell ?_ (by first | omega | (simp; done) | (simp; omega)) _ | refine Below.drew ?_ | refine below_drewN ?_ _ | exact Below.refl _ _ | assumption))) (by omega)).mono ?_
    rintro e w3 ⟨A3, c3, rfl, hc3, ho, hb⟩
    have hT : Below w2.heap.size w2 w3 := then_ (by repeat (first | with_reducible exact Below.refl _ _ | with_reducible assumption | refine Below.alloc ?_ (by first | omega | (simp; done) | (simp; omega)) _ | refine Below.setCell ?_ (by first | omega | (simp; done) | (simp; omega)) _ | refine Below.drew ?_ | refine below_drewN ?_ _ | exact Below.refl _ _ | assumption)) hb (by first | omega | (simp; done) | (simp; omega))
    have s3 : w2.heap.size + 0 ≤ w3.heap.size := by have := hb.size; (try simp at this); omega
    replace hB := then_ hB hT hB.size
    replace hr := hr.below hT (by omega)
    replace W0 := W0.below hT (by omega)
    clear hb hT
    have X0 := (Ow.of_own ho).mono (lo' := w2.heap.size + 0) (by first | omega | (simp; done) | (simp; omega)) (Nat.le_refl _)
    clear ho
    go_wp2_with fail
    refine (CI.out A3 c3 _ ((X0.rd.mono (by omega)).up (by repeat (first | with_reducible exact Below.refl _ _ | with_reducible assumption | refine Below.alloc ?_ (by first | omega | (simp; done) | (simp; omega)) _ | refine Below.setCell ?_ (by first | omega | (simp; done) | (simp; omega)) _ | refine Below.drew ?_ | refine below_drewN ?_ _ | exact Below.refl _ _ | assumption)))).mono ?_
    rintro e w4 ⟨A4, c4, hs4, rfl, hc4, ho, hb⟩
    have hT : Below w3.heap.size w3 w4 := then_ (by repeat (first | with_reducible exact Below.refl _ _ | with_reducible assumption | refine Below.alloc ?_ (by first | omega | (simp; done) | (simp; omega)) _ | refine Below.setCell ?_ (by first | omega | (simp; done) | (simp; omega)) _ | refine Below.drew ?_ | refine below_drewN ?_ _ | exact Below.refl _ _ | assumption)) hb (by first | omega | (simp; done) | (simp; omega))
    have s4 : w3.heap.size + 0 ≤ w4.heap.size := by have := hb.size; (try simp at this); omega
    replace hB := then_ hB hT hB.size
    replace hr := hr.below hT (by omega)
    replace W0 := W0.below hT (by omega)
    replace X0 := X0.below hT (by omega)
    clear hb hT
    have G0 := (ShO.w ho).mono (lo' := w3.heap.size) (by first | omega | (simp; done) | (simp; omega)) (Nat.le_refl _)
    clear ho
    go_wp2_with fail
    refine (eqShareS_c A4 A2 _ c4 c2 l1 _ ((G0.rd.mono (by omega)).up (by repeat (first | with_reducible exact Below.refl _ _ | with_reducible assumption | refine Below.alloc ?_ (by first | omega | (simp; done) | (simp; omega)) _ | refine Below.setCell ?_ (by first | omega | (simp; done) | (simp; omega)) _ | refine Below.drew ?_ | refine below_drewN ?_ _ | exact Below.refl _ _ | assumption))) ((W0.rd.mono (by omega)).up (by repeat (first | with_reducible exact Below.refl _ _ | with_reducible assumption | refine Below.alloc ?_ (by first | omega | (simp; done) | (simp; omega)) _ | refine Below.setCell ?_ (by first | omega | (simp; done) | (simp; omega)) _ | refine Below.drew ?_ | refine below_drewN ?_ _ | exact Below.refl _ _ | assumption)))).mono ?_
    rintro e w5 ⟨rfl, hb⟩
    have hT : Below w4.heap.size w4 w5 := then_ (by repeat (first | with_reducible exact Below.refl _ _ | with_reducible assumption | refine Below.alloc ?_ (by first | omega | (simp; done) | (simp; omega)) _ | refine Below.setCell ?_ (by first | omega | (simp; done) | (simp; omega)) _ | refine Below.drew ?_ | refine below_drewN ?_ _ | exact Below.refl _ _ | assumption)) hb (by first | omega | (simp; done) | (simp; omega))
    have s5 : w4.heap.size + 0 ≤ w5.heap.size := by have := hb.size; (try simp at this); omega
    replace hB := then_ hB hT hB.size
    replace hr := hr.below hT (by omega)
    replace W0 := W0.below hT (by omega)
    replace X0 := X0.below hT (by omega)
    replace G0 := G0.below hT (by omega)
    clear hb hT
    go_wp2_with fail
    refine (toByteS_c A _ c l _ ((hr.mono (by omega)).up (by repeat (first | with_reducible exact Below.refl _ _ | with_reducible assumption | refine Below.alloc ?_ (by first | omega | (simp; done) | (simp; omega)) _ | refine Below.setCell ?_ (by first | omega | (simp; done) | (simp; omega)) _ | refine Below.drew ?_ | refine below_drewN ?_ _ | exact Below.refl _ _ | assumption))) (by omega)).mono ?_
    rintro e w6 ⟨A6, c6, rfl, hc6, ho, hb⟩
    have hT : Below w5.heap.size w5 w6 := then_ (by repeat (first | with_reducible exact Below.refl _ _ | with_reducible assumption | refine Below.alloc ?_ (by first | omega | (simp; done) | (simp; omega)) _ | refine Below.setCell ?_ (by first | omega | (simp; done) | (simp; omega)) _ | refine Below.drew ?_ | refine below_drewN ?_ _ | exact Below.refl _ _ | assumption)) hb (by first | omega | (simp; done) | (simp; omega))
    have s6 : w5.heap.size + 0 ≤ w6.heap.size := by have := hb.size; (try simp at this); omega
    replace hB := then_ hB hT hB.size
    replace hr := hr.below hT (by omega)
    replace W0 := W0.below hT (by omega)
    replace X0 := X0.below hT (by omega)
    replace G0 := G0.below hT (by omega)
    clear hb hT
    have R := (Ow.of_own ho).mono (lo' := w5.heap.size + 0) (by first | omega | (simp; done) | (simp; omega)) (Nat.le_refl _)
    clear ho
    go_wp2_with fail
    refine (eqByteS_c A3 A6 _ c3 c6 l _ _ _ X0.rd R.rd).mono ?_
    rintro e w7 ⟨rfl, hb⟩
    have hT : Below w6.heap.size w6 w7 := then_ (by repeat (first | with_reducible exact Below.refl _ _ | with_reducible assumption | refine Below.alloc ?_ (by first | omega | (simp; done) | (simp; omega)) _ | refine Below.setCell ?_ (by first | omega | (simp; done) | (simp; omega)) _ | refine Below.drew ?_ | refine below_drewN ?_ _ | exact Below.refl _ _ | assumption)) hb (by first | omega | (simp; done) | (simp; omega))
    have s7 : w6.heap.size + 0 ≤ w7.heap.size := by have := hb.size; (try simp at this); omega
    replace hB := then_ hB hT hB.size
    replace hr := hr.below hT (by omega)
    replace W0 := W0.below hT (by omega)
    replace X0 := X0.below hT (by omega)
    replace G0 := G0.below hT (by omega)
    replace R := R.below hT (by omega)
    clear hb hT
    clear R
    go_wp2_with fail
    refine (markByteS_q A3 _ c3 l _ _ _ 1 X0 (by omega) (by omega) (by omega)).mono ?_
    rintro e w8 ⟨rfl, ho, hM⟩
    have s8 : w7.heap.size + 0 ≤ w8.heap.size := hM.size
    replace hB := hB.trans (hM.below (by omega) (by omega))
    replace hr := hr.mkd hM (by omega)
    replace W0 := W0.mkd hM (by omega)
    replace G0 := G0.mkd hM (by omega)
    replace X0 := ho
    clear hM
    clear ho
    clear X0
    go_wp2_with fail
    refine (eqShareS_c A4 A2 _ c4 c2 l1 _ ((G0.rd.mono (by omega)).up (by repeat (first | with_reducible exact Below.refl _ _ | with_reducible assumption | refine Below.alloc ?_ (by first | omega | (simp; done) | (simp; omega)) _ | refine Below.setCell ?_ (by first | omega | (simp; done) | (simp; omega)) _ | refine Below.drew ?_ | refine below_drewN ?_ _ | exact Below.refl _ _ | assumption))) ((W0.rd.mono (by omega)).up (by repeat (first | with_reducible exact Below.refl _ _ | with_reducible assumption | refine Below.alloc ?_ (by first | omega | (simp; done) | (simp; omega)) _ | refine Below.setCell ?_ (by first | omega | (simp; done) | (simp; omega)) _ | refine Below.drew ?_ | refine below_drewN ?_ _ | exact Below.refl _ _ | assumption)))).mono ?_
    rintro e w9 ⟨rfl, hb⟩
    have hT : Below w8.heap.size w8 w9 := then_ (by repeat (first | with_reducible exact Below.refl _ _ | with_reducible assumption | refine Below.alloc ?_ (by first | omega | (simp; done) | (simp; omega)) _ | refine Below.setCell ?_ (by first | omega | (simp; done) | (simp; omega)) _ | refine Below.drew ?_ | refine below_drewN ?_ _ | exact Below.refl _ _ | assumption)) hb (by first | omega | (simp; done) | (simp; omega))
    have s9 : w8.heap.size + 0 ≤ w9.heap.size := by have := hb.size; (try simp at this); omega
    replace hB := then_ hB hT hB.size
    replace hr := hr.below hT (by omega)
    replace W0 := W0.below hT (by omega)
    replace G0 := G0.below hT (by omega)
    clear hb hT
    go_wp2_with fail
    refine (markShareS_m A4 _ c4 _ l1 _ _ _ 1 G0 (by omega) (by omega) (by omega)).mono ?_
    rintro e w10 ⟨rfl, ho, hM⟩
    have s10 : w9.heap.size + 0 ≤ w10.heap.size := hM.size
    replace hB := hB.trans (hM.below (by omega) (by omega))
    replace hr := hr.mkd hM (by omega)
    replace W0 := W0.mkd hM (by omega)
    replace G0 := ho
    clear hM
    clear ho
    go_wp2_with fail
    refine (heldShareS_c A4 _ c4 l1 _ _ 1 G0.rd (by omega) (by omega) (by omega)).mono ?_
    rintro e w11 ⟨rfl, hb⟩
    have hT : Below w10.heap.size w10 w11 := then_ (by repeat (first | with_reducible exact Below.refl _ _ | with_reducible assumption | refine Below.alloc ?_ (by first | omega | (simp; done) | (simp; omega)) _ | refine Below.setCell ?_ (by first | omega | (simp; done) | (simp; omega)) _ | refine Below.drew ?_ | refine below_drewN ?_ _ | exact Below.refl _ _ | assumption)) hb (by first | omega | (simp; done) | (simp; omega))
    have s11 : w10.heap.size + 0 ≤ w11.heap.size := by have := hb.size; (try simp at this); omega
    replace hB := then_ hB hT hB.size
    replace hr := hr.below hT (by omega)
    replace W0 := W0.below hT (by omega)
    replace G0 := G0.below hT (by omega)
    clear hb hT
    go_wp2_with fail
    refine (toByteS_c A _ c l _ ((hr.mono (by omega)).up (by repeat (first | with_reducible exact Below.refl _ _ | with_reducible assumption | refine Below.alloc ?_ (by first | omega | (simp; done) | (simp; omega)) _ | refine Below.setCell ?_ (by first | omega | (simp; done) | (simp; omega)) _ | refine Below.drew ?_ | refine below_drewN ?_ _ | exact Below.refl _ _ | assumption))) (by omega)).mono ?_
    rintro e w12 ⟨A12, c12, rfl, hc12, ho, hb⟩
    have hT : Below w11.heap.size w11 w12 := then_ (by repeat (first | with_reducible exact Below.refl _ _ | with_reducible assumption | refine Below.alloc ?_ (by first | omega | (simp; done) | (simp; omega)) _ | refine Below.setCell ?_ (by first | omega | (simp; done) | (simp; omega)) _ | refine Below.drew ?_ | refine below_drewN ?_ _ | exact Below.refl _ _ | assumption)) hb (by first | omega | (simp; done) | (simp; omega))
    have s12 : w11.heap.size + 0 ≤ w12.heap.size := by have := hb.size; (try simp at this); omega
    replace hB := then_ hB hT hB.size
    replace hr := hr.below hT (by omega)
    replace W0 := W0.below hT (by omega)
    replace G0 := G0.below hT (by omega)
    clear hb hT
    have RH := (Ow.of_own ho).mono (lo' := w11.heap.size + 0) (by first | omega | (simp; done) | (simp; omega)) (Nat.le_refl _)
    clear ho
    go_wp2_with fail
    refine (CI.out A12 c12 _ ((RH.rd.mono (by omega)).up (by repeat (first | with_reducible exact Below.refl _ _ | with_reducible assumption | refine Below.alloc ?_ (by first | omega | (simp; done) | (simp; omega)) _ | refine Below.setCell ?_ (by first | omega | (simp; done) | (simp; omega)) _ | refine Below.drew ?_ | refine below_drewN ?_ _ | exact Below.refl _ _ | assumption)))).mono ?_
    rintro e w13 ⟨AI, cI, hsI, rfl, hcI, ho, hb⟩
    have hT : Below w12.heap.size w12 w13 := then_ (by repeat (first | with_reducible exact Below.refl _ _ | with_reducible assumption | refine Below.alloc ?_ (by first | omega | (simp; done) | (simp; omega)) _ | refine Below.setCell ?_ (by first | omega | (simp; done) | (simp; omega)) _ | refine Below.drew ?_ | refine below_drewN ?_ _ | exact Below.refl _ _ | assumption)) hb (by first | omega | (simp; done) | (simp; omega))
    have s13 : w12.heap.size + 0 ≤ w13.heap.size := by have := hb.size; (try simp at this); omega
    replace hB := then_ hB hT hB.size
    replace hr := hr.below hT (by omega)
    replace W0 := W0.below hT (by omega)
    replace G0 := G0.below hT (by omega)
    replace RH := RH.below hT (by omega)
    clear hb hT
    have H0 := (ShO.w ho).mono (lo' := w12.heap.size) (by first | omega | (simp; done) | (simp; omega)) (Nat.le_refl _)
    clear ho
    clear RH
    go_wp2_with fail
    refine (eqShareS_c AI A2 _ cI c2 l1 _ ((H0.rd.mono (by omega)).up (by repeat (first | with_reducible exact Below.refl _ _ | with_reducible assumption | refine Below.alloc ?_ (by first | omega | (simp; done) | (simp; omega)) _ | refine Below.setCell ?_ (by first | omega | (simp; done) | (simp; omega)) _ | refine Below.drew ?_ | refine below_drewN ?_ _ | exact Below.refl _ _ | assumption))) ((W0.rd.mono (by omega)).up (by repeat (first | with_reducible exact Below.refl _ _ | with_reducible assumption | refine Below.alloc ?_ (by first | omega | (simp; done) | (simp; omega)) _ | refine Below.setCell ?_ (by first | omega | (simp; done) | (simp; omega)) _ | refine Below.drew ?_ | refine below_drewN ?_ _ | exact Below.refl _ _ | assumption)))).mono ?_
    rintro e w14 ⟨rfl, hb⟩
    have hT : Below w13.heap.size w13 w14 := then_ (by repeat (first | with_reducible exact Below.refl _ _ | with_reducible assumption | refine Below.alloc ?_ (by first | omega | (simp; done) | (simp; omega)) _ | refine Below.setCell ?_ (by first | omega | (simp; done) | (simp; omega)) _ | refine Below.drew ?_ | refine below_drewN ?_ _ | exact Below.refl _ _ | assumption)) hb (by first | omega | (simp; done) | (simp; omega))
    have s14 : w13.heap.size + 0 ≤ w14.heap.size := by have := hb.size; (try simp at this); omega
    replace hB := then_ hB hT hB.size
    replace hr := hr.below hT (by omega)
    replace W0 := W0.below hT (by omega)
    replace G0 := G0.below hT (by omega)
    replace H0 := H0.below hT (by omega)
    clear hb hT
    clear H0
    go_wp2_with fail
    refine (heldShareS_c A4 _ c4 l1 _ _ 1 G0.rd (by omega) (by omega) (by omega)).mono ?_
    rintro e w15 ⟨rfl, hb⟩
    have hT : Below w14.heap.size w14 w15 := then_ (by repeat (first | with_reducible exact Below.refl _ _ | with_reducible assumption | refine Below.alloc ?_ (by first | omega | (simp; done) | (simp; omega)) _ | refine Below.setCell ?_ (by first | omega | (simp; done) | (simp; omega)) _ | refine Below.drew ?_ | refine below_drewN ?_ _ | exact Below.refl _ _ | assumption)) hb (by first | omega | (simp; done) | (simp; omega))
    have s15 : w14.heap.size + 0 ≤ w15.heap.size := by have := hb.size; (try simp at this); omega
    replace hB := then_ hB hT hB.size
    replace hr := hr.below hT (by omega)
    replace W0 := W0.below hT (by omega)
    replace G0 := G0.below hT (by omega)
    clear hb hT
    go_wp2_with fail
    go_ret
    exact ⟨rfl, hB⟩
  · go_enter Try.func18, Try.ntmps18
    go_wp2_with fail
    go_ret
    exact ⟨rfl, Below.refl _ _⟩
end Go.Proofs.Ytmebpmaldcogbaa
