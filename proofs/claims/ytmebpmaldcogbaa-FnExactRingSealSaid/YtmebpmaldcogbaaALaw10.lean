/- Walk of the law on sealing with a ring: it returns true. -/
import Derived.Test.YtmebpmaldcogbaaA18
import Derived.Deep.RegionHeld3
namespace Go.Proofs.Ytmebpmaldcogbaa
open Go.RowKit Gf
set_option maxRecDepth 100000
set_option maxHeartbeats 1000000
theorem fnExactRingSeal_walk (x : Int) (A : Option Addr) (n c : Nat) (l : List Int) (y : Int) (Ap : Option Addr) (np cp : Nat) (p : List UInt8) (w : World) (_hx : (Lit.int .i64 x).wf = true ∧ ∀ y ∈ l, (Lit.int .i64 y).wf = true) (hr : Rd w w.heap.size 1 A n (iC l)) (_hy : (Lit.int .i64 y).wf = true) (hp : Rd w w.heap.size 1 Ap np (bC p)) :
    Calls Try.prog 25 #[.agg #[.int .i64 x, .slice A n c], .int .i64 y, .slice Ap np cp] w (RetV (.bool true) w) := by
  clear _hx _hy
  have hbd := hr.bd
  have hbp := hp.bd
  by_cases hpn : 1048576 < np
  · go_enter Try.func25, Try.ntmps25
    go_wp2_with fail
    go_ret
    exact ⟨rfl, (by repeat (first | with_reducible exact Below.refl _ _ | with_reducible assumption | refine Below.alloc ?_ (by first | omega | (simp; done) | (simp; omega)) _ | refine Below.setCell ?_ (by first | omega | (simp; done) | (simp; omega)) _ | refine Below.drew ?_ | refine below_drewN ?_ _ | exact Below.refl _ _ | assumption))⟩
  by_cases hn : n ≤ 1048576
  · have hln := hr.in_
    have hpl := hp.bn
    subst hln
    subst hpl
    have cs : ∀ (A : Option Addr) (c : Nat) (Ap : Option Addr) (cp : Nat) (w : World), Rd w w.heap.size 1 A l.length (iC l) → Rd w w.heap.size 1 Ap p.length (bC p) → Calls Try.prog 93 #[.agg #[.int .i64 x, .slice A l.length c], .int .i64 y, .slice Ap p.length cp] w (RetCiph2 (rsV x l y p) (rsX x l y p) (rsL x l y p) (rsT x l y p) (rsOk x l y p) w) := fun A c Ap cp w hr hp => RingSeal_s x y A Ap _ c _ cp l p w hr hp
    have ci : ∀ (A : Option Addr) (c : Nat) (Ap : Option Addr) (cp : Nat) (w : World), Rd w w.heap.size 1 A l.length (iC l) → Rd w w.heap.size 1 Ap p.length (bC p) → Calls Try.prog 94 #[.agg #[.int .i64 x, .slice A l.length c], .int .i64 y, .slice Ap p.length cp] w (RetCiph2 (rsV x l y p) (rsX x l y p) (rsL x l y p) (rsT x l y p) (rsOk x l y p) w) := fun A c Ap cp w hr hp => RingSeal_i x y A Ap _ c _ cp l p w hr hp
    have hm : (rsL x l y p).length ≤ p.length := by
      unfold rsL
      split
      · rw [xB_length]; exact Nat.le_refl _
      · simp
    generalize rsV x l y p = v1 at cs ci
    generalize rsX x l y p = x1 at cs ci
    generalize rsL x l y p = l1 at cs ci hm
    generalize rsT x l y p = t1 at cs ci
    generalize rsOk x l y p = k1 at cs ci
    have CS := hide cs
    have CI := hide ci
    clear cs ci
    have hB : Below w.heap.size w w := Below.refl _ _
    go_enter Try.func25, Try.ntmps25
    go_wp2_with fail
    have La0 := (Blk.new w 55 #[.int .i64 x, .slice A l.length c])
    refine (szKeyRing_ok x A _ c 1048576 _ (by omega) (by omega)).mono ?_
    rintro e w1 ⟨rfl, hb⟩
    have hT : Below w.heap.size w w1 := then_ (by repeat (first | with_reducible exact Below.refl _ _ | with_reducible assumption | refine Below.alloc ?_ (by first | omega | (simp; done) | (simp; omega)) _ | refine Below.setCell ?_ (by first | omega | (simp; done) | (simp; omega)) _ | refine Below.drew ?_ | refine below_drewN ?_ _ | exact Below.refl _ _ | assumption)) hb (by first | omega | (simp; done) | (simp; omega))
    have s1 : w.heap.size + 1 ≤ w1.heap.size := by have := hb.size; (try simp at this); omega
    replace hB := then_ hB hT hB.size
    replace hr := hr.below hT (by omega)
    replace hp := hp.below hT (by omega)
    obtain ⟨La, qLa, _, _⟩ := La0.step hb
    clear La0
    clear hb hT
    go_wp2_with fail
    refine (toKeyRing_c x A _ c l _ ((hr.mono (by omega)).up (by repeat (first | with_reducible exact Below.refl _ _ | with_reducible assumption | refine Below.alloc ?_ (by first | omega | (simp; done) | (simp; omega)) _ | refine Below.setCell ?_ (by first | omega | (simp; done) | (simp; omega)) _ | refine Below.drew ?_ | refine below_drewN ?_ _ | exact Below.refl _ _ | assumption))) (by omega)).mono ?_
    rintro e w2 ⟨A2, c2, rfl, hc2, ho, hb⟩
    have hT : Below w1.heap.size w1 w2 := then_ (by repeat (first | with_reducible exact Below.refl _ _ | with_reducible assumption | refine Below.alloc ?_ (by first | omega | (simp; done) | (simp; omega)) _ | refine Below.setCell ?_ (by first | omega | (simp; done) | (simp; omega)) _ | refine Below.drew ?_ | refine below_drewN ?_ _ | exact Below.refl _ _ | assumption)) hb (by first | omega | (simp; done) | (simp; omega))
    have s2 : w1.heap.size + 0 ≤ w2.heap.size := by have := hb.size; (try simp at this); omega
    replace hB := then_ hB hT hB.size
    replace hr := hr.below hT (by omega)
    replace hp := hp.below hT (by omega)
    obtain ⟨La, qLa, _, _⟩ := La.step hT
    clear hb hT
    have r2 := (Ow.of_own ho).mono (lo' := w1.heap.size + 0) (by first | omega | (simp; done) | (simp; omega)) (Nat.le_refl _)
    clear ho
    go_wp2_with fail
    refine (toByteS_c Ap _ cp p _ ((hp.mono (by omega)).up (by repeat (first | with_reducible exact Below.refl _ _ | with_reducible assumption | refine Below.alloc ?_ (by first | omega | (simp; done) | (simp; omega)) _ | refine Below.setCell ?_ (by first | omega | (simp; done) | (simp; omega)) _ | refine Below.drew ?_ | refine below_drewN ?_ _ | exact Below.refl _ _ | assumption))) (by omega)).mono ?_
    rintro e w3 ⟨A3, c3, rfl, hc3, ho, hb⟩
    have hT : Below w2.heap.size w2 w3 := then_ (by repeat (first | with_reducible exact Below.refl _ _ | with_reducible assumption | refine Below.alloc ?_ (by first | omega | (simp; done) | (simp; omega)) _ | refine Below.setCell ?_ (by first | omega | (simp; done) | (simp; omega)) _ | refine Below.drew ?_ | refine below_drewN ?_ _ | exact Below.refl _ _ | assumption)) hb (by first | omega | (simp; done) | (simp; omega))
    have s3 : w2.heap.size + 0 ≤ w3.heap.size := by have := hb.size; (try simp at this); omega
    replace hB := then_ hB hT hB.size
    replace hr := hr.below hT (by omega)
    replace hp := hp.below hT (by omega)
    replace r2 := r2.below hT (by omega)
    obtain ⟨La, qLa, _, _⟩ := La.step hT
    clear hb hT
    have r3 := (Ow.of_own ho).mono (lo' := w2.heap.size + 0) (by first | omega | (simp; done) | (simp; omega)) (Nat.le_refl _)
    clear ho
    go_wp2_with fail
    refine (CS.out A2 c2 A3 c3 _ ((r2.rd.mono (by omega)).up (by repeat (first | with_reducible exact Below.refl _ _ | with_reducible assumption | refine Below.alloc ?_ (by first | omega | (simp; done) | (simp; omega)) _ | refine Below.setCell ?_ (by first | omega | (simp; done) | (simp; omega)) _ | refine Below.drew ?_ | refine below_drewN ?_ _ | exact Below.refl _ _ | assumption))) ((r3.rd.mono (by omega)).up (by repeat (first | with_reducible exact Below.refl _ _ | with_reducible assumption | refine Below.alloc ?_ (by first | omega | (simp; done) | (simp; omega)) _ | refine Below.setCell ?_ (by first | omega | (simp; done) | (simp; omega)) _ | refine Below.drew ?_ | refine below_drewN ?_ _ | exact Below.refl _ _ | assumption)))).mono ?_
    rintro e w4 ⟨A4, c4, rfl, hc4, ho, hb⟩
    have hT : Below w3.heap.size w3 w4 := then_ (by repeat (first | with_reducible exact Below.refl _ _ | with_reducible assumption | refine Below.alloc ?_ (by first | omega | (simp; done) | (simp; omega)) _ | refine Below.setCell ?_ (by first | omega | (simp; done) | (simp; omega)) _ | refine Below.drew ?_ | refine below_drewN ?_ _ | exact Below.refl _ _ | assumption)) hb (by first | omega | (simp; done) | (simp; omega))
    have s4 : w3.heap.size + 0 ≤ w4.heap.size := by have := hb.size; (try simp at this); omega
    replace hB := then_ hB hT hB.size
    replace hr := hr.below hT (by omega)
    replace hp := hp.below hT (by omega)
    replace r2 := r2.below hT (by omega)
    replace r3 := r3.below hT (by omega)
    obtain ⟨La, qLa, _, _⟩ := La.step hT
    clear hb hT
    have W0 := (Ow.of_own ho).mono (lo' := w3.heap.size) (by first | omega | (simp; done) | (simp; omega)) (Nat.le_refl _)
    clear ho
    clear r2
    clear r3
    go_wp2_with fail
    have Lw0 := (Blk.new w4 100 #[.int .i64 v1, .int .i64 x1, .slice A4 l1.length c4, .int .i64 t1])
    refine (toKeyRing_c x A _ c l _ ((hr.mono (by omega)).up (by repeat (first | with_reducible exact Below.refl _ _ | with_reducible assumption | refine Below.alloc ?_ (by first | omega | (simp; done) | (simp; omega)) _ | refine Below.setCell ?_ (by first | omega | (simp; done) | (simp; omega)) _ | refine Below.drew ?_ | refine below_drewN ?_ _ | exact Below.refl _ _ | assumption))) (by omega)).mono ?_
    rintro e w5 ⟨A5, c5, rfl, hc5, ho, hb⟩
    have hT : Below w4.heap.size w4 w5 := then_ (by repeat (first | with_reducible exact Below.refl _ _ | with_reducible assumption | refine Below.alloc ?_ (by first | omega | (simp; done) | (simp; omega)) _ | refine Below.setCell ?_ (by first | omega | (simp; done) | (simp; omega)) _ | refine Below.drew ?_ | refine below_drewN ?_ _ | exact Below.refl _ _ | assumption)) hb (by first | omega | (simp; done) | (simp; omega))
    have s5 : w4.heap.size + 1 ≤ w5.heap.size := by have := hb.size; (try simp at this); omega
    replace hB := then_ hB hT hB.size
    replace hr := hr.below hT (by omega)
    replace hp := hp.below hT (by omega)
    replace W0 := W0.below hT (by omega)
    obtain ⟨La, qLa, _, _⟩ := La.step hT
    obtain ⟨Lw, qLw, _, _⟩ := Lw0.step hb
    clear Lw0
    clear hb hT
    have X0 := (Ow.of_own ho).mono (lo' := w4.heap.size + 1) (by first | omega | (simp; done) | (simp; omega)) (Nat.le_refl _)
    clear ho
    go_wp2_with fail
    have Lx0 := (Blk.new w5 58 #[.int .i64 x, .slice A5 l.length c5])
    refine (toByteS_c Ap _ cp p _ ((hp.mono (by omega)).up (by repeat (first | with_reducible exact Below.refl _ _ | with_reducible assumption | refine Below.alloc ?_ (by first | omega | (simp; done) | (simp; omega)) _ | refine Below.setCell ?_ (by first | omega | (simp; done) | (simp; omega)) _ | refine Below.drew ?_ | refine below_drewN ?_ _ | exact Below.refl _ _ | assumption))) (by omega)).mono ?_
    rintro e w6 ⟨A6, c6, rfl, hc6, ho, hb⟩
    have hT : Below w5.heap.size w5 w6 := then_ (by repeat (first | with_reducible exact Below.refl _ _ | with_reducible assumption | refine Below.alloc ?_ (by first | omega | (simp; done) | (simp; omega)) _ | refine Below.setCell ?_ (by first | omega | (simp; done) | (simp; omega)) _ | refine Below.drew ?_ | refine below_drewN ?_ _ | exact Below.refl _ _ | assumption)) hb (by first | omega | (simp; done) | (simp; omega))
    have s6 : w5.heap.size + 1 ≤ w6.heap.size := by have := hb.size; (try simp at this); omega
    replace hB := then_ hB hT hB.size
    replace hr := hr.below hT (by omega)
    replace hp := hp.below hT (by omega)
    replace W0 := W0.below hT (by omega)
    replace X0 := X0.below hT (by omega)
    obtain ⟨La, qLa, _, _⟩ := La.step hT
    obtain ⟨Lw, qLw, _, _⟩ := Lw.step hT
    obtain ⟨Lx, qLx, _, _⟩ := Lx0.step hb
    clear Lx0
    clear hb hT
    have P0 := (Ow.of_own ho).mono (lo' := w5.heap.size + 1) (by first | omega | (simp; done) | (simp; omega)) (Nat.le_refl _)
    clear ho
    go_wp2_with fail
    refine (CI.out A5 c5 A6 c6 _ ((X0.rd.mono (by omega)).up (by repeat (first | with_reducible exact Below.refl _ _ | with_reducible assumption | refine Below.alloc ?_ (by first | omega | (simp; done) | (simp; omega)) _ | refine Below.setCell ?_ (by first | omega | (simp; done) | (simp; omega)) _ | refine Below.drew ?_ | refine below_drewN ?_ _ | exact Below.refl _ _ | assumption))) ((P0.rd.mono (by omega)).up (by repeat (first | with_reducible exact Below.refl _ _ | with_reducible assumption | refine Below.alloc ?_ (by first | omega | (simp; done) | (simp; omega)) _ | refine Below.setCell ?_ (by first | omega | (simp; done) | (simp; omega)) _ | refine Below.drew ?_ | refine below_drewN ?_ _ | exact Below.refl _ _ | assumption)))).mono ?_
    rintro e w7 ⟨A7, c7, rfl, hc7, ho, hb⟩
    have hT : Below w6.heap.size w6 w7 := then_ (by repeat (first | with_reducible exact Below.refl _ _ | with_reducible assumption | refine Below.alloc ?_ (by first | omega | (simp; done) | (simp; omega)) _ | refine Below.setCell ?_ (by first | omega | (simp; done) | (simp; omega)) _ | refine Below.drew ?_ | refine below_drewN ?_ _ | exact Below.refl _ _ | assumption)) hb (by first | omega | (simp; done) | (simp; omega))
    have s7 : w6.heap.size + 0 ≤ w7.heap.size := by have := hb.size; (try simp at this); omega
    replace hB := then_ hB hT hB.size
    replace hr := hr.below hT (by omega)
    replace hp := hp.below hT (by omega)
    replace W0 := W0.below hT (by omega)
    replace X0 := X0.below hT (by omega)
    replace P0 := P0.below hT (by omega)
    obtain ⟨La, qLa, _, _⟩ := La.step hT
    obtain ⟨Lw, qLw, _, _⟩ := Lw.step hT
    obtain ⟨Lx, qLx, _, _⟩ := Lx.step hT
    clear hb hT
    have G0 := (Ow.of_own ho).mono (lo' := w6.heap.size) (by first | omega | (simp; done) | (simp; omega)) (Nat.le_refl _)
    clear ho
    go_wp2_with fail
    have Lg0 := (Blk.new w7 100 #[.int .i64 v1, .int .i64 x1, .slice A7 l1.length c7, .int .i64 t1])
    refine (eqCipher_c v1 x1 t1 A7 A4 _ c7 c4 l1 _ ((G0.rd.mono (by omega)).up (by repeat (first | with_reducible exact Below.refl _ _ | with_reducible assumption | refine Below.alloc ?_ (by first | omega | (simp; done) | (simp; omega)) _ | refine Below.setCell ?_ (by first | omega | (simp; done) | (simp; omega)) _ | refine Below.drew ?_ | refine below_drewN ?_ _ | exact Below.refl _ _ | assumption))) ((W0.rd.mono (by omega)).up (by repeat (first | with_reducible exact Below.refl _ _ | with_reducible assumption | refine Below.alloc ?_ (by first | omega | (simp; done) | (simp; omega)) _ | refine Below.setCell ?_ (by first | omega | (simp; done) | (simp; omega)) _ | refine Below.drew ?_ | refine below_drewN ?_ _ | exact Below.refl _ _ | assumption)))).mono ?_
    rintro e w8 ⟨rfl, hb⟩
    have hT : Below w7.heap.size w7 w8 := then_ (by repeat (first | with_reducible exact Below.refl _ _ | with_reducible assumption | refine Below.alloc ?_ (by first | omega | (simp; done) | (simp; omega)) _ | refine Below.setCell ?_ (by first | omega | (simp; done) | (simp; omega)) _ | refine Below.drew ?_ | refine below_drewN ?_ _ | exact Below.refl _ _ | assumption)) hb (by first | omega | (simp; done) | (simp; omega))
    have s8 : w7.heap.size + 1 ≤ w8.heap.size := by have := hb.size; (try simp at this); omega
    replace hB := then_ hB hT hB.size
    replace hr := hr.below hT (by omega)
    replace hp := hp.below hT (by omega)
    replace W0 := W0.below hT (by omega)
    replace X0 := X0.below hT (by omega)
    replace P0 := P0.below hT (by omega)
    replace G0 := G0.below hT (by omega)
    obtain ⟨La, qLa, _, _⟩ := La.step hT
    obtain ⟨Lw, qLw, _, _⟩ := Lw.step hT
    obtain ⟨Lx, qLx, _, _⟩ := Lx.step hT
    obtain ⟨Lg, qLg, _, _⟩ := Lg0.step hb
    clear Lg0
    clear hb hT
    go_wp2_with fail
    replace hB := hB.drew
    replace hr := hr.drew
    replace hp := hp.drew
    replace W0 := W0.drew
    replace X0 := X0.drew
    replace P0 := P0.drew
    replace G0 := G0.drew
    replace La := La.drew
    replace Lw := Lw.drew
    replace Lx := Lx.drew
    replace Lg := Lg.drew
    go_region_held3 (fun w' => w'.cell? ⟨w.heap.size, 0, none⟩ = some (.int .i64 x) ∧ w'.cell? ⟨w.heap.size, 1, none⟩ = some (.slice A l.length c) ∧ w'.cell? ⟨w5.heap.size, 0, none⟩ = some (.int .i64 x) ∧ w'.cell? ⟨w5.heap.size, 1, none⟩ = some (.slice A5 l.length c5)) (exact ⟨La.cell 0, La.cell 1, Lx.cell 0, Lx.cell 1⟩) (first | (go_at_call 60; refine (toKeyRing_c x A _ c l _ (hr.mono (by first | omega | (simp; omega))) (by omega)).mono ?_; rintro e w9 ⟨A9, c9, rfl, hc9, ho, hb⟩; have s9 : w8.heap.size + 0 ≤ w9.heap.size := hb.size; replace hB := then_ hB hb hB.size; replace hr := hr.below hb (by first | omega | (simp; omega)); replace hp := hp.below hb (by first | omega | (simp; omega)); replace W0 := W0.below hb (by first | omega | (simp; omega)); replace X0 := X0.below hb (by first | omega | (simp; omega)); replace P0 := P0.below hb (by first | omega | (simp; omega)); replace G0 := G0.below hb (by first | omega | (simp; omega)); obtain ⟨La, qLa, _, _⟩ := La.step hb; obtain ⟨Lw, qLw, _, _⟩ := Lw.step hb; obtain ⟨Lx, qLx, _, _⟩ := Lx.step hb; obtain ⟨Lg, qLg, _, _⟩ := Lg.step hb; clear hb; have R7 := Ow.of_own ho) | (go_at_call 62; refine (eqKeyRing_c x A5 A9 _ c5 c9 l _ (X0.rd.mono (by first | omega | (simp; omega))) (R7.rd.mono (by first | omega | (simp; omega)))).mono ?_; rintro e w10 ⟨rfl, hb⟩; have s10 : w9.heap.size + 0 ≤ w10.heap.size := hb.size; replace hB := then_ hB hb hB.size; replace hr := hr.below hb (by first | omega | (simp; omega)); replace hp := hp.below hb (by first | omega | (simp; omega)); replace W0 := W0.below hb (by first | omega | (simp; omega)); replace X0 := X0.below hb (by first | omega | (simp; omega)); replace P0 := P0.below hb (by first | omega | (simp; omega)); replace G0 := G0.below hb (by first | omega | (simp; omega)); replace R7 := R7.below hb (by first | omega | (simp; omega)); obtain ⟨La, qLa, _, _⟩ := La.step hb; obtain ⟨Lw, qLw, _, _⟩ := Lw.step hb; obtain ⟨Lx, qLx, _, _⟩ := Lx.step hb; obtain ⟨Lg, qLg, _, _⟩ := Lg.step hb; clear hb))
    clear ho
    clear R7
    go_wp2_with fail
    refine (toByteS_c Ap _ cp p _ ((hp.mono (by omega)).up (by repeat (first | with_reducible exact Below.refl _ _ | with_reducible assumption | refine Below.alloc ?_ (by first | omega | (simp; done) | (simp; omega)) _ | refine Below.setCell ?_ (by first | omega | (simp; done) | (simp; omega)) _ | refine Below.drew ?_ | refine below_drewN ?_ _ | exact Below.refl _ _ | assumption))) (by omega)).mono ?_
    rintro e w11 ⟨A11, c11, rfl, hc11, ho, hb⟩
    have hT : Below w10.heap.size w10 w11 := then_ (by repeat (first | with_reducible exact Below.refl _ _ | with_reducible assumption | refine Below.alloc ?_ (by first | omega | (simp; done) | (simp; omega)) _ | refine Below.setCell ?_ (by first | omega | (simp; done) | (simp; omega)) _ | refine Below.drew ?_ | refine below_drewN ?_ _ | exact Below.refl _ _ | assumption)) hb (by first | omega | (simp; done) | (simp; omega))
    have s11 : w10.heap.size + 0 ≤ w11.heap.size := by have := hb.size; (try simp at this); omega
    replace hB := then_ hB hT hB.size
    replace hr := hr.below hT (by omega)
    replace hp := hp.below hT (by omega)
    replace W0 := W0.below hT (by omega)
    replace X0 := X0.below hT (by omega)
    replace P0 := P0.below hT (by omega)
    replace G0 := G0.below hT (by omega)
    obtain ⟨La, qLa, _, _⟩ := La.step hT
    obtain ⟨Lw, qLw, _, _⟩ := Lw.step hT
    obtain ⟨Lx, qLx, _, _⟩ := Lx.step hT
    obtain ⟨Lg, qLg, _, _⟩ := Lg.step hT
    clear hb hT
    have R8 := (Ow.of_own ho).mono (lo' := w10.heap.size + 0) (by first | omega | (simp; done) | (simp; omega)) (Nat.le_refl _)
    clear ho
    go_wp2_with fail
    refine (eqByteS_c A6 A11 _ c6 c11 p _ _ _ P0.rd R8.rd).mono ?_
    rintro e w12 ⟨rfl, hb⟩
    have hT : Below w11.heap.size w11 w12 := then_ (by repeat (first | with_reducible exact Below.refl _ _ | with_reducible assumption | refine Below.alloc ?_ (by first | omega | (simp; done) | (simp; omega)) _ | refine Below.setCell ?_ (by first | omega | (simp; done) | (simp; omega)) _ | refine Below.drew ?_ | refine below_drewN ?_ _ | exact Below.refl _ _ | assumption)) hb (by first | omega | (simp; done) | (simp; omega))
    have s12 : w11.heap.size + 0 ≤ w12.heap.size := by have := hb.size; (try simp at this); omega
    replace hB := then_ hB hT hB.size
    replace hr := hr.below hT (by omega)
    replace hp := hp.below hT (by omega)
    replace W0 := W0.below hT (by omega)
    replace X0 := X0.below hT (by omega)
    replace P0 := P0.below hT (by omega)
    replace G0 := G0.below hT (by omega)
    replace R8 := R8.below hT (by omega)
    obtain ⟨La, qLa, _, _⟩ := La.step hT
    obtain ⟨Lw, qLw, _, _⟩ := Lw.step hT
    obtain ⟨Lx, qLx, _, _⟩ := Lx.step hT
    obtain ⟨Lg, qLg, _, _⟩ := Lg.step hT
    clear hb hT
    clear R8
    go_wp2_with fail
    refine (markKeyRing_m x A5 _ c5 l _ _ _ 1 X0 (by omega) (by omega) (by omega) (by omega)).mono ?_
    rintro e w13 ⟨rfl, ho, hM⟩
    have s13 : w12.heap.size + 0 ≤ w13.heap.size := hM.size
    replace hB := hB.trans (hM.below (by omega) (by omega))
    replace hr := hr.mkd hM (by omega)
    replace hp := hp.mkd hM (by omega)
    replace W0 := W0.mkd hM (by omega)
    replace P0 := P0.mkd hM (by omega)
    replace G0 := G0.mkd hM (by omega)
    obtain ⟨La, qLa⟩ := La.mkd hM (by omega)
    obtain ⟨Lw, qLw⟩ := Lw.mkd hM (by omega)
    obtain ⟨Lx, qLx⟩ := Lx.mkd hM (by omega)
    obtain ⟨Lg, qLg⟩ := Lg.mkd hM (by omega)
    replace X0 := ho
    clear hM
    clear ho
    clear X0
    go_wp2_with fail
    refine (markByteS_m A6 _ c6 p _ _ _ _ P0 (by omega) (by omega) (by omega)).mono ?_
    rintro e w14 ⟨rfl, ho, hM⟩
    have s14 : w13.heap.size + 0 ≤ w14.heap.size := hM.size
    replace hB := hB.trans (hM.below (by omega) (by omega))
    replace hr := hr.mkd hM (by omega)
    replace hp := hp.mkd hM (by omega)
    replace W0 := W0.mkd hM (by omega)
    replace G0 := G0.mkd hM (by omega)
    obtain ⟨La, qLa⟩ := La.mkd hM (by omega)
    obtain ⟨Lw, qLw⟩ := Lw.mkd hM (by omega)
    obtain ⟨Lx, qLx⟩ := Lx.mkd hM (by omega)
    obtain ⟨Lg, qLg⟩ := Lg.mkd hM (by omega)
    replace P0 := ho
    clear hM
    clear ho
    clear P0
    go_wp2_with fail
    refine (eqCipher_c v1 x1 t1 A7 A4 _ c7 c4 l1 _ ((G0.rd.mono (by omega)).up (by repeat (first | with_reducible exact Below.refl _ _ | with_reducible assumption | refine Below.alloc ?_ (by first | omega | (simp; done) | (simp; omega)) _ | refine Below.setCell ?_ (by first | omega | (simp; done) | (simp; omega)) _ | refine Below.drew ?_ | refine below_drewN ?_ _ | exact Below.refl _ _ | assumption))) ((W0.rd.mono (by omega)).up (by repeat (first | with_reducible exact Below.refl _ _ | with_reducible assumption | refine Below.alloc ?_ (by first | omega | (simp; done) | (simp; omega)) _ | refine Below.setCell ?_ (by first | omega | (simp; done) | (simp; omega)) _ | refine Below.drew ?_ | refine below_drewN ?_ _ | exact Below.refl _ _ | assumption)))).mono ?_
    rintro e w15 ⟨rfl, hb⟩
    have hT : Below w14.heap.size w14 w15 := then_ (by repeat (first | with_reducible exact Below.refl _ _ | with_reducible assumption | refine Below.alloc ?_ (by first | omega | (simp; done) | (simp; omega)) _ | refine Below.setCell ?_ (by first | omega | (simp; done) | (simp; omega)) _ | refine Below.drew ?_ | refine below_drewN ?_ _ | exact Below.refl _ _ | assumption)) hb (by first | omega | (simp; done) | (simp; omega))
    have s15 : w14.heap.size + 0 ≤ w15.heap.size := by have := hb.size; (try simp at this); omega
    replace hB := then_ hB hT hB.size
    replace hr := hr.below hT (by omega)
    replace hp := hp.below hT (by omega)
    replace W0 := W0.below hT (by omega)
    replace G0 := G0.below hT (by omega)
    obtain ⟨La, qLa, _, _⟩ := La.step hT
    obtain ⟨Lw, qLw, _, _⟩ := Lw.step hT
    obtain ⟨Lx, qLx, _, _⟩ := Lx.step hT
    obtain ⟨Lg, qLg, _, _⟩ := Lg.step hT
    clear hb hT
    go_wp2_with fail
    refine (markCipher_m v1 x1 t1 A7 _ c7 l1 _ _ _ 1 G0 (by omega) (by omega) (by omega) (by omega)).mono ?_
    rintro e w16 ⟨rfl, ho, hM⟩
    have s16 : w15.heap.size + 0 ≤ w16.heap.size := hM.size
    replace hB := hB.trans (hM.below (by omega) (by omega))
    replace hr := hr.mkd hM (by omega)
    replace hp := hp.mkd hM (by omega)
    replace W0 := W0.mkd hM (by omega)
    obtain ⟨La, qLa⟩ := La.mkd hM (by omega)
    obtain ⟨Lw, qLw⟩ := Lw.mkd hM (by omega)
    obtain ⟨Lx, qLx⟩ := Lx.mkd hM (by omega)
    obtain ⟨Lg, qLg⟩ := Lg.mkd hM (by omega)
    replace G0 := ho
    clear hM
    clear ho
    go_wp2_with fail
    refine (heldCipher_c v1 x1 t1 A7 _ c7 _ _ 1 G0.rd (by omega) (by omega) (by omega) (by omega)).mono ?_
    rintro e w17 ⟨rfl, hb⟩
    have hT : Below w16.heap.size w16 w17 := then_ (by repeat (first | with_reducible exact Below.refl _ _ | with_reducible assumption | refine Below.alloc ?_ (by first | omega | (simp; done) | (simp; omega)) _ | refine Below.setCell ?_ (by first | omega | (simp; done) | (simp; omega)) _ | refine Below.drew ?_ | refine below_drewN ?_ _ | exact Below.refl _ _ | assumption)) hb (by first | omega | (simp; done) | (simp; omega))
    have s17 : w16.heap.size + 0 ≤ w17.heap.size := by have := hb.size; (try simp at this); omega
    replace hB := then_ hB hT hB.size
    replace hr := hr.below hT (by omega)
    replace hp := hp.below hT (by omega)
    replace W0 := W0.below hT (by omega)
    replace G0 := G0.below hT (by omega)
    obtain ⟨La, qLa, _, _⟩ := La.step hT
    obtain ⟨Lw, qLw, _, _⟩ := Lw.step hT
    obtain ⟨Lx, qLx, _, _⟩ := Lx.step hT
    obtain ⟨Lg, qLg, _, _⟩ := Lg.step hT
    clear hb hT
    go_wp2_with fail
    refine (toKeyRing_c x A _ c l _ ((hr.mono (by omega)).up (by repeat (first | with_reducible exact Below.refl _ _ | with_reducible assumption | refine Below.alloc ?_ (by first | omega | (simp; done) | (simp; omega)) _ | refine Below.setCell ?_ (by first | omega | (simp; done) | (simp; omega)) _ | refine Below.drew ?_ | refine below_drewN ?_ _ | exact Below.refl _ _ | assumption))) (by omega)).mono ?_
    rintro e w18 ⟨A18, c18, rfl, hc18, ho, hb⟩
    have hT : Below w17.heap.size w17 w18 := then_ (by repeat (first | with_reducible exact Below.refl _ _ | with_reducible assumption | refine Below.alloc ?_ (by first | omega | (simp; done) | (simp; omega)) _ | refine Below.setCell ?_ (by first | omega | (simp; done) | (simp; omega)) _ | refine Below.drew ?_ | refine below_drewN ?_ _ | exact Below.refl _ _ | assumption)) hb (by first | omega | (simp; done) | (simp; omega))
    have s18 : w17.heap.size + 0 ≤ w18.heap.size := by have := hb.size; (try simp at this); omega
    replace hB := then_ hB hT hB.size
    replace hr := hr.below hT (by omega)
    replace hp := hp.below hT (by omega)
    replace W0 := W0.below hT (by omega)
    replace G0 := G0.below hT (by omega)
    obtain ⟨La, qLa, _, _⟩ := La.step hT
    obtain ⟨Lw, qLw, _, _⟩ := Lw.step hT
    obtain ⟨Lx, qLx, _, _⟩ := Lx.step hT
    obtain ⟨Lg, qLg, _, _⟩ := Lg.step hT
    clear hb hT
    have RH := (Ow.of_own ho).mono (lo' := w17.heap.size + 0) (by first | omega | (simp; done) | (simp; omega)) (Nat.le_refl _)
    clear ho
    go_wp2_with fail
    refine (toByteS_c Ap _ cp p _ ((hp.mono (by omega)).up (by repeat (first | with_reducible exact Below.refl _ _ | with_reducible assumption | refine Below.alloc ?_ (by first | omega | (simp; done) | (simp; omega)) _ | refine Below.setCell ?_ (by first | omega | (simp; done) | (simp; omega)) _ | refine Below.drew ?_ | refine below_drewN ?_ _ | exact Below.refl _ _ | assumption))) (by omega)).mono ?_
    rintro e w19 ⟨A19, c19, rfl, hc19, ho, hb⟩
    have hT : Below w18.heap.size w18 w19 := then_ (by repeat (first | with_reducible exact Below.refl _ _ | with_reducible assumption | refine Below.alloc ?_ (by first | omega | (simp; done) | (simp; omega)) _ | refine Below.setCell ?_ (by first | omega | (simp; done) | (simp; omega)) _ | refine Below.drew ?_ | refine below_drewN ?_ _ | exact Below.refl _ _ | assumption)) hb (by first | omega | (simp; done) | (simp; omega))
    have s19 : w18.heap.size + 0 ≤ w19.heap.size := by have := hb.size; (try simp at this); omega
    replace hB := then_ hB hT hB.size
    replace hr := hr.below hT (by omega)
    replace hp := hp.below hT (by omega)
    replace W0 := W0.below hT (by omega)
    replace G0 := G0.below hT (by omega)
    replace RH := RH.below hT (by omega)
    obtain ⟨La, qLa, _, _⟩ := La.step hT
    obtain ⟨Lw, qLw, _, _⟩ := Lw.step hT
    obtain ⟨Lx, qLx, _, _⟩ := Lx.step hT
    obtain ⟨Lg, qLg, _, _⟩ := Lg.step hT
    clear hb hT
    have PH := (Ow.of_own ho).mono (lo' := w18.heap.size + 0) (by first | omega | (simp; done) | (simp; omega)) (Nat.le_refl _)
    clear ho
    go_wp2_with fail
    refine (CI.out A18 c18 A19 c19 _ ((RH.rd.mono (by omega)).up (by repeat (first | with_reducible exact Below.refl _ _ | with_reducible assumption | refine Below.alloc ?_ (by first | omega | (simp; done) | (simp; omega)) _ | refine Below.setCell ?_ (by first | omega | (simp; done) | (simp; omega)) _ | refine Below.drew ?_ | refine below_drewN ?_ _ | exact Below.refl _ _ | assumption))) ((PH.rd.mono (by omega)).up (by repeat (first | with_reducible exact Below.refl _ _ | with_reducible assumption | refine Below.alloc ?_ (by first | omega | (simp; done) | (simp; omega)) _ | refine Below.setCell ?_ (by first | omega | (simp; done) | (simp; omega)) _ | refine Below.drew ?_ | refine below_drewN ?_ _ | exact Below.refl _ _ | assumption)))).mono ?_
    rintro e w20 ⟨AI, cI, rfl, hcI, ho, hb⟩
    have hT : Below w19.heap.size w19 w20 := then_ (by repeat (first | with_reducible exact Below.refl _ _ | with_reducible assumption | refine Below.alloc ?_ (by first | omega | (simp; done) | (simp; omega)) _ | refine Below.setCell ?_ (by first | omega | (simp; done) | (simp; omega)) _ | refine Below.drew ?_ | refine below_drewN ?_ _ | exact Below.refl _ _ | assumption)) hb (by first | omega | (simp; done) | (simp; omega))
    have s20 : w19.heap.size + 0 ≤ w20.heap.size := by have := hb.size; (try simp at this); omega
    replace hB := then_ hB hT hB.size
    replace hr := hr.below hT (by omega)
    replace hp := hp.below hT (by omega)
    replace W0 := W0.below hT (by omega)
    replace G0 := G0.below hT (by omega)
    replace RH := RH.below hT (by omega)
    replace PH := PH.below hT (by omega)
    obtain ⟨La, qLa, _, _⟩ := La.step hT
    obtain ⟨Lw, qLw, _, _⟩ := Lw.step hT
    obtain ⟨Lx, qLx, _, _⟩ := Lx.step hT
    obtain ⟨Lg, qLg, _, _⟩ := Lg.step hT
    clear hb hT
    have H0 := (Ow.of_own ho).mono (lo' := w19.heap.size) (by first | omega | (simp; done) | (simp; omega)) (Nat.le_refl _)
    clear ho
    clear RH
    clear PH
    go_wp2_with fail
    have Lh0 := (Blk.new w20 100 #[.int .i64 v1, .int .i64 x1, .slice AI l1.length cI, .int .i64 t1])
    refine (eqCipher_c v1 x1 t1 AI A4 _ cI c4 l1 _ ((H0.rd.mono (by omega)).up (by repeat (first | with_reducible exact Below.refl _ _ | with_reducible assumption | refine Below.alloc ?_ (by first | omega | (simp; done) | (simp; omega)) _ | refine Below.setCell ?_ (by first | omega | (simp; done) | (simp; omega)) _ | refine Below.drew ?_ | refine below_drewN ?_ _ | exact Below.refl _ _ | assumption))) ((W0.rd.mono (by omega)).up (by repeat (first | with_reducible exact Below.refl _ _ | with_reducible assumption | refine Below.alloc ?_ (by first | omega | (simp; done) | (simp; omega)) _ | refine Below.setCell ?_ (by first | omega | (simp; done) | (simp; omega)) _ | refine Below.drew ?_ | refine below_drewN ?_ _ | exact Below.refl _ _ | assumption)))).mono ?_
    rintro e w21 ⟨rfl, hb⟩
    have hT : Below w20.heap.size w20 w21 := then_ (by repeat (first | with_reducible exact Below.refl _ _ | with_reducible assumption | refine Below.alloc ?_ (by first | omega | (simp; done) | (simp; omega)) _ | refine Below.setCell ?_ (by first | omega | (simp; done) | (simp; omega)) _ | refine Below.drew ?_ | refine below_drewN ?_ _ | exact Below.refl _ _ | assumption)) hb (by first | omega | (simp; done) | (simp; omega))
    have s21 : w20.heap.size + 1 ≤ w21.heap.size := by have := hb.size; (try simp at this); omega
    replace hB := then_ hB hT hB.size
    replace hr := hr.below hT (by omega)
    replace hp := hp.below hT (by omega)
    replace W0 := W0.below hT (by omega)
    replace G0 := G0.below hT (by omega)
    replace H0 := H0.below hT (by omega)
    obtain ⟨La, qLa, _, _⟩ := La.step hT
    obtain ⟨Lw, qLw, _, _⟩ := Lw.step hT
    obtain ⟨Lx, qLx, _, _⟩ := Lx.step hT
    obtain ⟨Lg, qLg, _, _⟩ := Lg.step hT
    obtain ⟨Lh, qLh, _, _⟩ := Lh0.step hb
    clear Lh0
    clear hb hT
    clear H0
    go_wp2_with fail
    refine (heldCipher_c v1 x1 t1 A7 _ c7 _ _ 1 G0.rd (by omega) (by omega) (by omega) (by omega)).mono ?_
    rintro e w22 ⟨rfl, hb⟩
    have hT : Below w21.heap.size w21 w22 := then_ (by repeat (first | with_reducible exact Below.refl _ _ | with_reducible assumption | refine Below.alloc ?_ (by first | omega | (simp; done) | (simp; omega)) _ | refine Below.setCell ?_ (by first | omega | (simp; done) | (simp; omega)) _ | refine Below.drew ?_ | refine below_drewN ?_ _ | exact Below.refl _ _ | assumption)) hb (by first | omega | (simp; done) | (simp; omega))
    have s22 : w21.heap.size + 0 ≤ w22.heap.size := by have := hb.size; (try simp at this); omega
    replace hB := then_ hB hT hB.size
    replace hr := hr.below hT (by omega)
    replace hp := hp.below hT (by omega)
    replace W0 := W0.below hT (by omega)
    replace G0 := G0.below hT (by omega)
    obtain ⟨La, qLa, _, _⟩ := La.step hT
    obtain ⟨Lw, qLw, _, _⟩ := Lw.step hT
    obtain ⟨Lx, qLx, _, _⟩ := Lx.step hT
    obtain ⟨Lg, qLg, _, _⟩ := Lg.step hT
    obtain ⟨Lh, qLh, _, _⟩ := Lh.step hT
    clear hb hT
    go_wp2_with fail
    go_ret
    exact ⟨rfl, hB⟩
  · go_enter Try.func25, Try.ntmps25
    go_wp2_with fail
    refine (szKeyRing_no x A _ c 1048576 _ (by omega) (by omega) (by omega) hbd).mono ?_
    rintro e w1 ⟨rfl, hb1⟩
    have hb01 : Below w.heap.size w w1 := then_ (by repeat (first | with_reducible exact Below.refl _ _ | with_reducible assumption | refine Below.alloc ?_ (by first | omega | (simp; done) | (simp; omega)) _ | refine Below.setCell ?_ (by first | omega | (simp; done) | (simp; omega)) _ | refine Below.drew ?_ | refine below_drewN ?_ _ | exact Below.refl _ _ | assumption)) hb1 (by first | omega | (simp; done) | (simp; omega))
    go_wp2_with fail
    go_ret
    exact ⟨rfl, hb01⟩
end Go.Proofs.Ytmebpmaldcogbaa
