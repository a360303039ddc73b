/- Walks of the laws on key rings that are rotated: each returns true. -/
import Derived.Test.YtmebpmaldcogbaaA32
import Derived.Test.YtmebpmaldcogbaaA13
import Derived.Deep.RegionHeld3
namespace Go.Proofs.Ytmebpmaldcogbaa
open Go.RowKit Gf
set_option maxRecDepth 100000
set_option maxHeartbeats 1000000
theorem fnExactRotateRing_walk (x : Int) (A : Option Addr) (n c : Nat) (l : List Int) (fr : Int) (w : World) (_hx : (Lit.int .i64 x).wf = true ∧ ∀ y ∈ l, (Lit.int .i64 y).wf = true) (hr : Rd w w.heap.size 1 A n (iC l)) (_hf : (Lit.int .i64 fr).wf = true) :
    Calls Try.prog 16 #[.agg #[.int .i64 x, .slice A n c], .int .i64 fr] w (RetV (.bool true) w) := by
  clear _hx _hf
  have hbd := hr.bd
  by_cases hn : n ≤ 1048576
  · have hln := hr.in_
    subst hln
    have cs : ∀ (A : Option Addr) (c : Nat) (w : World), l.length ≤ c → Rd w w.heap.size 1 A l.length (iC l) → Calls Try.prog 69 #[.agg #[.int .i64 x, .slice A l.length c], .int .i64 fr] w (RetRing2 (roX x l fr) (roL x l fr) (roOk x l fr) w) := fun A c w hc hr => RotateRing_s x fr A _ c l w hr (by omega)
    have ci : ∀ (A : Option Addr) (c : Nat) (w : World), Rd w w.heap.size 1 A l.length (iC l) → Calls Try.prog 70 #[.agg #[.int .i64 x, .slice A l.length c], .int .i64 fr] w (RetRing2 (roX x l fr) (roL x l fr) (roOk x l fr) w) := fun A c w hr => RotateRing_i x fr A _ c l w hr (by omega)
    have hm : (roL x l fr).length ≤ l.length + 1 := roL_len x fr l
    generalize (roX x l fr) = x1 at cs ci
    generalize (roL x l fr) = l1 at cs ci hm
    generalize (roOk x l fr) = t1 at cs ci
    have CS := hide cs
    have CI := hide ci
    clear cs ci
    have hB : Below w.heap.size w w := Below.refl _ _
    go_enter Try.func16, Try.ntmps16
    go_wp2_with fail
    have La0 := (Blk.new w 55 #[.int .i64 x, .slice A l.length c])
    refine (szKeyRing_ok x A _ c 1048576 _ (by omega) (by omega)).mono ?_
    rintro e w1 ⟨rfl, hb⟩
    have hT : Below w.heap.size w w1 := then_ (by repeat (first | with_reducible exact Below.refl _ _ | with_reducible assumption | refine Below.alloc ?_ (by first | omega | (simp; done) | (simp; omega)) _ | refine Below.setCell ?_ (by first | omega | (simp; done) | (simp; omega)) _ | refine Below.drew ?_ | refine below_drewN ?_ _ | exact Below.refl _ _ | assumption)) hb (by first | omega | (simp; done) | (simp; omega))
    have s1 : w.heap.size + 1 ≤ w1.heap.size := by have := hb.size; (try simp at this); omega
    replace hB := then_ hB hT hB.size
    replace hr := hr.below hT (by omega)
    obtain ⟨La, qLa, _, _⟩ := La0.step hb
    clear La0
    clear hb hT
    go_wp2_with fail
    refine (toKeyRing_c x A _ c l _ ((hr.mono (by omega)).up (by repeat (first | with_reducible exact Below.refl _ _ | with_reducible assumption | refine Below.alloc ?_ (by first | omega | (simp; done) | (simp; omega)) _ | refine Below.setCell ?_ (by first | omega | (simp; done) | (simp; omega)) _ | refine Below.drew ?_ | refine below_drewN ?_ _ | exact Below.refl _ _ | assumption))) (by omega)).mono ?_
    rintro e w2 ⟨A2, c2, rfl, hc2, ho, hb⟩
    have hT : Below w1.heap.size w1 w2 := then_ (by repeat (first | with_reducible exact Below.refl _ _ | with_reducible assumption | refine Below.alloc ?_ (by first | omega | (simp; done) | (simp; omega)) _ | refine Below.setCell ?_ (by first | omega | (simp; done) | (simp; omega)) _ | refine Below.drew ?_ | refine below_drewN ?_ _ | exact Below.refl _ _ | assumption)) hb (by first | omega | (simp; done) | (simp; omega))
    have s2 : w1.heap.size + 0 ≤ w2.heap.size := by have := hb.size; (try simp at this); omega
    replace hB := then_ hB hT hB.size
    replace hr := hr.below hT (by omega)
    obtain ⟨La, qLa, _, _⟩ := La.step hT
    clear hb hT
    have r2 := (Ow.of_own ho).mono (lo' := w1.heap.size) (by first | omega | (simp; done) | (simp; omega)) (Nat.le_refl _)
    clear ho
    go_wp2_with fail
    refine (CS.out A2 c2 _ hc2 ((r2.rd.mono (by omega)).up (by repeat (first | with_reducible exact Below.refl _ _ | with_reducible assumption | refine Below.alloc ?_ (by first | omega | (simp; done) | (simp; omega)) _ | refine Below.setCell ?_ (by first | omega | (simp; done) | (simp; omega)) _ | refine Below.drew ?_ | refine below_drewN ?_ _ | exact Below.refl _ _ | assumption)))).mono ?_
    rintro e w3 ⟨A3, c3, rfl, hc3, o3, hb⟩
    have hT : Below w2.heap.size w2 w3 := then_ (by repeat (first | with_reducible exact Below.refl _ _ | with_reducible assumption | refine Below.alloc ?_ (by first | omega | (simp; done) | (simp; omega)) _ | refine Below.setCell ?_ (by first | omega | (simp; done) | (simp; omega)) _ | refine Below.drew ?_ | refine below_drewN ?_ _ | exact Below.refl _ _ | assumption)) hb (by first | omega | (simp; done) | (simp; omega))
    have s3 : w2.heap.size + 0 ≤ w3.heap.size := by have := hb.size; (try simp at this); omega
    replace hB := then_ hB hT hB.size
    replace hr := hr.below hT (by omega)
    replace r2 := r2.below hT (by omega)
    obtain ⟨La, qLa, _, _⟩ := La.step hT
    clear hb hT
    have W0 := o3
    clear o3
    clear r2
    go_wp2_with fail
    have Lw0 := (Blk.new w3 58 #[.int .i64 x1, .slice A3 l1.length c3])
    refine (toKeyRing_c x A _ c l _ ((hr.mono (by omega)).up (by repeat (first | with_reducible exact Below.refl _ _ | with_reducible assumption | refine Below.alloc ?_ (by first | omega | (simp; done) | (simp; omega)) _ | refine Below.setCell ?_ (by first | omega | (simp; done) | (simp; omega)) _ | refine Below.drew ?_ | refine below_drewN ?_ _ | exact Below.refl _ _ | assumption))) (by omega)).mono ?_
    rintro e w4 ⟨A4, c4, rfl, hc4, ho, hb⟩
    have hT : Below w3.heap.size w3 w4 := then_ (by repeat (first | with_reducible exact Below.refl _ _ | with_reducible assumption | refine Below.alloc ?_ (by first | omega | (simp; done) | (simp; omega)) _ | refine Below.setCell ?_ (by first | omega | (simp; done) | (simp; omega)) _ | refine Below.drew ?_ | refine below_drewN ?_ _ | exact Below.refl _ _ | assumption)) hb (by first | omega | (simp; done) | (simp; omega))
    have s4 : w3.heap.size + 1 ≤ w4.heap.size := by have := hb.size; (try simp at this); omega
    replace hB := then_ hB hT hB.size
    replace hr := hr.below hT (by omega)
    replace W0 := W0.below hT (by omega)
    obtain ⟨La, qLa, _, _⟩ := La.step hT
    obtain ⟨Lw, qLw, _, _⟩ := Lw0.step hb
    clear Lw0
    clear hb hT
    have X0 := (Ow.of_own ho).mono (lo' := w3.heap.size + 1) (by simp) (Nat.le_refl _)
    clear ho
    go_wp2_with fail
    have Lx0 := (Blk.new w4 58 #[.int .i64 x, .slice A4 l.length c4])
    refine (CI.out A4 c4 _ ((X0.rd.mono (by omega)).up (by repeat (first | with_reducible exact Below.refl _ _ | with_reducible assumption | refine Below.alloc ?_ (by first | omega | (simp; done) | (simp; omega)) _ | refine Below.setCell ?_ (by first | omega | (simp; done) | (simp; omega)) _ | refine Below.drew ?_ | refine below_drewN ?_ _ | exact Below.refl _ _ | assumption)))).mono ?_
    rintro e w5 ⟨A5, c5, rfl, hc5, o5, hb⟩
    have hT : Below w4.heap.size w4 w5 := then_ (by repeat (first | with_reducible exact Below.refl _ _ | with_reducible assumption | refine Below.alloc ?_ (by first | omega | (simp; done) | (simp; omega)) _ | refine Below.setCell ?_ (by first | omega | (simp; done) | (simp; omega)) _ | refine Below.drew ?_ | refine below_drewN ?_ _ | exact Below.refl _ _ | assumption)) hb (by first | omega | (simp; done) | (simp; omega))
    have s5 : w4.heap.size + 1 ≤ w5.heap.size := by have := hb.size; (try simp at this); omega
    replace hB := then_ hB hT hB.size
    replace hr := hr.below hT (by omega)
    replace W0 := W0.below hT (by omega)
    replace X0 := X0.below hT (by omega)
    obtain ⟨La, qLa, _, _⟩ := La.step hT
    obtain ⟨Lw, qLw, _, _⟩ := Lw.step hT
    obtain ⟨Lx, qLx, _, _⟩ := Lx0.step hb
    clear Lx0
    clear hb hT
    have G0 := o5.mono (lo' := w4.heap.size + 1) (by simp) (Nat.le_refl _)
    clear o5
    go_wp2_with fail
    have Lg0 := (Blk.new w5 58 #[.int .i64 x1, .slice A5 l1.length c5])
    refine (eqKeyRing_c x1 A5 A3 _ c5 c3 l1 _ ((G0.rd.mono (by omega)).up (by repeat (first | with_reducible exact Below.refl _ _ | with_reducible assumption | refine Below.alloc ?_ (by first | omega | (simp; done) | (simp; omega)) _ | refine Below.setCell ?_ (by first | omega | (simp; done) | (simp; omega)) _ | refine Below.drew ?_ | refine below_drewN ?_ _ | exact Below.refl _ _ | assumption))) ((W0.rd.mono (by omega)).up (by repeat (first | with_reducible exact Below.refl _ _ | with_reducible assumption | refine Below.alloc ?_ (by first | omega | (simp; done) | (simp; omega)) _ | refine Below.setCell ?_ (by first | omega | (simp; done) | (simp; omega)) _ | refine Below.drew ?_ | refine below_drewN ?_ _ | exact Below.refl _ _ | assumption)))).mono ?_
    rintro e w6 ⟨rfl, hb⟩
    have hT : Below w5.heap.size w5 w6 := then_ (by repeat (first | with_reducible exact Below.refl _ _ | with_reducible assumption | refine Below.alloc ?_ (by first | omega | (simp; done) | (simp; omega)) _ | refine Below.setCell ?_ (by first | omega | (simp; done) | (simp; omega)) _ | refine Below.drew ?_ | refine below_drewN ?_ _ | exact Below.refl _ _ | assumption)) hb (by first | omega | (simp; done) | (simp; omega))
    have s6 : w5.heap.size + 1 ≤ w6.heap.size := by have := hb.size; (try simp at this); omega
    replace hB := then_ hB hT hB.size
    replace hr := hr.below hT (by omega)
    replace W0 := W0.below hT (by omega)
    replace X0 := X0.below hT (by omega)
    replace G0 := G0.below hT (by omega)
    obtain ⟨La, qLa, _, _⟩ := La.step hT
    obtain ⟨Lw, qLw, _, _⟩ := Lw.step hT
    obtain ⟨Lx, qLx, _, _⟩ := Lx.step hT
    obtain ⟨Lg, qLg, _, _⟩ := Lg0.step hb
    clear Lg0
    clear hb hT
    go_wp2_with fail
    replace hB := hB.drew
    replace hr := hr.drew
    replace W0 := W0.drew
    replace X0 := X0.drew
    replace G0 := G0.drew
    replace La := La.drew
    replace Lw := Lw.drew
    replace Lx := Lx.drew
    replace Lg := Lg.drew
    go_region_held3 (fun w' => w'.cell? ⟨w.heap.size, 0, none⟩ = some (.int .i64 x) ∧ w'.cell? ⟨w.heap.size, 1, none⟩ = some (.slice A l.length c) ∧ w'.cell? ⟨w4.heap.size, 0, none⟩ = some (.int .i64 x) ∧ w'.cell? ⟨w4.heap.size, 1, none⟩ = some (.slice A4 l.length c4)) (exact ⟨La.cell 0, La.cell 1, Lx.cell 0, Lx.cell 1⟩) (first | (go_at_call 60; refine (toKeyRing_c x A _ c l _ (hr.mono (by first | omega | (simp; omega))) (by omega)).mono ?_; rintro e w7 ⟨A7, c7, rfl, hc7, ho, hb⟩; have s7 : w6.heap.size + 0 ≤ w7.heap.size := hb.size; replace hB := then_ hB hb hB.size; replace hr := hr.below hb (by first | omega | (simp; omega)); replace W0 := W0.below hb (by first | omega | (simp; omega)); replace X0 := X0.below hb (by first | omega | (simp; omega)); replace G0 := G0.below hb (by first | omega | (simp; omega)); obtain ⟨La, qLa, _, _⟩ := La.step hb; obtain ⟨Lw, qLw, _, _⟩ := Lw.step hb; obtain ⟨Lx, qLx, _, _⟩ := Lx.step hb; obtain ⟨Lg, qLg, _, _⟩ := Lg.step hb; clear hb; have R7 := Ow.of_own ho) | (go_at_call 62; refine (eqKeyRing_c x A4 A7 _ c4 c7 l _ (X0.rd.mono (by first | omega | (simp; omega))) (R7.rd.mono (by first | omega | (simp; omega)))).mono ?_; rintro e w8 ⟨rfl, hb⟩; have s8 : w7.heap.size + 0 ≤ w8.heap.size := hb.size; replace hB := then_ hB hb hB.size; replace hr := hr.below hb (by first | omega | (simp; omega)); replace W0 := W0.below hb (by first | omega | (simp; omega)); replace X0 := X0.below hb (by first | omega | (simp; omega)); replace G0 := G0.below hb (by first | omega | (simp; omega)); replace R7 := R7.below hb (by first | omega | (simp; omega)); obtain ⟨La, qLa, _, _⟩ := La.step hb; obtain ⟨Lw, qLw, _, _⟩ := Lw.step hb; obtain ⟨Lx, qLx, _, _⟩ := Lx.step hb; obtain ⟨Lg, qLg, _, _⟩ := Lg.step hb; clear hb))
    clear ho
    clear R7
    go_wp2_with fail
    refine (markKeyRing_m x A4 _ c4 l _ _ _ 1 X0 (by omega) (by omega) (by omega) (by omega)).mono ?_
    rintro e w9 ⟨rfl, ho, hM⟩
    have s9 : w8.heap.size + 0 ≤ w9.heap.size := hM.size
    replace hB := hB.trans (hM.below (by omega) (by omega))
    replace hr := hr.mkd hM (by omega)
    replace W0 := W0.mkd hM (by omega)
    replace G0 := G0.mkd hM (by omega)
    obtain ⟨La, qLa⟩ := La.mkd hM (by omega)
    obtain ⟨Lw, qLw⟩ := Lw.mkd hM (by omega)
    obtain ⟨Lx, qLx⟩ := Lx.mkd hM (by omega)
    obtain ⟨Lg, qLg⟩ := Lg.mkd hM (by omega)
    replace X0 := ho
    clear hM
    clear ho
    clear X0
    go_wp2_with fail
    refine (eqKeyRing_c x1 A5 A3 _ c5 c3 l1 _ ((G0.rd.mono (by omega)).up (by repeat (first | with_reducible exact Below.refl _ _ | with_reducible assumption | refine Below.alloc ?_ (by first | omega | (simp; done) | (simp; omega)) _ | refine Below.setCell ?_ (by first | omega | (simp; done) | (simp; omega)) _ | refine Below.drew ?_ | refine below_drewN ?_ _ | exact Below.refl _ _ | assumption))) ((W0.rd.mono (by omega)).up (by repeat (first | with_reducible exact Below.refl _ _ | with_reducible assumption | refine Below.alloc ?_ (by first | omega | (simp; done) | (simp; omega)) _ | refine Below.setCell ?_ (by first | omega | (simp; done) | (simp; omega)) _ | refine Below.drew ?_ | refine below_drewN ?_ _ | exact Below.refl _ _ | assumption)))).mono ?_
    rintro e w10 ⟨rfl, hb⟩
    have hT : Below w9.heap.size w9 w10 := then_ (by repeat (first | with_reducible exact Below.refl _ _ | with_reducible assumption | refine Below.alloc ?_ (by first | omega | (simp; done) | (simp; omega)) _ | refine Below.setCell ?_ (by first | omega | (simp; done) | (simp; omega)) _ | refine Below.drew ?_ | refine below_drewN ?_ _ | exact Below.refl _ _ | assumption)) hb (by first | omega | (simp; done) | (simp; omega))
    have s10 : w9.heap.size + 0 ≤ w10.heap.size := by have := hb.size; (try simp at this); omega
    replace hB := then_ hB hT hB.size
    replace hr := hr.below hT (by omega)
    replace W0 := W0.below hT (by omega)
    replace G0 := G0.below hT (by omega)
    obtain ⟨La, qLa, _, _⟩ := La.step hT
    obtain ⟨Lw, qLw, _, _⟩ := Lw.step hT
    obtain ⟨Lx, qLx, _, _⟩ := Lx.step hT
    obtain ⟨Lg, qLg, _, _⟩ := Lg.step hT
    clear hb hT
    go_wp2_with fail
    refine (markKeyRing_m x1 A5 _ c5 l1 _ _ _ 1 G0 (by omega) (by omega) (by omega) (by omega)).mono ?_
    rintro e w11 ⟨rfl, ho, hM⟩
    have s11 : w10.heap.size + 0 ≤ w11.heap.size := hM.size
    replace hB := hB.trans (hM.below (by omega) (by omega))
    replace hr := hr.mkd hM (by omega)
    replace W0 := W0.mkd hM (by omega)
    obtain ⟨La, qLa⟩ := La.mkd hM (by omega)
    obtain ⟨Lw, qLw⟩ := Lw.mkd hM (by omega)
    obtain ⟨Lx, qLx⟩ := Lx.mkd hM (by omega)
    obtain ⟨Lg, qLg⟩ := Lg.mkd hM (by omega)
    replace G0 := ho
    clear hM
    clear ho
    go_wp2_with fail
    refine (heldKeyRing_c x1 A5 _ c5 _ _ 1 G0.rd (by omega) (by omega) (by omega) (by omega)).mono ?_
    rintro e w12 ⟨rfl, hb⟩
    have hT : Below w11.heap.size w11 w12 := then_ (by repeat (first | with_reducible exact Below.refl _ _ | with_reducible assumption | refine Below.alloc ?_ (by first | omega | (simp; done) | (simp; omega)) _ | refine Below.setCell ?_ (by first | omega | (simp; done) | (simp; omega)) _ | refine Below.drew ?_ | refine below_drewN ?_ _ | exact Below.refl _ _ | assumption)) hb (by first | omega | (simp; done) | (simp; omega))
    have s12 : w11.heap.size + 0 ≤ w12.heap.size := by have := hb.size; (try simp at this); omega
    replace hB := then_ hB hT hB.size
    replace hr := hr.below hT (by omega)
    replace W0 := W0.below hT (by omega)
    replace G0 := G0.below hT (by omega)
    obtain ⟨La, qLa, _, _⟩ := La.step hT
    obtain ⟨Lw, qLw, _, _⟩ := Lw.step hT
    obtain ⟨Lx, qLx, _, _⟩ := Lx.step hT
    obtain ⟨Lg, qLg, _, _⟩ := Lg.step hT
    clear hb hT
    go_wp2_with fail
    refine (toKeyRing_c x A _ c l _ ((hr.mono (by omega)).up (by repeat (first | with_reducible exact Below.refl _ _ | with_reducible assumption | refine Below.alloc ?_ (by first | omega | (simp; done) | (simp; omega)) _ | refine Below.setCell ?_ (by first | omega | (simp; done) | (simp; omega)) _ | refine Below.drew ?_ | refine below_drewN ?_ _ | exact Below.refl _ _ | assumption))) (by omega)).mono ?_
    rintro e w13 ⟨AH, cH, rfl, hcH, ho, hb⟩
    have hT : Below w12.heap.size w12 w13 := then_ (by repeat (first | with_reducible exact Below.refl _ _ | with_reducible assumption | refine Below.alloc ?_ (by first | omega | (simp; done) | (simp; omega)) _ | refine Below.setCell ?_ (by first | omega | (simp; done) | (simp; omega)) _ | refine Below.drew ?_ | refine below_drewN ?_ _ | exact Below.refl _ _ | assumption)) hb (by first | omega | (simp; done) | (simp; omega))
    have s13 : w12.heap.size + 0 ≤ w13.heap.size := by have := hb.size; (try simp at this); omega
    replace hB := then_ hB hT hB.size
    replace hr := hr.below hT (by omega)
    replace W0 := W0.below hT (by omega)
    replace G0 := G0.below hT (by omega)
    obtain ⟨La, qLa, _, _⟩ := La.step hT
    obtain ⟨Lw, qLw, _, _⟩ := Lw.step hT
    obtain ⟨Lx, qLx, _, _⟩ := Lx.step hT
    obtain ⟨Lg, qLg, _, _⟩ := Lg.step hT
    clear hb hT
    have RH := Ow.of_own ho
    clear ho
    go_wp2_with fail
    refine (CI.out AH cH _ ((RH.rd.mono (by omega)).up (by repeat (first | with_reducible exact Below.refl _ _ | with_reducible assumption | refine Below.alloc ?_ (by first | omega | (simp; done) | (simp; omega)) _ | refine Below.setCell ?_ (by first | omega | (simp; done) | (simp; omega)) _ | refine Below.drew ?_ | refine below_drewN ?_ _ | exact Below.refl _ _ | assumption)))).mono ?_
    rintro e w14 ⟨AI, cI, rfl, hcI, H0, hb⟩
    have hT : Below w13.heap.size w13 w14 := then_ (by repeat (first | with_reducible exact Below.refl _ _ | with_reducible assumption | refine Below.alloc ?_ (by first | omega | (simp; done) | (simp; omega)) _ | refine Below.setCell ?_ (by first | omega | (simp; done) | (simp; omega)) _ | refine Below.drew ?_ | refine below_drewN ?_ _ | exact Below.refl _ _ | assumption)) hb (by first | omega | (simp; done) | (simp; omega))
    have s14 : w13.heap.size + 0 ≤ w14.heap.size := by have := hb.size; (try simp at this); omega
    replace hB := then_ hB hT hB.size
    replace hr := hr.below hT (by omega)
    replace W0 := W0.below hT (by omega)
    replace G0 := G0.below hT (by omega)
    replace RH := RH.below hT (by omega)
    obtain ⟨La, qLa, _, _⟩ := La.step hT
    obtain ⟨Lw, qLw, _, _⟩ := Lw.step hT
    obtain ⟨Lx, qLx, _, _⟩ := Lx.step hT
    obtain ⟨Lg, qLg, _, _⟩ := Lg.step hT
    clear hb hT
    clear RH
    go_wp2_with fail
    have Lh0 := (Blk.new w14 58 #[.int .i64 x1, .slice AI l1.length cI])
    refine (eqKeyRing_c x1 AI A3 _ cI c3 l1 _ ((H0.rd.mono (by omega)).up (by repeat (first | with_reducible exact Below.refl _ _ | with_reducible assumption | refine Below.alloc ?_ (by first | omega | (simp; done) | (simp; omega)) _ | refine Below.setCell ?_ (by first | omega | (simp; done) | (simp; omega)) _ | refine Below.drew ?_ | refine below_drewN ?_ _ | exact Below.refl _ _ | assumption))) ((W0.rd.mono (by omega)).up (by repeat (first | with_reducible exact Below.refl _ _ | with_reducible assumption | refine Below.alloc ?_ (by first | omega | (simp; done) | (simp; omega)) _ | refine Below.setCell ?_ (by first | omega | (simp; done) | (simp; omega)) _ | refine Below.drew ?_ | refine below_drewN ?_ _ | exact Below.refl _ _ | assumption)))).mono ?_
    rintro e w15 ⟨rfl, hb⟩
    have hT : Below w14.heap.size w14 w15 := then_ (by repeat (first | with_reducible exact Below.refl _ _ | with_reducible assumption | refine Below.alloc ?_ (by first | omega | (simp; done) | (simp; omega)) _ | refine Below.setCell ?_ (by first | omega | (simp; done) | (simp; omega)) _ | refine Below.drew ?_ | refine below_drewN ?_ _ | exact Below.refl _ _ | assumption)) hb (by first | omega | (simp; done) | (simp; omega))
    have s15 : w14.heap.size + 1 ≤ w15.heap.size := by have := hb.size; (try simp at this); omega
    replace hB := then_ hB hT hB.size
    replace hr := hr.below hT (by omega)
    replace W0 := W0.below hT (by omega)
    replace G0 := G0.below hT (by omega)
    replace H0 := H0.below hT (by omega)
    obtain ⟨La, qLa, _, _⟩ := La.step hT
    obtain ⟨Lw, qLw, _, _⟩ := Lw.step hT
    obtain ⟨Lx, qLx, _, _⟩ := Lx.step hT
    obtain ⟨Lg, qLg, _, _⟩ := Lg.step hT
    obtain ⟨Lh, qLh, _, _⟩ := Lh0.step hb
    clear Lh0
    clear hb hT
    clear H0
    go_wp2_with fail
    refine (heldKeyRing_c x1 A5 _ c5 _ _ 1 G0.rd (by omega) (by omega) (by omega) (by omega)).mono ?_
    rintro e w16 ⟨rfl, hb⟩
    have hT : Below w15.heap.size w15 w16 := then_ (by repeat (first | with_reducible exact Below.refl _ _ | with_reducible assumption | refine Below.alloc ?_ (by first | omega | (simp; done) | (simp; omega)) _ | refine Below.setCell ?_ (by first | omega | (simp; done) | (simp; omega)) _ | refine Below.drew ?_ | refine below_drewN ?_ _ | exact Below.refl _ _ | assumption)) hb (by first | omega | (simp; done) | (simp; omega))
    have s16 : w15.heap.size + 0 ≤ w16.heap.size := by have := hb.size; (try simp at this); omega
    replace hB := then_ hB hT hB.size
    replace hr := hr.below hT (by omega)
    replace W0 := W0.below hT (by omega)
    replace G0 := G0.below hT (by omega)
    obtain ⟨La, qLa, _, _⟩ := La.step hT
    obtain ⟨Lw, qLw, _, _⟩ := Lw.step hT
    obtain ⟨Lx, qLx, _, _⟩ := Lx.step hT
    obtain ⟨Lg, qLg, _, _⟩ := Lg.step hT
    obtain ⟨Lh, qLh, _, _⟩ := Lh.step hT
    clear hb hT
    go_wp2_with fail
    go_ret
    exact ⟨rfl, hB⟩
  · go_enter Try.func16, Try.ntmps16
    go_wp2_with fail
    refine (szKeyRing_no x A _ c 1048576 _ (by omega) (by omega) (by omega) hbd).mono ?_
    rintro e w1 ⟨rfl, hb1⟩
    have hb01 : Below w.heap.size w w1 := then_ (by repeat (first | with_reducible exact Below.refl _ _ | with_reducible assumption | refine Below.alloc ?_ (by first | omega | (simp; done) | (simp; omega)) _ | refine Below.setCell ?_ (by first | omega | (simp; done) | (simp; omega)) _ | refine Below.drew ?_ | refine below_drewN ?_ _ | exact Below.refl _ _ | assumption)) hb1 (by first | omega | (simp; done) | (simp; omega))
    go_wp2_with fail
    go_ret
    exact ⟨rfl, hb01⟩
end Go.Proofs.Ytmebpmaldcogbaa
