/- Walk of the law on the validity of seals: it returns true. -/
import Derived.Test.YtmebpmaldcogbaaA22
import Derived.Deep.RegionHeld3
namespace Go.Proofs.Ytmebpmaldcogbaa
open Go.RowKit Gf
set_option maxRecDepth 100000
set_option maxHeartbeats 1000000
theorem fnExactSealOk_walk (x s : Int) (A : Option Addr) (n c : Nat) (ss : List Sh) (w : World) (_hx : (Lit.int .i64 x).wf = true ∧ (Lit.int .i64 s).wf = true) (hr : ShR w w.heap.size A n ss) (_hnc : n ≤ c) :
    Calls Try.prog 17 #[.agg #[.int .i64 x, .int .i64 s, .slice A n c]] w (RetV (.bool true) w) := by
  clear _hx _hnc
  by_cases hn : cntS ss ≤ 1048576
  · have hln := hr.1
    subst hln
    have hcl := cnt_len ss
    have hdl : ∀ k (h : k < ss.length), ss[k].2.length ≤ 1048576 := by
      intro k h
      have h1 := cntS_take_succ h
      have h2 := cntS_take_le ss (k + 1)
      omega
    have HDL := hide hdl
    clear hdl
    have hB : Below w.heap.size w w := Below.refl _ _
    go_enter Try.func17, Try.ntmps17
    go_wp2_with fail
    have La0 := (Blk.new w 70 #[.int .i64 x, .int .i64 s, .slice A ss.length c])
    refine (szSeal_ok x s A _ c ss 1048576 _ ((hr.mono (by omega)).up (by repeat (first | with_reducible exact Below.refl _ _ | with_reducible assumption | refine Below.alloc ?_ (by first | omega | (simp; done) | (simp; omega)) _ | refine Below.setCell ?_ (by first | omega | (simp; done) | (simp; omega)) _ | refine Below.drew ?_ | refine below_drewN ?_ _ | exact Below.refl _ _ | assumption))) (by omega) (by omega)).mono ?_
    rintro e w1 ⟨rfl, hb⟩
    have hT : Below w.heap.size w w1 := then_ (by repeat (first | with_reducible exact Below.refl _ _ | with_reducible assumption | refine Below.alloc ?_ (by first | omega | (simp; done) | (simp; omega)) _ | refine Below.setCell ?_ (by first | omega | (simp; done) | (simp; omega)) _ | refine Below.drew ?_ | refine below_drewN ?_ _ | exact Below.refl _ _ | assumption)) hb (by first | omega | (simp; done) | (simp; omega))
    have s1 : w.heap.size + 1 ≤ w1.heap.size := by have := hb.size; (try simp at this); omega
    replace hB := then_ hB hT hB.size
    replace hr := hr.below hT (by omega)
    obtain ⟨La, qLa, _, _⟩ := La0.step hb
    clear La0
    clear hb hT
    go_wp2_with fail
    refine (toSeal_c x s A _ c ss _ ((hr.mono (by omega)).up (by repeat (first | with_reducible exact Below.refl _ _ | with_reducible assumption | refine Below.alloc ?_ (by first | omega | (simp; done) | (simp; omega)) _ | refine Below.setCell ?_ (by first | omega | (simp; done) | (simp; omega)) _ | refine Below.drew ?_ | refine below_drewN ?_ _ | exact Below.refl _ _ | assumption))) (by omega) HDL.out).mono ?_
    rintro e w2 ⟨A2, c2, hs2, rfl, hc2, ho, hb⟩
    have hT : Below w1.heap.size w1 w2 := then_ (by repeat (first | with_reducible exact Below.refl _ _ | with_reducible assumption | refine Below.alloc ?_ (by first | omega | (simp; done) | (simp; omega)) _ | refine Below.setCell ?_ (by first | omega | (simp; done) | (simp; omega)) _ | refine Below.drew ?_ | refine below_drewN ?_ _ | exact Below.refl _ _ | assumption)) hb (by first | omega | (simp; done) | (simp; omega))
    have s2 : w1.heap.size + 0 ≤ w2.heap.size := by have := hb.size; (try simp at this); omega
    replace hB := then_ hB hT hB.size
    replace hr := hr.below hT (by omega)
    obtain ⟨La, qLa, _, _⟩ := La.step hT
    clear hb hT
    have r2 := (ShO.w ho).mono (lo' := w1.heap.size + 0) (by first | omega | (simp; done) | (simp; omega)) (Nat.le_refl _)
    clear ho
    go_wp2_with fail
    refine (SealOk_s x s A2 _ c2 ss _ ((r2.rd.mono (by omega)).up (by repeat (first | with_reducible exact Below.refl _ _ | with_reducible assumption | refine Below.alloc ?_ (by first | omega | (simp; done) | (simp; omega)) _ | refine Below.setCell ?_ (by first | omega | (simp; done) | (simp; omega)) _ | refine Below.drew ?_ | refine below_drewN ?_ _ | exact Below.refl _ _ | assumption)))).mono ?_
    rintro e w3 ⟨rfl, hb⟩
    have hT : Below w2.heap.size w2 w3 := then_ (by repeat (first | with_reducible exact Below.refl _ _ | with_reducible assumption | refine Below.alloc ?_ (by first | omega | (simp; done) | (simp; omega)) _ | refine Below.setCell ?_ (by first | omega | (simp; done) | (simp; omega)) _ | refine Below.drew ?_ | refine below_drewN ?_ _ | exact Below.refl _ _ | assumption)) hb (by first | omega | (simp; done) | (simp; omega))
    have s3 : w2.heap.size + 0 ≤ w3.heap.size := by have := hb.size; (try simp at this); omega
    replace hB := then_ hB hT hB.size
    replace hr := hr.below hT (by omega)
    replace r2 := r2.below hT (by omega)
    obtain ⟨La, qLa, _, _⟩ := La.step hT
    clear hb hT
    clear r2
    go_wp2_with fail
    refine (toSeal_c x s A _ c ss _ ((hr.mono (by omega)).up (by repeat (first | with_reducible exact Below.refl _ _ | with_reducible assumption | refine Below.alloc ?_ (by first | omega | (simp; done) | (simp; omega)) _ | refine Below.setCell ?_ (by first | omega | (simp; done) | (simp; omega)) _ | refine Below.drew ?_ | refine below_drewN ?_ _ | exact Below.refl _ _ | assumption))) (by omega) HDL.out).mono ?_
    rintro e w4 ⟨A4, c4, hs4, rfl, hc4, ho, hb⟩
    have hT : Below w3.heap.size w3 w4 := then_ (by repeat (first | with_reducible exact Below.refl _ _ | with_reducible assumption | refine Below.alloc ?_ (by first | omega | (simp; done) | (simp; omega)) _ | refine Below.setCell ?_ (by first | omega | (simp; done) | (simp; omega)) _ | refine Below.drew ?_ | refine below_drewN ?_ _ | exact Below.refl _ _ | assumption)) hb (by first | omega | (simp; done) | (simp; omega))
    have s4 : w3.heap.size + 0 ≤ w4.heap.size := by have := hb.size; (try simp at this); omega
    replace hB := then_ hB hT hB.size
    replace hr := hr.below hT (by omega)
    obtain ⟨La, qLa, _, _⟩ := La.step hT
    clear hb hT
    have X0 := (ShO.w ho).mono (lo' := w3.heap.size + 0) (by first | omega | (simp; done) | (simp; omega)) (Nat.le_refl _)
    clear ho
    go_wp2_with fail
    have Lx0 := (Blk.new w4 74 #[.int .i64 x, .int .i64 s, .slice A4 ss.length c4])
    refine (SealOk_i x s A4 _ c4 ss _ ((X0.rd.mono (by omega)).up (by repeat (first | with_reducible exact Below.refl _ _ | with_reducible assumption | refine Below.alloc ?_ (by first | omega | (simp; done) | (simp; omega)) _ | refine Below.setCell ?_ (by first | omega | (simp; done) | (simp; omega)) _ | refine Below.drew ?_ | refine below_drewN ?_ _ | exact Below.refl _ _ | assumption))) hc4).mono ?_
    rintro e w5 ⟨rfl, hb⟩
    have hT : Below w4.heap.size w4 w5 := then_ (by repeat (first | with_reducible exact Below.refl _ _ | with_reducible assumption | refine Below.alloc ?_ (by first | omega | (simp; done) | (simp; omega)) _ | refine Below.setCell ?_ (by first | omega | (simp; done) | (simp; omega)) _ | refine Below.drew ?_ | refine below_drewN ?_ _ | exact Below.refl _ _ | assumption)) hb (by first | omega | (simp; done) | (simp; omega))
    have s5 : w4.heap.size + 1 ≤ w5.heap.size := by have := hb.size; (try simp at this); omega
    replace hB := then_ hB hT hB.size
    replace hr := hr.below hT (by omega)
    replace X0 := X0.below hT (by omega)
    obtain ⟨La, qLa, _, _⟩ := La.step hT
    obtain ⟨Lx, qLx, _, _⟩ := Lx0.step hb
    clear Lx0
    clear hb hT
    go_wp2_with fail
    replace hB := hB.drew
    replace hr := hr.drew
    replace X0 := X0.drew
    replace La := La.drew
    replace Lx := Lx.drew
    go_region_held3 (fun w' => w'.cell? ⟨w.heap.size, 0, none⟩ = some (.int .i64 x) ∧ w'.cell? ⟨w.heap.size, 1, none⟩ = some (.int .i64 s) ∧ w'.cell? ⟨w.heap.size, 2, none⟩ = some (.slice A ss.length c) ∧ w'.cell? ⟨w4.heap.size, 0, none⟩ = some (.int .i64 x) ∧ w'.cell? ⟨w4.heap.size, 1, none⟩ = some (.int .i64 s) ∧ w'.cell? ⟨w4.heap.size, 2, none⟩ = some (.slice A4 ss.length c4)) (exact ⟨La.cell 0, La.cell 1, La.cell 2, Lx.cell 0, Lx.cell 1, Lx.cell 2⟩) (first | (go_at_call 73; refine (toSeal_c x s A _ c ss _ (hr.mono (by first | omega | (simp; omega))) (by omega) HDL.out).mono ?_; rintro e w6 ⟨A6, c6, hs6, rfl, hc6, ho, hb⟩; have s6 : w5.heap.size + 0 ≤ w6.heap.size := hb.size; replace hB := then_ hB hb hB.size; replace hr := hr.below hb (by first | omega | (simp; omega)); replace X0 := X0.below hb (by first | omega | (simp; omega)); obtain ⟨La, qLa, _, _⟩ := La.step hb; obtain ⟨Lx, qLx, _, _⟩ := Lx.step hb; clear hb; have R7 := ShO.w ho) | (go_at_call 75; refine (eqSeal_c x s A4 A6 _ c4 c6 ss _ (X0.rd.mono (by first | omega | (simp; omega))) (R7.rd.mono (by first | omega | (simp; omega)))).mono ?_; rintro e w7 ⟨rfl, hb⟩; have s7 : w6.heap.size + 0 ≤ w7.heap.size := hb.size; replace hB := then_ hB hb hB.size; replace hr := hr.below hb (by first | omega | (simp; omega)); replace X0 := X0.below hb (by first | omega | (simp; omega)); replace R7 := R7.below hb (by first | omega | (simp; omega)); obtain ⟨La, qLa, _, _⟩ := La.step hb; obtain ⟨Lx, qLx, _, _⟩ := Lx.step hb; clear hb))
    go_wp2_with fail
    go_ret
    exact ⟨rfl, hB⟩
  · go_enter Try.func17, Try.ntmps17
    go_wp2_with fail
    refine (szSeal_no x s A n c ss 1048576 _ (hr.up (by repeat (first | with_reducible exact Below.refl _ _ | with_reducible assumption | refine Below.alloc ?_ (by first | omega | (simp; done) | (simp; omega)) _ | refine Below.setCell ?_ (by first | omega | (simp; done) | (simp; omega)) _ | refine Below.drew ?_ | refine below_drewN ?_ _ | exact Below.refl _ _ | assumption))) (by omega) (by omega) (by omega)).mono ?_
    rintro e w1 ⟨rfl, hb1⟩
    have hb01 : Below w.heap.size w w1 := then_ (by repeat (first | with_reducible exact Below.refl _ _ | with_reducible assumption | refine Below.alloc ?_ (by first | omega | (simp; done) | (simp; omega)) _ | refine Below.setCell ?_ (by first | omega | (simp; done) | (simp; omega)) _ | refine Below.drew ?_ | refine below_drewN ?_ _ | exact Below.refl _ _ | assumption)) hb1 (by first | omega | (simp; done) | (simp; omega))
    go_wp2_with fail
    go_ret
    exact ⟨rfl, hb01⟩
end Go.Proofs.Ytmebpmaldcogbaa
