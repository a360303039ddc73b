/- What RuleFor gives, in the program and in its reference; each contract says for which arguments. -/
import Derived.Test.YtmjmjloiblbhcaaDoorC7
namespace Go.Proofs.YtmjmjloiblbhcaaDoor
open Go.RowKit
set_option maxRecDepth 100000
set_option maxHeartbeats 400000
theorem RuleFor_i (nm : ByteArray) (A : Option Addr) (c : Nat) (l : List Rl) (p : ByteArray) (w : World) (hg : GM w) (hr : Rd w w.heap.size 2 A l.length (rC l)) (hz : ∀ x ∈ l, x.1.size < 4294967281) (hp : p.size < 4294967281) :
    Calls Tryd.prog 27 #[.agg #[.string nm, .slice A l.length c], .string p] w (RetRl (rfA nm l p) w) := by
  have HR : Hid (rfA nm l p = if polB nm l && pathB p then ruleA l p l.length else noRule) := rfl
  generalize rfA nm l p = R at HR ⊢
  have C1 := hide fun (W : World) (hb : Below w.heap.size w W) => isPolicy_c nm A c l W (hg.up hb) (hr.up hb) hz
  have C2 := hide fun (W : World) (hb : Below w.heap.size w W) => isPath_c p W (hg.up hb) hp
  have C3 := hide fun (W : World) (hb : Below w.heap.size w W) => ruleFor_c nm A c l p W (hg.up hb) (hr.up hb) hz hp
  have hb0 : Below w.heap.size w ((w.alloc (.cells #[.string nm, .slice A l.length c] 26)).alloc (.cells #[.string ⟨#[]⟩, .int .i64 0] 53)) := (by repeat (first | with_reducible exact Below.refl _ _ | with_reducible assumption | refine Below.alloc ?_ (by first | omega | (simp; done) | (simp; omega)) _ | refine Below.setCell ?_ (by first | omega | (simp; done) | (simp; omega)) _ | refine Below.drew ?_ | refine below_drewN ?_ _ | exact Below.refl _ _ | assumption))
  have L0 := (Blk.new w 26 #[.string nm, .slice A l.length c]).alloc (.cells #[.string ⟨#[]⟩, .int .i64 0] 53)
  have L1 := Blk.new1 w (.cells #[.string nm, .slice A l.length c] 26) 53 #[.string ⟨#[]⟩, .int .i64 0]
  cases hpo : polB nm l
  · have HQ : Hid (R = noRule) := by show R = _; rw [HR.out, hpo]; rfl
    rw [hpo] at C1
    clear hpo
    go_enter Tryd.func27, Tryd.ntmps27
    go_wp2_with fail
    refine (C1.out _ hb0).mono ?_
    rintro e w1 ⟨rfl, hb1⟩
    have hB1 := then_ hb0 hb1 (by simp; omega)
    obtain ⟨L1, q1, f1, h1⟩ := L1.step hb1
    clear hb1 hb0 L0 L1
    have HB1 := hide hB1
    clear hB1
    go_wp2_with fail
    refine bodyPost_ret (v := .tuple #[.agg #[.string ⟨#[]⟩, .int .i64 0], .bool false]) (by simp [results, Tryd.results27, go_sem, q1]) rfl ?_
    rw [HQ.out]
    exact ⟨rfl, (HB1.out.setCell (by simp) _).setCell (by simp) _⟩
  cases hpa : pathB p
  · have HQ : Hid (R = noRule) := by show R = _; rw [HR.out, hpo, hpa]; rfl
    rw [hpo] at C1
    rw [hpa] at C2
    clear hpo hpa
    go_enter Tryd.func27, Tryd.ntmps27
    go_wp2_with fail
    refine (C1.out _ hb0).mono ?_
    rintro e w1 ⟨rfl, hb1⟩
    have hB1 := then_ hb0 hb1 (by simp; omega)
    obtain ⟨L1, q1, f1, h1⟩ := L1.step hb1
    clear hb1 hb0 L0
    go_wp2_with fail
    refine (C2.out _ hB1).mono ?_
    rintro e w2 ⟨rfl, hb2⟩
    have hB2 := then_ hB1 hb2 hB1.size
    obtain ⟨L1, q1, f1, h1⟩ := L1.step hb2
    clear hb2 hB1 L1
    have HB2 := hide hB2
    clear hB2
    go_wp2_with fail
    refine bodyPost_ret (v := .tuple #[.agg #[.string ⟨#[]⟩, .int .i64 0], .bool false]) (by simp [results, Tryd.results27, go_sem, q1]) rfl ?_
    rw [HQ.out]
    exact ⟨rfl, (HB2.out.setCell (by simp) _).setCell (by simp) _⟩
  have HQ : Hid (R = ruleA l p l.length) := by show R = _; rw [HR.out, hpo, hpa]; rfl
  rw [hpo] at C1
  rw [hpa] at C2
  clear hpo hpa
  generalize ruleA l p l.length = st at C3 HQ
  obtain ⟨⟨g0, x0⟩, fd⟩ := st
  go_enter Tryd.func27, Tryd.ntmps27
  go_wp2_with fail
  refine (C1.out _ hb0).mono ?_
  rintro e w1 ⟨rfl, hb1⟩
  have hB1 := then_ hb0 hb1 (by simp; omega)
  obtain ⟨L1, q1, f1, h1⟩ := L1.step hb1
  obtain ⟨L0, q0, _, _⟩ := L0.step hb1
  clear hb1 hb0
  go_wp2_with fail
  refine (C2.out _ hB1).mono ?_
  rintro e w2 ⟨rfl, hb2⟩
  have hB2 := then_ hB1 hb2 hB1.size
  obtain ⟨L1, q1, f1, h1⟩ := L1.step hb2
  obtain ⟨L0, q0, _, _⟩ := L0.step hb2
  clear hb2 hB1
  go_wp2_with fail
  refine (C3.out _ hB2).mono ?_
  rintro e w3 ⟨rfl, hb3⟩
  have hB3 := then_ hB2 hb3 hB2.size
  obtain ⟨L1, q1, f1, h1⟩ := L1.step hb3
  clear hb3 hB2 L1 L0 q0
  have HB3 := hide hB3
  clear hB3
  go_wp2_with fail
  refine bodyPost_ret (v := .tuple #[.agg #[.string g0, .int .i64 x0], .bool fd]) (by simp [results, Tryd.results27, go_sem, q1]) rfl ?_
  rw [HQ.out]
  exact ⟨rfl, (HB3.out.setCell (by simp) _).setCell (by simp) _⟩
theorem RuleFor_s (nm : ByteArray) (A : Option Addr) (c : Nat) (l : List Rl) (p : ByteArray) (w : World) (hr : Rd w w.heap.size 2 A l.length (rC l)) (hz : ∀ x ∈ l, x.1.size < 4294967281) (hp : p.size < 4294967281) (hnm : nm.size ≤ 9223372036854775806) :
    Calls Tryd.prog 26 #[.agg #[.string nm, .slice A l.length c], .string p] w (RetRl (rfA nm l p) w) := by
  have HR : Hid (rfA nm l p = if polB nm l && pathB p then ruleA l p l.length else noRule) := rfl
  generalize rfA nm l p = R at HR ⊢
  have C1 := hide fun (W : World) (hb : Below w.heap.size w W) => PolicyOk_s nm A c l W (hr.up hb) hz hnm
  have C2 := hide fun (W : World) (hb : Below w.heap.size w W) => PathOk_s p W hp
  have hb0 : Below w.heap.size w ((w.alloc (.cells #[.string nm, .slice A l.length c] 26)).alloc (.cells #[.string ⟨#[]⟩, .int .i64 0] 53)) := (by repeat (first | with_reducible exact Below.refl _ _ | with_reducible assumption | refine Below.alloc ?_ (by first | omega | (simp; done) | (simp; omega)) _ | refine Below.setCell ?_ (by first | omega | (simp; done) | (simp; omega)) _ | refine Below.drew ?_ | refine below_drewN ?_ _ | exact Below.refl _ _ | assumption))
  have L0 := (Blk.new w 26 #[.string nm, .slice A l.length c]).alloc (.cells #[.string ⟨#[]⟩, .int .i64 0] 53)
  have L1 := Blk.new1 w (.cells #[.string nm, .slice A l.length c] 26) 53 #[.string ⟨#[]⟩, .int .i64 0]
  cases hpo : polB nm l
  · have HQ : Hid (R = noRule) := by show R = _; rw [HR.out, hpo]; rfl
    rw [hpo] at C1
    clear hpo
    go_enter Tryd.func26, Tryd.ntmps26
    go_wp2_with fail
    refine (C1.out _ hb0).mono ?_
    rintro e w1 ⟨rfl, hb1⟩
    have hB1 := then_ hb0 hb1 (by simp; omega)
    obtain ⟨L1, q1, f1, h1⟩ := L1.step hb1
    clear hb1 hb0 L0 L1
    have HB1 := hide hB1
    clear hB1
    go_wp2_with fail
    refine bodyPost_ret (v := .tuple #[.agg #[.string ⟨#[]⟩, .int .i64 0], .bool false]) (by simp [results, Tryd.results26, go_sem, q1]) rfl ?_
    rw [HQ.out]
    exact ⟨rfl, (HB1.out.setCell (by simp) _).setCell (by simp) _⟩
  cases hpa : pathB p
  · have HQ : Hid (R = noRule) := by show R = _; rw [HR.out, hpo, hpa]; rfl
    rw [hpo] at C1
    rw [hpa] at C2
    clear hpo hpa
    go_enter Tryd.func26, Tryd.ntmps26
    go_wp2_with fail
    refine (C1.out _ hb0).mono ?_
    rintro e w1 ⟨rfl, hb1⟩
    have hB1 := then_ hb0 hb1 (by simp; omega)
    obtain ⟨L1, q1, f1, h1⟩ := L1.step hb1
    clear hb1 hb0 L0
    go_wp2_with fail
    refine (C2.out _ hB1).mono ?_
    rintro e w2 ⟨rfl, hb2⟩
    have hB2 := then_ hB1 hb2 hB1.size
    obtain ⟨L1, q1, f1, h1⟩ := L1.step hb2
    clear hb2 hB1 L1
    have HB2 := hide hB2
    clear hB2
    go_wp2_with fail
    refine bodyPost_ret (v := .tuple #[.agg #[.string ⟨#[]⟩, .int .i64 0], .bool false]) (by simp [results, Tryd.results26, go_sem, q1]) rfl ?_
    rw [HQ.out]
    exact ⟨rfl, (HB2.out.setCell (by simp) _).setCell (by simp) _⟩
  have HQ : Hid (R = ruleA l p l.length) := by show R = _; rw [HR.out, hpo, hpa]; rfl
  have HPG : Hid (∀ x ∈ l, globB x.1 = true) := fun x hx => pol_glob hpo hx
  have HPA := hide hpa
  have hn := hr.bd
  rw [hpo] at C1
  rw [hpa] at C2
  clear hpo hpa HR
  go_enter Tryd.func26, Tryd.ntmps26
  go_wp2_with fail
  refine (C1.out _ hb0).mono ?_
  rintro e w1 ⟨rfl, hb1⟩
  have hB1 := then_ hb0 hb1 (by simp; omega)
  obtain ⟨L1, q1, f1, h1⟩ := L1.step hb1
  obtain ⟨L0, q0, _, _⟩ := L0.step hb1
  clear hb1 hb0
  go_wp2_with fail
  refine (C2.out _ hB1).mono ?_
  rintro e w2 ⟨rfl, hb2⟩
  have hB2 := then_ hB1 hb2 hB1.size
  obtain ⟨L1, q1, f1, h1⟩ := L1.step hb2
  obtain ⟨L0, q0, _, _⟩ := L0.step hb2
  clear hb2 hB1
  go_wp2_with fail
  go_loopw [7, 8] (fun fv iv wr => ∃ k : Nat, k ≤ l.length ∧ iv = .int .i64 k ∧ fv = .bool (ruleA l p k).2 ∧ Below w.heap.size w wr ∧ Blk wr w.heap.size 26 #[.string nm, .slice A l.length c] ∧ Blk wr (w.heap.size + 1) 53 #[.string ⟨#[]⟩, .int .i64 0] ∧ Blk wr w2.heap.size 53 #[.string (ruleA l p k).1.1, .int .i64 (ruleA l p k).1.2]) (fun _ iv _ => l.length - (intOf iv).toNat)
  case atStart => exact ⟨0, by omega, rfl, rfl, hB2.alloc (by have := hB2.size; omega) _, L0.alloc _, L1.alloc _, Blk.new _ _ _⟩
  case round =>
    obtain ⟨k, hk, rfl, rfl, hb, hb0, hb1, hb2⟩ := hrel
    have hz2 : w2.heap.size < wr.heap.size := hb2.lt
    have hw2 : w.heap.size + 1 < w2.heap.size := h1
    have HB := hide hb
    have qb := hb0.cell 1
    clear L0 L1 q0 q1 f1 hB2
    by_cases hlt : k < l.length
    · obtain ⟨b, off, rfl, hblt, hl, hc0, hc1⟩ := (hr.below hb (Nat.le_refl _)).rule hlt
      have hzk := hz _ (List.getElem_mem hl)
      have HT := hide (ruleA_take (p := p) hl)
      have HK := hide (ruleA_keep (p := p) hl)
      have hMG : matchB l[k].1 p = coversB l[k].1 p := by unfold matchB; rw [HPA.out]; rfl
      have HTK : Hid (takesR p (ruleA l p k) l[k] = (coversB l[k].1 p && (!(ruleA l p k).2 || decide (0 < cmpA l[k].1 (ruleA l p k).1.1)))) := rfl
      have hbest : (ruleA l p k).1.1.size < 4294967281 := by
        cases hf : (ruleA l p k).2
        · rw [ruleA_none l p k hk hf]; decide
        · exact hz _ (ruleA_mem l p k hk hf)
      have hgb : (ruleA l p k).2 = true → cmpG l[k].1 (ruleA l p k).1.1 = cmpA l[k].1 (ruleA l p k).1.1 := fun hf => by
        unfold cmpG; rw [HPG.out _ (List.getElem_mem hl), HPG.out _ (ruleA_mem l p k hk hf)]; rfl
      have hCV := hide fun (z : After wr.heap.size wr) => MatchGlob_s l[k].1 p z.w hzk hp
      have hCC := hide fun (z : After wr.heap.size wr) => CompareGlob_s l[k].1 (ruleA l p k).1.1 z.w hzk hbest
      rw [hMG] at hCV
      have r0 : ∀ z : After wr.heap.size wr, z.w.cell? ⟨b, off + k * 2, none⟩ = some (.string l[k].1) := fun z => z.cell hc0 (by omega)
      have r2 : ∀ z : After wr.heap.size wr, z.w.cell? ⟨w.heap.size, 1, none⟩ = some (.slice (some ⟨b, off, none⟩) l.length c) := fun z => z.cell (hb0.cell 1) (by omega)
      have r3 : ∀ z : After wr.heap.size wr, z.w.cell? ⟨w2.heap.size, 0, none⟩ = some (.string (ruleA l p k).1.1) := fun z => z.cell (hb2.cell 0) (by omega)
      generalize ruleA l p k = st at HT HK HTK hCC hbest hgb hb2 r3 ⊢
      obtain ⟨⟨g0, x0⟩, fd⟩ := st
      have r3' : ∀ z : After wr.heap.size wr, z.w.cell? ⟨w2.heap.size, 0, none⟩ = some (.string g0) := r3
      clear r3 hMG
      cases hcv : coversB l[k].1 p
      · have HN := hide (HK.out (by rw [HTK.out, hcv]; rfl))
        rw [hcv] at hCV
        clear hcv HT HK HTK hgb hCC
        go_wp2_with fail
        refine wp_region_after wr.heap.size (by kernel_rfl) (by kernel_rfl) ?_
        repeat (go_big_quiet_step ((go_at_call 53; exact after_of (Nat.le_refl _) (hCV.out _))))
        refine wpQuiet_nil ?_
        rintro w5 ⟨x_w5, e_w5⟩
        have hb5 := x_w5.below
        rw [← e_w5] at hb5
        clear e_w5 x_w5
        have n0 := hb0.below hb5 (by omega)
        have n1 := hb1.below hb5 (by omega)
        have n2 := hb2.below hb5 (by omega)
        have hB5 := then_ HB.out hb5 HB.out.size
        clear hb0 hb1 hb2 r0 r2 r3' qb
        go_wp2_with fail
        refine ⟨⟨k + 1, by omega, by go_num, ?_, hB5, n0, n1, ?_⟩, by simp [intOf]; omega⟩
        · rw [HN.out]
        · rw [HN.out]; exact n2
      cases fd
      · have HN := hide (HT.out (by rw [HTK.out, hcv]; rfl))
        rw [hcv] at hCV
        clear hcv HT HK HTK hgb hCC
        go_wp2_with fail
        refine wp_region_after wr.heap.size (by kernel_rfl) (by kernel_rfl) ?_
        repeat (go_big_quiet_step ((go_at_call 53; exact after_of (Nat.le_refl _) (hCV.out _))))
        refine wpQuiet_nil ?_
        rintro w5 ⟨x_w5, e_w5⟩
        have hb5 := x_w5.below
        rw [← e_w5] at hb5
        clear e_w5 x_w5
        have n0 := hb0.below hb5 (by omega)
        have n1 := hb1.below hb5 (by omega)
        have n2 := hb2.below hb5 (by omega)
        have hB5 := then_ HB.out hb5 HB.out.size
        have q1 := n0.cell 1
        have q2 := n2.cell
        have f2 := n2.frozen
        have c0 := cell_oldB hc0 hb5 (by omega)
        have c1 := cell_oldB hc1 hb5 (by omega)
        have N0 := hide n0
        have N1 := hide n1
        have N2 := hide n2
        have HB5 := hide hB5
        clear hb0 hb1 hb2 r0 r2 r3' qb n0 n1 n2 hB5 hc0 hc1 hb5
        go_wp2_with fail
        refine ⟨⟨k + 1, by omega, by go_num, ?_, (HB5.out.setCell (by simp; omega) _).setCell (by simp; omega) _, (N0.out.far (by simp; omega) _).far (by simp; omega) _, (N1.out.far (by simp; omega) _).far (by simp; omega) _, ?_⟩, by simp [intOf]; omega⟩
        · rw [HN.out]
        · rw [HN.out]; exact N2.out.set2
      · have hgb' := hgb rfl
        rw [hgb'] at hCC
        cases hcc : decide (0 < cmpA l[k].1 g0)
        · have HN := hide (HK.out (by rw [HTK.out, hcv, hcc]; rfl))
          rw [hcv] at hCV
          clear hcv HT HK HTK hgb hgb'
          generalize cmpA l[k].1 g0 = X at hCC hcc
          go_wp2_with fail
          refine wp_region_after wr.heap.size (by kernel_rfl) (by kernel_rfl) ?_
          repeat (go_big_quiet_step (first | (go_at_call 53; exact after_of (Nat.le_refl _) (hCV.out _)) | (go_at_call 54; exact after_of (Nat.le_refl _) (hCC.out _))))
          refine wpQuiet_nil ?_
          rintro w5 ⟨x_w5, e_w5⟩
          have hb5 := x_w5.below
          rw [← e_w5] at hb5
          clear e_w5 x_w5
          have n0 := hb0.below hb5 (by omega)
          have n1 := hb1.below hb5 (by omega)
          have n2 := hb2.below hb5 (by omega)
          have hB5 := then_ HB.out hb5 HB.out.size
          clear hb0 hb1 hb2 r0 r2 r3' qb
          go_wp2_with fail
          refine ⟨⟨k + 1, by omega, by go_num, ?_, hB5, n0, n1, ?_⟩, by simp [intOf]; omega⟩
          · rw [HN.out]
          · rw [HN.out]; exact n2
        · have HN := hide (HT.out (by rw [HTK.out, hcv, hcc]; rfl))
          rw [hcv] at hCV
          clear hcv HT HK HTK hgb hgb'
          generalize cmpA l[k].1 g0 = X at hCC hcc
          have hcn : 0 < X := of_decide_eq_true hcc
          go_wp2_with fail
          refine wp_region_after wr.heap.size (by kernel_rfl) (by kernel_rfl) ?_
          repeat (go_big_quiet_step (first | (go_at_call 53; exact after_of (Nat.le_refl _) (hCV.out _)) | (go_at_call 54; exact after_of (Nat.le_refl _) (hCC.out _))))
          refine wpQuiet_nil ?_
          rintro w5 ⟨x_w5, e_w5⟩
          have hb5 := x_w5.below
          rw [← e_w5] at hb5
          clear e_w5 x_w5
          have n0 := hb0.below hb5 (by omega)
          have n1 := hb1.below hb5 (by omega)
          have n2 := hb2.below hb5 (by omega)
          have hB5 := then_ HB.out hb5 HB.out.size
          have q1 := n0.cell 1
          have q2 := n2.cell
          have f2 := n2.frozen
          have c0 := cell_oldB hc0 hb5 (by omega)
          have c1 := cell_oldB hc1 hb5 (by omega)
          have N0 := hide n0
          have N1 := hide n1
          have N2 := hide n2
          have HB5 := hide hB5
          clear hb0 hb1 hb2 r0 r2 r3' qb n0 n1 n2 hB5 hc0 hc1 hb5
          go_wp2_with fail
          refine ⟨⟨k + 1, by omega, by go_num, ?_, (HB5.out.setCell (by simp; omega) _).setCell (by simp; omega) _, (N0.out.far (by simp; omega) _).far (by simp; omega) _, (N1.out.far (by simp; omega) _).far (by simp; omega) _, ?_⟩, by simp [intOf]; omega⟩
          · rw [HN.out]
          · rw [HN.out]; exact N2.out.set2
    · obtain rfl : k = l.length := by omega
      rw [← HQ.out] at hb2 ⊢
      obtain ⟨⟨g0, x0⟩, fd⟩ := R
      have q1 := hb1.cell
      have f1 := hb1.frozen
      have q2 := hb2.cell
      have f2 := hb2.frozen
      clear hb hb0 hb1 hb2
      go_wp2_with fail
      refine bodyPost_ret (v := .tuple #[.agg #[.string g0, .int .i64 x0], .bool fd]) (by simp [results, Tryd.results26, go_sem, q1]) rfl ?_
      exact ⟨rfl, (HB.out.setCell (by simp) _).setCell (by simp) _⟩
end Go.Proofs.YtmjmjloiblbhcaaDoor
