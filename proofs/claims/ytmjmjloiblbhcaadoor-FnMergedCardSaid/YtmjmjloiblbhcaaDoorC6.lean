/- What the tests of policies give, in the program and in its reference; each contract says for which arguments. -/
import Derived.Test.YtmjmjloiblbhcaaDoorC5
namespace Go.Proofs.YtmjmjloiblbhcaaDoor
open Go.RowKit
set_option maxRecDepth 100000
set_option maxHeartbeats 400000
theorem PolicyOk_s (nm : ByteArray) (A : Option Addr) (c : Nat) (l : List Rl) (w : World) (hr : Rd w w.heap.size 2 A l.length (rC l)) (hz : ∀ x ∈ l, x.1.size < 4294967281) (hnm : nm.size ≤ 9223372036854775806) :
    Calls Tryd.prog 8 #[.agg #[.string nm, .slice A l.length c]] w (RetV (.bool (polB nm l)) w) := by
  have hn := hr.bd
  have HBAD : Hid (∀ k, k < l.length → ruleOk l k = false → polB nm l = false) := fun k hk h => polB_bad hk h
  have HEND : Hid ((∀ k, k < l.length → ruleOk l k = true) → polB nm l = (nameB nm && decide (l.length ≤ 20))) := polB_all
  have HNM : Hid (nameB nm = false → polB nm l = false) := polB_name
  have HLG : Hid (20 < l.length → polB nm l = false) := polB_long
  generalize polB nm l = R at HBAD HEND HNM HLG ⊢
  have hN := hide fun w => l01Name_c nm w hnm
  cases hnb : nameB nm
  · have HQ := hide (HNM.out hnb)
    rw [hnb] at hN
    clear hnb
    go_enter Tryd.func8, Tryd.ntmps8
    go_wp2_with fail
    refine (hN.out _).mono ?_
    rintro e w' ⟨rfl, rfl⟩
    go_wp2_with fail
    go_ret
    exact ⟨by rw [HQ.out]; rfl, (by repeat (first | with_reducible exact Below.refl _ _ | with_reducible assumption | refine Below.alloc ?_ (by first | omega | (simp; done) | (simp; omega)) _ | refine Below.setCell ?_ (by first | omega | (simp; done) | (simp; omega)) _ | refine Below.drew ?_ | refine below_drewN ?_ _ | exact Below.refl _ _ | assumption))⟩
  rw [hnb] at hN HEND
  clear hnb HNM
  by_cases h20 : 20 < l.length
  · have HQ := hide (HLG.out h20)
    go_enter Tryd.func8, Tryd.ntmps8
    go_wp2_with fail
    refine (hN.out _).mono ?_
    rintro e w' ⟨rfl, rfl⟩
    go_wp2_with fail
    go_ret
    exact ⟨by rw [HQ.out]; rfl, (by repeat (first | with_reducible exact Below.refl _ _ | with_reducible assumption | refine Below.alloc ?_ (by first | omega | (simp; done) | (simp; omega)) _ | refine Below.setCell ?_ (by first | omega | (simp; done) | (simp; omega)) _ | refine Below.drew ?_ | refine below_drewN ?_ _ | exact Below.refl _ _ | assumption))⟩
  go_enter Tryd.func8, Tryd.ntmps8
  go_wp2_with fail
  refine (hN.out _).mono ?_
  rintro e w' ⟨rfl, rfl⟩
  go_wp2_with fail
  go_loopw [3] (fun iv wr => ∃ k : Nat, k ≤ l.length ∧ iv = .int .i64 k ∧ Below w.heap.size w wr ∧ Blk wr w.heap.size 26 #[.string nm, .slice A l.length c] ∧ ∀ j, j < k → ruleOk l j = true) (fun iv _ => l.length - (intOf iv).toNat)
  case atStart => exact ⟨0, by omega, rfl, (by repeat (first | with_reducible exact Below.refl _ _ | with_reducible assumption | refine Below.alloc ?_ (by first | omega | (simp; done) | (simp; omega)) _ | refine Below.setCell ?_ (by first | omega | (simp; done) | (simp; omega)) _ | refine Below.drew ?_ | refine below_drewN ?_ _ | exact Below.refl _ _ | assumption)), Blk.new _ _ _, fun j hj => by omega⟩
  case round =>
    obtain ⟨k, hk, rfl, hb, hbx, hne⟩ := hrel
    have HNE := hide hne
    clear hne
    have hbw : w.heap.size < wr.heap.size := hbx.lt
    have hcb1 := hbx.cell 1
    by_cases hlt : k < l.length
    · obtain ⟨b, off, rfl, hblt, hl, hc0, hc1⟩ := (hr.below hb (Nat.le_refl _)).rule hlt
      have HNX : Hid (ruleOk l k = true → ∀ j, j < k + 1 → ruleOk l j = true) := fun h j hj => by
        by_cases e : j = k
        · subst e; exact h
        · exact HNE.out j (by omega)
      have q0 : ∀ z : After wr.heap.size wr, z.w.cell? ⟨b, off + k * 2, none⟩ = some (.string l[k].1) := fun z => z.cell hc0 (by omega)
      have q1 : ∀ z : After wr.heap.size wr, z.w.cell? ⟨b, off + k * 2 + 1, none⟩ = some (.int .i64 l[k].2) := fun z => z.cell hc1 (by omega)
      have q2 : ∀ z : After wr.heap.size wr, z.w.cell? ⟨w.heap.size, 1, none⟩ = some (.slice (some ⟨b, off, none⟩) l.length c) := fun z => z.cell (hbx.cell 1) (by omega)
      have HGB : Hid (∀ z : After wr.heap.size wr, Calls Tryd.prog 30 #[.string l[k].1] z.w (RetV (.bool (globB l[k].1)) z.w)) := fun z => GlobOk_s _ _ (hz _ (List.getElem_mem hl))
      have HW : Hid (∀ z : After wr.heap.size wr, Calls Tryd.prog 31 #[.int .i64 l[k].2, .int .i64 0, .int .i64 63] z.w (Pure (.bool (inB l[k].2 0 63)) z.w)) := fun z => l01In_c _ _ _ _
      cases hgb : globB l[k].1
      · have HQ := hide (HBAD.out k hlt (ruleOk_glob hl hgb))
        rw [hgb] at HGB
        clear hgb
        go_wp2_with fail
        refine wp_region_after wr.heap.size (by kernel_rfl) (by kernel_rfl) ?_
        repeat (go_big_quiet_step (first | (go_at_call 30; exact after_of (Nat.le_refl _) (HGB.out _)) | (go_at_call 31; exact after_pure (HW.out _))))
        refine wpQuiet_nil ?_
        rintro w5 ⟨x_w5, e_w5⟩
        have hb5 := x_w5.below
        rw [← e_w5] at hb5
        clear e_w5 x_w5
        go_wp2_with fail
        go_ret
        exact ⟨by rw [HQ.out]; rfl, hb.trans (hb5.mono (by omega))⟩
      cases hin : inB l[k].2 0 63
      · have HQ := hide (HBAD.out k hlt (ruleOk_caps hl hin))
        rw [hgb] at HGB
        rw [hin] at HW
        clear hgb hin
        go_wp2_with fail
        refine wp_region_after wr.heap.size (by kernel_rfl) (by kernel_rfl) ?_
        repeat (go_big_quiet_step (first | (go_at_call 30; exact after_of (Nat.le_refl _) (HGB.out _)) | (go_at_call 31; exact after_pure (HW.out _))))
        refine wpQuiet_nil ?_
        rintro w5 ⟨x_w5, e_w5⟩
        have hb5 := x_w5.below
        rw [← e_w5] at hb5
        clear e_w5 x_w5
        go_wp2_with fail
        go_ret
        exact ⟨by rw [HQ.out]; rfl, hb.trans (hb5.mono (by omega))⟩
      by_cases h0 : 0 < k
      · obtain ⟨m, rfl⟩ : ∃ m, k = m + 1 := ⟨k - 1, by omega⟩
        obtain ⟨b2, off2, e2, hblt2, hl2, hc02, hc12⟩ := (hr.below hb (Nat.le_refl _)).rule (k := m) (by omega)
        cases e2
        have q3 : ∀ z : After wr.heap.size wr, z.w.cell? ⟨b, off + m * 2, none⟩ = some (.string l[m].1) := fun z => z.cell hc02 (by omega)
        have HR := hide (ruleOk_succ (rs := l) hl)
        cases hlt3 : ltB l[m].1 l[m + 1].1
        · have HQ := hide (HBAD.out (m + 1) hlt (by rw [HR.out, hgb, hin, hlt3]; rfl))
          have hlt4 : Op.bytesLess l[m].1.toList l[m + 1].1.toList = false := hlt3
          rw [hgb] at HGB
          rw [hin] at HW
          clear hgb hin hlt3
          go_wp2_with fail
          refine wp_region_after wr.heap.size (by kernel_rfl) (by kernel_rfl) ?_
          repeat (go_big_quiet_step (first | (go_at_call 30; exact after_of (Nat.le_refl _) (HGB.out _)) | (go_at_call 31; exact after_pure (HW.out _))))
          refine wpQuiet_nil ?_
          rintro w5 ⟨x_w5, e_w5⟩
          have hb5 := x_w5.below
          rw [← e_w5] at hb5
          clear e_w5 x_w5
          go_wp2_with fail
          go_ret
          exact ⟨by rw [HQ.out]; rfl, hb.trans (hb5.mono (by omega))⟩
        · have HN := hide (HNX.out (by rw [HR.out, hgb, hin, hlt3]; rfl))
          have hlt4 : Op.bytesLess l[m].1.toList l[m + 1].1.toList = true := hlt3
          rw [hgb] at HGB
          rw [hin] at HW
          clear hgb hin hlt3
          go_wp2_with fail
          refine wp_region_after wr.heap.size (by kernel_rfl) (by kernel_rfl) ?_
          repeat (go_big_quiet_step (first | (go_at_call 30; exact after_of (Nat.le_refl _) (HGB.out _)) | (go_at_call 31; exact after_pure (HW.out _))))
          refine wpQuiet_nil ?_
          rintro w5 ⟨x_w5, e_w5⟩
          have hb5 := x_w5.below
          rw [← e_w5] at hb5
          clear e_w5 x_w5
          go_wp2_with fail
          exact ⟨⟨m + 1 + 1, by omega, by go_num, hb.trans (hb5.mono (by omega)), hbx.below hb5 (by omega), HN.out⟩, by simp [intOf]; omega⟩
      · have HN := hide (HNX.out (by
          have e : k = 0 := by omega
          subst e
          rw [ruleOk_zero hl, hgb, hin]; rfl))
        have hk0 : decide (0 < k) = false := decide_eq_false h0
        rw [hgb] at HGB
        rw [hin] at HW
        clear hgb hin
        go_wp2_with fail
        refine wp_region_after wr.heap.size (by kernel_rfl) (by kernel_rfl) ?_
        repeat (go_big_quiet_step (first | (go_at_call 30; exact after_of (Nat.le_refl _) (HGB.out _)) | (go_at_call 31; exact after_pure (HW.out _))))
        refine wpQuiet_nil ?_
        rintro w5 ⟨x_w5, e_w5⟩
        have hb5 := x_w5.below
        rw [← e_w5] at hb5
        clear e_w5 x_w5
        go_wp2_with fail
        exact ⟨⟨k + 1, by omega, by go_num, hb.trans (hb5.mono (by omega)), hbx.below hb5 (by omega), HN.out⟩, by simp [intOf]; omega⟩
    · have HQ : Hid (R = true) := by
        show R = true
        rw [HEND.out fun j hj => HNE.out j (by omega), decide_eq_true (show l.length ≤ 20 from by omega)]; rfl
      go_wp2_with fail
      go_ret
      exact ⟨by rw [HQ.out]; rfl, hb⟩
end Go.Proofs.YtmjmjloiblbhcaaDoor
