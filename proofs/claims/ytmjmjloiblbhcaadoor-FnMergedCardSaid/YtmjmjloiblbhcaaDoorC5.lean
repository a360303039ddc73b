/- What the program's tests of names and policies give, and those of the reference; each contract says for which arguments. -/
import Derived.Test.YtmjmjloiblbhcaaDoorB6
import Derived.Test.YtmjmjloiblbhcaaDoorC4
import Derived.Test.YtmjmjloiblbhcaaDoorQ5
namespace Go.Proofs.YtmjmjloiblbhcaaDoor
open Go.RowKit
set_option maxRecDepth 100000
set_option maxHeartbeats 400000
theorem name_in (p : ByteArray) : inB (p.size : Int) 1 12 = (decide (1 ≤ p.size) && decide (p.size ≤ 12)) := by
  unfold inB
  have h1 : decide ((1 : Int) ≤ (p.size : Int)) = decide (1 ≤ p.size) := by rw [Bool.eq_iff_iff]; simp; omega
  have h2 : decide ((p.size : Int) ≤ 12) = decide (p.size ≤ 12) := by rw [Bool.eq_iff_iff]; simp; omega
  rw [h1, h2]
theorem nameB_in (p : ByteArray) : nameB p = (inB (p.size : Int) 1 12 && allB nameByte p) := by rw [name_in]; rfl
theorem isName_c (s : ByteArray) (w : World) :
    Calls Tryd.prog 61 #[.string s] w (Pure (.bool (nameB s)) w) := by
  have HS := hide (nameB_in s)
  generalize nameB s = R at HS ⊢
  cases hin : inB (s.size : Int) 1 12
  · have HQ : Hid (R = false) := by show R = false; rw [HS.out, hin]; rfl
    have HI := hide hin
    clear hin
    go_enter Tryd.func61, Tryd.ntmps61
    go_wp2_with fail
    refine (within_c _ _ _ _).mono ?_
    rintro e w' ⟨rfl, rfl⟩
    rw [HI.out]
    go_wp2_with fail
    go_ret
    exact ⟨by rw [HQ.out]; rfl, rfl⟩
  · have hsz : s.size ≤ 9223372036854775807 := by rw [name_in] at hin; simp at hin; omega
    have HQ : Hid (R = allB nameByte s) := by show R = _; rw [HS.out, hin]; rfl
    have HI := hide hin
    have hO := hide fun w => onlyName_c s hsz w
    clear hin
    go_enter Tryd.func61, Tryd.ntmps61
    go_wp2_with fail
    refine (within_c _ _ _ _).mono ?_
    rintro e w' ⟨rfl, rfl⟩
    rw [HI.out]
    go_wp2_with fail
    refine (hO.out _).mono ?_
    rintro e w' ⟨rfl, rfl⟩
    go_wp2_with fail
    go_ret
    exact ⟨by rw [HQ.out]; rfl, rfl⟩
theorem name_cases (b : UInt8) :
    ((97 : Int) ≤ b.toNat ∧ (b.toNat : Int) ≤ 122 ∧ nameByte b = true) ∨
    (¬ (97 : Int) ≤ b.toNat ∧ (48 : Int) ≤ b.toNat ∧ (b.toNat : Int) ≤ 57 ∧ nameByte b = true) ∨
    (¬ (97 : Int) ≤ b.toNat ∧ ¬ (48 : Int) ≤ b.toNat ∧ nameByte b = false) ∨
    (¬ (97 : Int) ≤ b.toNat ∧ (48 : Int) ≤ b.toNat ∧ ¬ (b.toNat : Int) ≤ 57 ∧ nameByte b = false) ∨
    ((97 : Int) ≤ b.toNat ∧ ¬ (b.toNat : Int) ≤ 122 ∧ (48 : Int) ≤ b.toNat ∧ ¬ (b.toNat : Int) ≤ 57 ∧ nameByte b = false) := by
  have e2 : nameByte b = ((decide (97 ≤ b.toNat) && decide (b.toNat ≤ 122)) || (decide (48 ≤ b.toNat) && decide (b.toNat ≤ 57))) := rfl
  rw [e2]
  generalize b.toNat = n
  simp only [Bool.or_eq_true, Bool.and_eq_true, decide_eq_true_eq, Bool.or_eq_false_iff, Bool.and_eq_false_iff, decide_eq_false_iff_not]
  omega
theorem l01Name_c (s : ByteArray) (w : World) (hsz : s.size ≤ 9223372036854775806) :
    Calls Tryd.prog 29 #[.string s] w (Pure (.bool (nameB s)) w) := by
  have HS := hide (nameB_in s)
  generalize nameB s = R at HS ⊢
  go_enter Tryd.func29, Tryd.ntmps29
  go_wp2_with fail
  go_loop [3, 4] (fun i _ => ∃ k : Nat, k ≤ s.size ∧ i = .int .i64 k ∧ ∀ j (hj : j < s.size), j < k → nameByte s[j] = true) (fun i _ => s.size - (intOf i).toNat)
  case atStart => exact ⟨0, by omega, rfl, fun j _ hj => by omega⟩
  case round =>
    obtain ⟨k, hk, rfl, hne⟩ := hrel
    have HNE := hide hne
    clear hne
    by_cases hlt : k < s.size
    · have HNX : Hid (nameByte s[k] = true → ∀ j (hj : j < s.size), j < k + 1 → nameByte s[j] = true) := fun h j hj hjk => by
        by_cases e : j = k
        · subst e; exact h
        · exact HNE.out j hj (by omega)
      have HBAD : Hid (nameByte s[k] = false → R = false) := fun h => by rw [HS.out, allB_bad hlt h]; simp
      rcases name_cases s[k] with ⟨h1, h2, hq⟩ | ⟨h1, h2, h3, hq⟩ | ⟨h1, h2, hq⟩ | ⟨h1, h2, h3, hq⟩ | ⟨h1, h2, h3, h4, hq⟩
      · have HN := hide (HNX.out hq)
        clear hq
        go_wp2_with fail
        go_round
        case rel => exact ⟨k + 1, by omega, by go_num, HN.out⟩
        case measure => simp [intOf]; omega
      · have HN := hide (HNX.out hq)
        clear hq
        go_wp2_with fail
        go_round
        case rel => exact ⟨k + 1, by omega, by go_num, HN.out⟩
        case measure => simp [intOf]; omega
      · have HQ := hide (HBAD.out hq)
        clear hq
        go_wp2_with fail
        go_ret
        exact ⟨by rw [HQ.out]; rfl, rfl⟩
      · have HQ := hide (HBAD.out hq)
        clear hq
        go_wp2_with fail
        go_ret
        exact ⟨by rw [HQ.out]; rfl, rfl⟩
      · have HQ := hide (HBAD.out hq)
        clear hq
        go_wp2_with fail
        go_ret
        exact ⟨by rw [HQ.out]; rfl, rfl⟩
    · have HQ : Hid (R = inB (s.size : Int) 1 12) := by show R = _; rw [HS.out, allB_all fun j hj => HNE.out j hj (by omega)]; simp
      go_wp2_with fail
      refine (l01In_c _ _ _ _).mono ?_
      rintro e w' ⟨rfl, rfl⟩
      go_wp2_with fail
      go_ret
      exact ⟨by rw [HQ.out]; rfl, rfl⟩
theorem isPolicy_c (nm : ByteArray) (A : Option Addr) (c : Nat) (l : List Rl) (w : World) (hg : GM w) (hr : Rd w w.heap.size 2 A l.length (rC l)) (hz : ∀ x ∈ l, x.1.size < 4294967281) :
    Calls Tryd.prog 32 #[.agg #[.string nm, .slice A l.length c]] w (RetV (.bool (polB nm l)) w) := by
  have hn := hr.bd
  have HBAD : Hid (∀ k, k < l.length → ruleOk l k = false → polB nm l = false) := fun k hk h => polB_bad hk h
  have HEND : Hid ((∀ k, k < l.length → ruleOk l k = true) → polB nm l = (nameB nm && decide (l.length ≤ 20))) := polB_all
  generalize polB nm l = R at HBAD HEND ⊢
  go_enter Tryd.func32, Tryd.ntmps32
  go_wp2_with fail
  go_loopw [3, 4, 8] (fun _ _ iv wr => ∃ k : Nat, k ≤ l.length ∧ iv = .int .i64 k ∧ Below w.heap.size w wr ∧ Blk wr w.heap.size 26 #[.string nm, .slice A l.length c] ∧ ∀ j, j < k → ruleOk l j = true) (fun _ _ iv _ => l.length - (intOf iv).toNat)
  case atStart => exact ⟨0, by omega, rfl, (by repeat (first | with_reducible exact Below.refl _ _ | with_reducible assumption | refine Below.alloc ?_ (by first | omega | (simp; done) | (simp; omega)) _ | refine Below.setCell ?_ (by first | omega | (simp; done) | (simp; omega)) _ | refine Below.drew ?_ | refine below_drewN ?_ _ | exact Below.refl _ _ | assumption)), Blk.new _ _ _, fun j hj => by omega⟩
  case round =>
    obtain ⟨k, hk, rfl, hb, hbx, hne⟩ := hrel
    have HNE := hide hne
    clear hne
    have hbw : w.heap.size < wr.heap.size := hbx.lt
    by_cases hlt : k < l.length
    · obtain ⟨b, off, rfl, hblt, hl, hc0, hc1⟩ := (hr.below hb (Nat.le_refl _)).rule hlt
      have HNX : Hid (ruleOk l k = true → ∀ j, j < k + 1 → ruleOk l j = true) := fun h j hj => by
        by_cases e : j = k
        · subst e; exact h
        · exact HNE.out j (by omega)
      have q0 : ∀ z : After (wr.heap.size + 1) (wr.alloc (.cells #[.string l[k].1, .int .i64 l[k].2] 53)), z.w.cell? ⟨wr.heap.size, 0, none⟩ = some (.string l[k].1) := fun z => z.cell ((Blk.new wr _ _).cell 0) (by omega)
      have q1 : ∀ z : After (wr.heap.size + 1) (wr.alloc (.cells #[.string l[k].1, .int .i64 l[k].2] 53)), z.w.cell? ⟨wr.heap.size, 1, none⟩ = some (.int .i64 l[k].2) := fun z => z.cell ((Blk.new wr _ _).cell 1) (by omega)
      have q2 : ∀ z : After (wr.heap.size + 1) (wr.alloc (.cells #[.string l[k].1, .int .i64 l[k].2] 53)), z.w.cell? ⟨w.heap.size, 1, none⟩ = some (.slice (some ⟨b, off, none⟩) l.length c) := fun z => z.cell ((hbx.alloc _).cell 1) (by omega)
      have HGB : Hid (∀ z : After (wr.heap.size + 1) (wr.alloc (.cells #[.string l[k].1, .int .i64 l[k].2] 53)), Calls Tryd.prog 60 #[.string l[k].1] z.w (RetV (.bool (globB l[k].1)) z.w)) := fun z => isGlob_c _ _ (((hg.up hb).up ((Below.refl _ _).alloc (Nat.le_refl _) _)).below z.below (by have := hg.pos; omega)) (hz _ (List.getElem_mem hl))
      have HW : Hid (∀ z : After (wr.heap.size + 1) (wr.alloc (.cells #[.string l[k].1, .int .i64 l[k].2] 53)), Calls Tryd.prog 37 #[.int .i64 l[k].2, .int .i64 0, .int .i64 63] z.w (Pure (.bool (inB l[k].2 0 63)) z.w)) := fun z => within_c _ _ _ _
      cases hgb : globB l[k].1
      · have HQ := hide (HBAD.out k hlt (ruleOk_glob hl hgb))
        rw [hgb] at HGB
        clear hgb
        go_wp2_with fail
        refine wp_region_after (wr.heap.size + 1) (by kernel_rfl) (by kernel_rfl) ?_
        repeat (go_big_quiet_step (first | (go_at_call 60; exact after_of (by simp) (HGB.out _)) | (go_at_call 37; exact after_pure (HW.out _))))
        refine wpQuiet_nil ?_
        rintro w5 ⟨x_w5, e_w5⟩
        have hb5 := x_w5.below
        rw [← e_w5] at hb5
        clear e_w5 x_w5
        go_wp2_with fail
        go_ret
        exact ⟨by rw [HQ.out]; rfl, (hb.alloc (by have := hb.size; omega) _).trans (hb5.mono (by omega))⟩
      cases hin : inB l[k].2 0 63
      · have HQ := hide (HBAD.out k hlt (ruleOk_caps hl hin))
        rw [hgb] at HGB
        rw [hin] at HW
        clear hgb hin
        go_wp2_with fail
        refine wp_region_after (wr.heap.size + 1) (by kernel_rfl) (by kernel_rfl) ?_
        repeat (go_big_quiet_step (first | (go_at_call 60; exact after_of (by simp) (HGB.out _)) | (go_at_call 37; exact after_pure (HW.out _))))
        refine wpQuiet_nil ?_
        rintro w5 ⟨x_w5, e_w5⟩
        have hb5 := x_w5.below
        rw [← e_w5] at hb5
        clear e_w5 x_w5
        go_wp2_with fail
        go_ret
        exact ⟨by rw [HQ.out]; rfl, (hb.alloc (by have := hb.size; omega) _).trans (hb5.mono (by omega))⟩
      by_cases h0 : 0 < k
      · obtain ⟨m, rfl⟩ : ∃ m, k = m + 1 := ⟨k - 1, by omega⟩
        obtain ⟨b2, off2, e2, hblt2, hl2, hc02, hc12⟩ := (hr.below hb (Nat.le_refl _)).rule (k := m) (by omega)
        cases e2
        have q3 : ∀ z : After (wr.heap.size + 1) (wr.alloc (.cells #[.string l[m + 1].1, .int .i64 l[m + 1].2] 53)), z.w.cell? ⟨b, off + m * 2, none⟩ = some (.string l[m].1) := fun z => z.cell (cell_oldB hc02 ((Below.refl wr.heap.size wr).alloc (Nat.le_refl _) _) (by omega)) (by omega)
        have HR := hide (ruleOk_succ (rs := l) hl)
        cases hlt3 : ltB l[m].1 l[m + 1].1
        · have HQ := hide (HBAD.out (m + 1) hlt (by rw [HR.out, hgb, hin, hlt3]; rfl))
          have hlt4 : Op.bytesLess l[m].1.toList l[m + 1].1.toList = false := hlt3
          rw [hgb] at HGB
          rw [hin] at HW
          clear hgb hin hlt3
          go_wp2_with fail
          refine wp_region_after (wr.heap.size + 1) (by kernel_rfl) (by kernel_rfl) ?_
          repeat (go_big_quiet_step (first | (go_at_call 60; exact after_of (by simp) (HGB.out _)) | (go_at_call 37; exact after_pure (HW.out _))))
          refine wpQuiet_nil ?_
          rintro w5 ⟨x_w5, e_w5⟩
          have hb5 := x_w5.below
          rw [← e_w5] at hb5
          clear e_w5 x_w5
          go_wp2_with fail
          go_ret
          exact ⟨by rw [HQ.out]; rfl, (hb.alloc (by have := hb.size; omega) _).trans (hb5.mono (by omega))⟩
        · have HN := hide (HNX.out (by rw [HR.out, hgb, hin, hlt3]; rfl))
          have hlt4 : Op.bytesLess l[m].1.toList l[m + 1].1.toList = true := hlt3
          rw [hgb] at HGB
          rw [hin] at HW
          clear hgb hin hlt3
          go_wp2_with fail
          refine wp_region_after (wr.heap.size + 1) (by kernel_rfl) (by kernel_rfl) ?_
          repeat (go_big_quiet_step (first | (go_at_call 60; exact after_of (by simp) (HGB.out _)) | (go_at_call 37; exact after_pure (HW.out _))))
          refine wpQuiet_nil ?_
          rintro w5 ⟨x_w5, e_w5⟩
          have hb5 := x_w5.below
          rw [← e_w5] at hb5
          clear e_w5 x_w5
          go_wp2_with fail
          exact ⟨⟨m + 1 + 1, by omega, by go_num, (hb.alloc (by have := hb.size; omega) _).trans (hb5.mono (by omega)), (hbx.alloc _).below hb5 (by omega), HN.out⟩, by simp [intOf]; omega⟩
      · have HN := hide (HNX.out (by
          have e : k = 0 := by omega
          subst e
          rw [ruleOk_zero hl, hgb, hin]; rfl))
        have hk0 : decide (0 < k) = false := decide_eq_false h0
        rw [hgb] at HGB
        rw [hin] at HW
        clear hgb hin
        go_wp2_with fail
        refine wp_region_after (wr.heap.size + 1) (by kernel_rfl) (by kernel_rfl) ?_
        repeat (go_big_quiet_step (first | (go_at_call 60; exact after_of (by simp) (HGB.out _)) | (go_at_call 37; exact after_pure (HW.out _))))
        refine wpQuiet_nil ?_
        rintro w5 ⟨x_w5, e_w5⟩
        have hb5 := x_w5.below
        rw [← e_w5] at hb5
        clear e_w5 x_w5
        go_wp2_with fail
        exact ⟨⟨k + 1, by omega, by go_num, (hb.alloc (by have := hb.size; omega) _).trans (hb5.mono (by omega)), (hbx.alloc _).below hb5 (by omega), HN.out⟩, by simp [intOf]; omega⟩
    · have HE := hide (HEND.out fun j hj => HNE.out j (by omega))
      have hcb := hbx.cell 0
      have hcb1 := hbx.cell 1
      have hN := isName_c nm wr
      cases hnb : nameB nm
      · have HQ : Hid (R = false) := by show R = _; rw [HE.out, hnb]; rfl
        rw [hnb] at hN
        clear hnb
        go_wp2_with fail
        refine hN.mono ?_
        rintro e w' ⟨rfl, rfl⟩
        go_wp2_with fail
        go_ret
        exact ⟨by rw [HQ.out]; rfl, hb⟩
      · have HQ : Hid (R = decide (l.length ≤ 20)) := by show R = _; rw [HE.out, hnb]; rfl
        rw [hnb] at hN
        clear hnb
        go_wp2_with fail
        refine hN.mono ?_
        rintro e w' ⟨rfl, rfl⟩
        go_wp2_with fail
        go_ret
        exact ⟨congrArg (fun v => Ending.returned (.bool v)) (show decide ((l.length : Int) ≤ 20) = R from by rw [HQ.out, Bool.eq_iff_iff]; simp; omega), hb⟩
end Go.Proofs.YtmjmjloiblbhcaaDoor
