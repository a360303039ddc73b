/- What the reference's comparison, fit and cover of globs give; each contract says for which arguments. -/
import Derived.Test.YtmjmjloiblbhcaaDoorB6
namespace Go.Proofs.YtmjmjloiblbhcaaDoor
open Go.RowKit
set_option maxRecDepth 100000
set_option maxHeartbeats 400000
theorem l01Rank_c (A : Option Addr) (c : Nat) (ps : List ByteArray) (k : Nat) (w : World) (hi : Nat) (hr : Rd w hi 1 A ps.length (sC ps)) :
    Calls Tryd.prog 81 #[.slice A ps.length c, .int .i64 k] w (Pure (.int .i64 (rankA ps k)) w) := by
  have hn := hr.bd
  by_cases hlt : k < ps.length
  · obtain ⟨b, off, rfl, hblt, hl, hc⟩ := hr.str hlt
    have HR := hide (rankA_get hl)
    cases hst : isStar ps[k]
    · have ts := star_t hst
      cases hp : isPlus ps[k]
      · have tp := plus_t hp
        have HQ : Hid (rankA ps k = 3) := by show rankA ps k = 3; rw [HR.out, hst, hp]; rfl
        clear hst hp
        go_enter Tryd.func81, Tryd.ntmps81
        go_wp2_with fail
        go_ret
        exact ⟨by rw [HQ.out]; rfl, rfl⟩
      · have tp := plus_t hp
        have HQ : Hid (rankA ps k = 2) := by show rankA ps k = 2; rw [HR.out, hst, hp]; rfl
        clear hst hp
        go_enter Tryd.func81, Tryd.ntmps81
        go_wp2_with fail
        go_ret
        exact ⟨by rw [HQ.out]; rfl, rfl⟩
    · have ts := star_t hst
      have HQ : Hid (rankA ps k = 1) := by show rankA ps k = 1; rw [HR.out, hst]; rfl
      clear hst
      go_enter Tryd.func81, Tryd.ntmps81
      go_wp2_with fail
      go_ret
      exact ⟨by rw [HQ.out]; rfl, rfl⟩
  · have HQ : Hid (rankA ps k = 0) := rankA_out (by omega)
    go_enter Tryd.func81, Tryd.ntmps81
    go_wp2_with fail
    go_ret
    exact ⟨by rw [HQ.out]; rfl, rfl⟩
theorem CompareGlob_s (a b : ByteArray) (w : World) (ha : a.size < 4294967281) (hb : b.size < 4294967281) :
    Calls Tryd.prog 54 #[.string a, .string b] w (RetV (.int .i64 (cmpG a b)) w) := by
  have HL : Hid (cmpG a b = if globB a && globB b then cmpF (prt 47 a) (prt 47 b) 8 0 else -2) := rfl
  generalize cmpG a b = R at HL ⊢
  cases h1 : globB a
  · have HQ : Hid (R = -2) := by show R = _; rw [HL.out, h1]; rfl
    have HG := hide h1
    clear h1
    go_enter Tryd.func54, Tryd.ntmps54
    go_wp2_with fail
    refine (GlobOk_s a w ha).mono ?_
    rintro e w1 ⟨rfl, hb⟩
    rw [HG.out]
    go_wp2_with fail
    go_ret
    exact ⟨by rw [HQ.out]; rfl, hb⟩
  cases h2 : globB b
  · have HQ : Hid (R = -2) := by show R = _; rw [HL.out, h1, h2]; rfl
    have HG := hide h1
    have HG2 := hide h2
    clear h1 h2
    go_enter Tryd.func54, Tryd.ntmps54
    go_wp2_with fail
    refine (GlobOk_s a w ha).mono ?_
    rintro e w1 ⟨rfl, hb1⟩
    rw [HG.out]
    go_wp2_with fail
    refine (GlobOk_s b w1 hb).mono ?_
    rintro e w2 ⟨rfl, hb2⟩
    have hB := then_ hb1 hb2 hb1.size
    rw [HG2.out]
    go_wp2_with fail
    go_ret
    exact ⟨by rw [HQ.out]; rfl, hB⟩
  have HD : Hid (R = cmpF (prt 47 a) (prt 47 b) 8 0) := by show R = _; rw [HL.out, h1, h2]; rfl
  have HG := hide h1
  have HG2 := hide h2
  clear h1 h2 HL
  go_enter Tryd.func54, Tryd.ntmps54
  go_wp2_with fail
  refine (GlobOk_s a w ha).mono ?_
  rintro e w1 ⟨rfl, hb1⟩
  rw [HG.out]
  go_wp2_with fail
  refine (GlobOk_s b w1 hb).mono ?_
  rintro e w2 ⟨rfl, hb2⟩
  have hB2 := then_ hb1 hb2 hb1.size
  rw [HG2.out]
  clear hb1 hb2
  go_wp2_with fail
  refine (l01Parts_c a 47 w2 ha).mono ?_
  rintro e w3 ⟨A, c, rfl, hc, hown, hb3⟩
  have hr := own_rd hown
  have hB3 := then_ hB2 hb3 hB2.size
  clear hown hc hB2
  go_wp2_with fail
  refine (l01Parts_c b 47 w3 hb).mono ?_
  rintro e w4 ⟨A2, c2, rfl, hc, hown, hb4⟩
  have hr2 := own_rd hown
  clear hown hc
  have hB := then_ hB3 hb4 hB3.size
  have hr1 := hr.up hb4
  clear hb3 hb4 hr ha hb hB3
  generalize prt 47 a = x at hr1 HD ⊢
  generalize prt 47 b = y at hr2 HD ⊢
  go_wp2_with fail
  go_loop [7] (fun i => ∃ k : Nat, k ≤ 8 ∧ i = .int .i64 k ∧ R = cmpF x y (8 - k) k) (fun i => 8 - (intOf i).toNat)
  case atStart => exact ⟨0, by omega, rfl, HD.out⟩
  case round =>
    obtain ⟨k, hk, rfl, hne⟩ := hrel
    have HNE := hide hne
    clear hne HD
    by_cases hlt : k < 8
    · obtain ⟨m, hm⟩ : ∃ m, 8 - k = m + 1 := ⟨7 - k, by omega⟩
      have HM : Hid (8 - (k + 1) = m) := by show 8 - (k + 1) = m; omega
      have HR : Hid (R = cmpF x y (m + 1) k) := by show R = _; rw [← hm]; exact HNE.out
      clear hm HNE
      have c1 := l01Rank_c A c x k w4 _ hr1
      have c2 := l01Rank_c A2 c2 y k w4 _ hr2
      rcases Int.lt_trichotomy (rankA x k) (rankA y k) with h | h | h
      · have HQ : Hid (R = -1) := by show R = -1; rw [HR.out, cmpF_lt h]
        have hh : ¬ rankA y k < rankA x k := by omega
        generalize rankA x k = X at c1 h hh
        generalize rankA y k = Y at c2 h hh
        go_wp2_with fail
        refine c1.mono ?_
        rintro e w' ⟨rfl, rfl⟩
        go_wp2_with fail
        refine c2.mono ?_
        rintro e w' ⟨rfl, rfl⟩
        go_wp2_with fail
        refine c1.mono ?_
        rintro e w' ⟨rfl, rfl⟩
        go_wp2_with fail
        refine c2.mono ?_
        rintro e w' ⟨rfl, rfl⟩
        go_wp2_with fail
        go_ret
        exact ⟨by rw [HQ.out]; rfl, hB⟩
      · have HQ : Hid (R = cmpF x y m (k + 1)) := by show R = _; rw [HR.out, cmpF_eq h]
        rw [h] at c1
        clear h
        generalize rankA y k = Y at c1 c2
        go_wp2_with fail
        refine c1.mono ?_
        rintro e w' ⟨rfl, rfl⟩
        go_wp2_with fail
        refine c2.mono ?_
        rintro e w' ⟨rfl, rfl⟩
        go_wp2_with fail
        refine c1.mono ?_
        rintro e w' ⟨rfl, rfl⟩
        go_wp2_with fail
        refine c2.mono ?_
        rintro e w' ⟨rfl, rfl⟩
        go_wp2_with fail
        go_round
        case rel => exact ⟨k + 1, by omega, by go_num, by rw [HM.out]; exact HQ.out⟩
        case measure => simp [intOf]; omega
      · have HQ : Hid (R = 1) := by show R = 1; rw [HR.out, cmpF_gt h]
        generalize rankA x k = X at c1 h
        generalize rankA y k = Y at c2 h
        go_wp2_with fail
        refine c1.mono ?_
        rintro e w' ⟨rfl, rfl⟩
        go_wp2_with fail
        refine c2.mono ?_
        rintro e w' ⟨rfl, rfl⟩
        go_wp2_with fail
        go_ret
        exact ⟨by rw [HQ.out]; rfl, hB⟩
    · have HQ : Hid (R = 0) := by
        show R = 0
        rw [HNE.out, show 8 - k = 0 from by omega]; rfl
      go_wp2_with fail
      go_ret
      exact ⟨by rw [HQ.out]; rfl, hB⟩
theorem fit_star {x y : List ByteArray} {k : Nat} (hk : k < x.length) (h : isStar x[k] = true) : fitA (x.drop k) (y.drop k) = true := by
  rw [List.drop_eq_getElem_cons hk]; simp [fitA, h]
theorem fit_out {x y : List ByteArray} {k : Nat} (hk : k < x.length) (h : isStar x[k] = false) (hy : y.length ≤ k) : fitA (x.drop k) (y.drop k) = false := by
  rw [List.drop_eq_getElem_cons hk, List.drop_eq_nil_of_le hy]; simp [fitA, h]
theorem fit_next {x y : List ByteArray} {k : Nat} (hk : k < x.length) (h : isStar x[k] = false) (hy : k < y.length) : fitA (x.drop k) (y.drop k) = ((isPlus x[k] || decide (x[k] = y[k])) && fitA (x.drop (k + 1)) (y.drop (k + 1))) := by
  rw [List.drop_eq_getElem_cons hk, List.drop_eq_getElem_cons hy]; simp [fitA, h]
theorem fit_end {x y : List ByteArray} {k : Nat} (hk : k = x.length) : fitA (x.drop k) (y.drop k) = decide (y.length ≤ k) := by
  subst hk
  rw [List.drop_length]
  simp only [fitA]
  rw [Bool.eq_iff_iff]; simp
theorem l01Fit_c (A A2 : Option Addr) (c c2 : Nat) (x y : List ByteArray) : ∀ (m k : Nat) (w : World), k + m = x.length → Rd w w.heap.size 1 A x.length (sC x) → Rd w w.heap.size 1 A2 y.length (sC y) →
    Calls Tryd.prog 80 #[.slice A x.length c, .slice A2 y.length c2, .int .i64 k] w (RetV (.bool (fitA (x.drop k) (y.drop k))) w) := by
  intro m
  induction m with
  | zero =>
    intro k w hk hr hr2
    have HQ := hide (fit_end (y := y) (show k = x.length from by omega))
    generalize fitA (x.drop k) (y.drop k) = R at HQ ⊢
    have he : ((k : Int) == (x.length : Int)) = true := by simp; omega
    have hn := hr.bd
    have hn2 := hr2.bd
    clear hk
    go_enter Tryd.func80, Tryd.ntmps80
    go_wp2_with fail
    go_ret
    exact ⟨by rw [HQ.out]; rfl, Below.refl _ _⟩
  | succ m ih =>
    intro k w hk hr hr2
    have hlt : k < x.length := by omega
    obtain ⟨b, off, rfl, hblt, hl, hc⟩ := hr.str hlt
    have hne : ((k : Int) == (x.length : Int)) = false := beq_eq_false_iff_ne.2 (by omega)
    have hn := hr.bd
    have hn2 := hr2.bd
    cases hst : isStar x[k]
    · have ts := star_t hst
      by_cases hlt2 : k < y.length
      · obtain ⟨b2, off2, rfl, hblt2, hl2, hc2⟩ := hr2.str hlt2
        have HN := hide (fit_next hl hst hl2)
        have hih : ∀ z : After w.heap.size w, Calls Tryd.prog 80 #[.slice (some ⟨b, off, none⟩) x.length c, .slice (some ⟨b2, off2, none⟩) y.length c2, .int .i64 ((k : Int) + 1)] z.w (RetV (.bool (fitA (x.drop (k + 1)) (y.drop (k + 1)))) z.w) := fun z => by
          have := ih (k + 1) z.w (by omega) (z.rd hr (Nat.le_refl _) (Nat.le_refl _)) (z.rd hr2 (Nat.le_refl _) (Nat.le_refl _))
          simpa using this
        have HIH := hide hih
        have hcx : ∀ z : After w.heap.size w, z.w.cell? ⟨b, off + k, none⟩ = some (.string x[k]) := fun z => z.cell hc hblt
        have hcy : ∀ z : After w.heap.size w, z.w.cell? ⟨b2, off2 + k, none⟩ = some (.string y[k]) := fun z => z.cell hc2 hblt2
        generalize fitA (x.drop k) (y.drop k) = R at HN ⊢
        generalize fitA (x.drop (k + 1)) (y.drop (k + 1)) = R1 at HN HIH
        clear hih ih hr hr2 hk
        cases hp : isPlus x[k]
        · have tp := plus_t hp
          cases he : decide (x[k] = y[k])
          · have te := eq_t he
            have HQ : Hid (R = false) := by show R = false; rw [HN.out, hp, he]; rfl
            clear hst hp he
            go_enter Tryd.func80, Tryd.ntmps80
            go_wp2_with fail
            refine wp_region_after w.heap.size (by kernel_rfl) (by kernel_rfl) ?_
            repeat (go_big_quiet_step (fail))
            refine wpQuiet_nil ?_
            rintro w1 ⟨x_w1, e_w1⟩
            have hb1 := x_w1.below
            rw [← e_w1] at hb1
            clear e_w1 x_w1
            go_wp2_with fail
            go_ret
            exact ⟨by rw [HQ.out]; rfl, hb1⟩
          · have te := eq_t he
            have HQ : Hid (R = R1) := by show R = R1; rw [HN.out, hp, he]; rfl
            clear hst hp he
            go_enter Tryd.func80, Tryd.ntmps80
            go_wp2_with fail
            refine wp_region_after w.heap.size (by kernel_rfl) (by kernel_rfl) ?_
            repeat (go_big_quiet_step ((go_at_call 80; exact after_of (Nat.le_refl _) (HIH.out _))))
            refine wpQuiet_nil ?_
            rintro w1 ⟨x_w1, e_w1⟩
            have hb1 := x_w1.below
            rw [← e_w1] at hb1
            clear e_w1 x_w1
            go_wp2_with fail
            go_ret
            exact ⟨by rw [HQ.out]; rfl, hb1⟩
        · have tp := plus_t hp
          have HQ : Hid (R = R1) := by show R = R1; rw [HN.out, hp]; rfl
          clear hst hp
          go_enter Tryd.func80, Tryd.ntmps80
          go_wp2_with fail
          refine wp_region_after w.heap.size (by kernel_rfl) (by kernel_rfl) ?_
          repeat (go_big_quiet_step ((go_at_call 80; exact after_of (Nat.le_refl _) (HIH.out _))))
          refine wpQuiet_nil ?_
          rintro w1 ⟨x_w1, e_w1⟩
          have hb1 := x_w1.below
          rw [← e_w1] at hb1
          clear e_w1 x_w1
          go_wp2_with fail
          go_ret
          exact ⟨by rw [HQ.out]; rfl, hb1⟩
      · have HQ := hide (fit_out (y := y) hl hst (by omega))
        have hcx : ∀ z : After w.heap.size w, z.w.cell? ⟨b, off + k, none⟩ = some (.string x[k]) := fun z => z.cell hc hblt
        have hdl : decide (k < y.length) = false := decide_eq_false hlt2
        generalize fitA (x.drop k) (y.drop k) = R at HQ ⊢
        clear ih hr hr2 hk hst hlt2
        go_enter Tryd.func80, Tryd.ntmps80
        go_wp2_with fail
        refine wp_region_after w.heap.size (by kernel_rfl) (by kernel_rfl) ?_
        repeat (go_big_quiet_step (fail))
        refine wpQuiet_nil ?_
        rintro w1 ⟨x_w1, e_w1⟩
        have hb1 := x_w1.below
        rw [← e_w1] at hb1
        clear e_w1 x_w1
        go_wp2_with fail
        go_ret
        exact ⟨by rw [HQ.out]; rfl, hb1⟩
    · have ts := star_t hst
      have HQ := hide (fit_star (y := y) hl hst)
      generalize fitA (x.drop k) (y.drop k) = R at HQ ⊢
      clear ih hr hr2 hk hst
      go_enter Tryd.func80, Tryd.ntmps80
      go_wp2_with fail
      go_ret
      exact ⟨by rw [HQ.out]; rfl, Below.refl _ _⟩
theorem MatchGlob_s (a b : ByteArray) (w : World) (ha : a.size < 4294967281) (hb : b.size < 4294967281) :
    Calls Tryd.prog 53 #[.string a, .string b] w (RetV (.bool (matchB a b)) w) := by
  have HL : Hid (matchB a b = (pathB b && (globB a && covA (prt 47 a) (prt 47 b)))) := rfl
  generalize matchB a b = R at HL ⊢
  cases h1 : globB a
  · have HQ : Hid (R = false) := by show R = _; rw [HL.out, h1]; simp
    have HG := hide h1
    clear h1
    go_enter Tryd.func53, Tryd.ntmps53
    go_wp2_with fail
    refine (GlobOk_s a w ha).mono ?_
    rintro e w1 ⟨rfl, hb⟩
    rw [HG.out]
    go_wp2_with fail
    go_ret
    exact ⟨by rw [HQ.out]; rfl, hb⟩
  cases h2 : pathB b
  · have HQ : Hid (R = false) := by show R = _; rw [HL.out, h1, h2]; rfl
    have HG := hide h1
    have HG2 := hide h2
    clear h1 h2
    go_enter Tryd.func53, Tryd.ntmps53
    go_wp2_with fail
    refine (GlobOk_s a w ha).mono ?_
    rintro e w1 ⟨rfl, hb1⟩
    rw [HG.out]
    go_wp2_with fail
    refine (PathOk_s b w1 hb).mono ?_
    rintro e w2 ⟨rfl, hb2⟩
    have hB := then_ hb1 hb2 hb1.size
    rw [HG2.out]
    go_wp2_with fail
    go_ret
    exact ⟨by rw [HQ.out]; rfl, hB⟩
  have HD : Hid (R = fitA ((prt 47 a).drop 0) ((prt 47 b).drop 0)) := by
    show R = _
    rw [HL.out, h1, h2, covA_fit _ _ fun q hq => (path_no_star (by simp only [pathB, Bool.and_eq_true] at h2; exact h2.2) hq).1]; rfl
  have HG := hide h1
  have HG2 := hide h2
  clear h1 h2 HL
  go_enter Tryd.func53, Tryd.ntmps53
  go_wp2_with fail
  refine (GlobOk_s a w ha).mono ?_
  rintro e w1 ⟨rfl, hb1⟩
  rw [HG.out]
  go_wp2_with fail
  refine (PathOk_s b w1 hb).mono ?_
  rintro e w2 ⟨rfl, hb2⟩
  have hB2 := then_ hb1 hb2 hb1.size
  rw [HG2.out]
  clear hb1 hb2
  go_wp2_with fail
  refine (l01Parts_c a 47 w2 ha).mono ?_
  rintro e w3 ⟨A, c, rfl, hc, hown, hb3⟩
  have hr := own_rd hown
  have hB3 := then_ hB2 hb3 hB2.size
  clear hown hc hB2
  go_wp2_with fail
  refine (l01Parts_c b 47 w3 hb).mono ?_
  rintro e w4 ⟨A2, c2, rfl, hc, hown, hb4⟩
  have hr2 := own_rd hown
  clear hown hc
  have hB := then_ hB3 hb4 hB3.size
  have hr1 := hr.up hb4
  clear hb3 hb4 hr ha hb hB3
  generalize prt 47 a = x at hr1 HD ⊢
  generalize prt 47 b = y at hr2 HD ⊢
  have hF := l01Fit_c A A2 c c2 x y x.length 0 w4 (by omega) hr1 hr2
  go_wp2_with fail
  refine hF.mono ?_
  rintro e w5 ⟨rfl, hb5⟩
  have hB5 := then_ hB hb5 hB.size
  go_wp2_with fail
  go_ret
  exact ⟨by rw [HD.out]; rfl, hB5⟩
end Go.Proofs.YtmjmjloiblbhcaaDoor
