/- What the program's comparison and cover of globs give; each contract says for which arguments. -/
import Derived.Test.YtmjmjloiblbhcaaDoorB2
namespace Go.Proofs.YtmjmjloiblbhcaaDoor
open Go.RowKit
set_option maxRecDepth 100000
set_option maxHeartbeats 400000
theorem compareGlob_c (a b : ByteArray) (w : World) (hg : GM w) (ha : a.size < 4294967281) (hb : b.size < 4294967281) :
    Calls Tryd.prog 84 #[.string a, .string b] w (RetV (.int .i64 (cmpA a b)) w) := by
  have HD : Hid (cmpA a b = cmpF (prt 47 a) (prt 47 b) 8 0) := rfl
  generalize cmpA a b = R at HD ⊢
  go_enter Tryd.func84, Tryd.ntmps84
  go_wp2_with fail
  refine (split_c a w hg ha).mono ?_
  rintro e w1 ⟨A, c, rfl, hc, hown, hb1⟩
  have hr := own_rd hown
  clear hown hc
  go_wp2_with fail
  refine (split_c b w1 (hg.up hb1) hb).mono ?_
  rintro e w2 ⟨A2, c2, rfl, hc, hown, hb2⟩
  have hr2 := own_rd hown
  clear hown hc
  have hB := then_ hb1 hb2 hb1.size
  have hr1 := hr.up hb2
  clear hb1 hb2 hg hr ha hb
  generalize prt 47 a = x at hr1 HD ⊢
  generalize prt 47 b = y at hr2 HD ⊢
  go_wp2_with fail
  go_loop [7, 8, 13] (fun _ _ i => ∃ k : Nat, k ≤ 8 ∧ i = .int .i64 k ∧ R = cmpF x y (8 - k) k) (fun _ _ i => 8 - (intOf i).toNat)
  case atStart => exact ⟨0, by omega, rfl, HD.out⟩
  case round =>
    obtain ⟨k, hk, rfl, hne⟩ := hrel
    have HNE := hide hne
    clear hne HD
    by_cases hlt : k < 8
    · obtain ⟨m, hm⟩ : ∃ m, 8 - k = m + 1 := ⟨7 - k, by omega⟩
      have HM : Hid (8 - (k + 1) = m) := by show 8 - (k + 1) = m; omega
      have HR : Hid (R = cmpF x y (m + 1) k) := by show R = _; rw [← hm]; exact HNE.out
      clear hm HNE
      have c1 := rankAt_c A c x k w2 _ hr1
      have c2 := rankAt_c A2 c2 y k w2 _ hr2
      rcases Int.lt_trichotomy (rankA x k) (rankA y k) with h | h | h
      · have HQ : Hid (R = -1) := by show R = -1; rw [HR.out, cmpF_lt h]
        have HC : Hid (Lib.compareInt (rankA x k) (rankA y k) = -1) := by show Lib.compareInt _ _ = _; unfold Lib.compareInt; rw [if_pos h]
        clear h
        go_wp2_with fail
        refine c1.mono ?_
        rintro e w' ⟨rfl, rfl⟩
        go_wp2_with fail
        refine c2.mono ?_
        rintro e w' ⟨rfl, rfl⟩
        go_wp2_with fail
        refine (Tryd.cmp_Compare_int _ _ _).mono ?_
        rintro e w' ⟨rfl, rfl⟩
        rw [HC.out]
        go_wp2_with fail
        go_ret
        exact ⟨by rw [HQ.out]; rfl, hB⟩
      · have HQ : Hid (R = cmpF x y m (k + 1)) := by show R = _; rw [HR.out, cmpF_eq h]
        have HC : Hid (Lib.compareInt (rankA x k) (rankA y k) = 0) := by show Lib.compareInt _ _ = _; unfold Lib.compareInt; rw [if_neg (by omega), if_neg (by omega)]
        clear h
        go_wp2_with fail
        refine c1.mono ?_
        rintro e w' ⟨rfl, rfl⟩
        go_wp2_with fail
        refine c2.mono ?_
        rintro e w' ⟨rfl, rfl⟩
        go_wp2_with fail
        refine (Tryd.cmp_Compare_int _ _ _).mono ?_
        rintro e w' ⟨rfl, rfl⟩
        rw [HC.out]
        go_wp2_with fail
        go_round
        case rel => exact ⟨k + 1, by omega, by go_num, by rw [HM.out]; exact HQ.out⟩
        case measure => simp [intOf]; omega
      · have HQ : Hid (R = 1) := by show R = 1; rw [HR.out, cmpF_gt h]
        have HC : Hid (Lib.compareInt (rankA x k) (rankA y k) = 1) := by show Lib.compareInt _ _ = _; unfold Lib.compareInt; rw [if_neg (by omega), if_pos h]
        clear h
        go_wp2_with fail
        refine c1.mono ?_
        rintro e w' ⟨rfl, rfl⟩
        go_wp2_with fail
        refine c2.mono ?_
        rintro e w' ⟨rfl, rfl⟩
        go_wp2_with fail
        refine (Tryd.cmp_Compare_int _ _ _).mono ?_
        rintro e w' ⟨rfl, rfl⟩
        rw [HC.out]
        go_wp2_with fail
        go_ret
        exact ⟨by rw [HQ.out]; rfl, hB⟩
    · have HQ : Hid (R = 0) := by
        show R = 0
        rw [HNE.out, show 8 - k = 0 from by omega]; rfl
      go_wp2_with fail
      go_ret
      exact ⟨by rw [HQ.out]; rfl, hB⟩
theorem eq_t {p q : ByteArray} {v : Bool} (h : decide (p = q) = v) : (p.toList == q.toList) = v := by
  subst h; rw [toL, toL, Bool.eq_iff_iff]; simp
  exact ⟨fun h => ext_data (by rw [h]), fun h => by rw [h]⟩
theorem ne_t {p q : ByteArray} {v : Bool} (h : decide (p = q) = v) : (p.toList != q.toList) = !v := by
  rw [bne, eq_t h]
theorem covers_c (a b : ByteArray) (w : World) (hg : GM w) (ha : a.size < 4294967281) (hb : b.size < 4294967281) :
    Calls Tryd.prog 83 #[.string a, .string b] w (RetV (.bool (coversB a b)) w) := by
  cases hgb : globB a
  · have HQ : Hid (coversB a b = false) := by show coversB a b = false; unfold coversB; rw [hgb]; rfl
    have HG := hide hgb
    clear hgb
    go_enter Tryd.func83, Tryd.ntmps83
    go_wp2_with fail
    refine (isGlob_c a w hg ha).mono ?_
    rintro e w1 ⟨rfl, hb⟩
    rw [HG.out]
    go_wp2_with fail
    go_ret
    exact ⟨by rw [HQ.out]; rfl, hb⟩
  have HD : Hid (coversB a b = covA ((prt 47 a).drop 0) ((prt 47 b).drop 0)) := by show coversB a b = _; unfold coversB; rw [hgb]; rfl
  have HG := hide hgb
  clear hgb
  generalize coversB a b = R at HD ⊢
  go_enter Tryd.func83, Tryd.ntmps83
  go_wp2_with fail
  refine (isGlob_c a w hg ha).mono ?_
  rintro e w0 ⟨rfl, hb0⟩
  rw [HG.out]
  go_wp2_with fail
  refine (split_c a w0 (hg.up hb0) ha).mono ?_
  rintro e w1 ⟨A, c, rfl, hc, hown, hb1⟩
  have hr := own_rd hown
  have hB1 := then_ hb0 hb1 hb0.size
  clear hown hc hb0
  go_wp2_with fail
  refine (split_c b w1 (hg.up hB1) hb).mono ?_
  rintro e w2 ⟨A2, c2, rfl, hc, hown, hb2⟩
  have hr2 := own_rd hown
  clear hown hc
  have hB := then_ hB1 hb2 hB1.size
  have hr1 := hr.up hb2
  clear hb1 hb2 hg hr ha hb hB1
  generalize prt 47 a = x at hr1 HD ⊢
  generalize prt 47 b = y at hr2 HD ⊢
  have hn := hr1.bd
  have hn2 := hr2.bd
  go_wp2_with fail
  go_loop [7, 8, 18, 23, 26, 31, 39] (fun _ _ i _ _ _ _ => ∃ k : Nat, k ≤ x.length ∧ k ≤ y.length ∧ i = .int .i64 k ∧ R = covA (x.drop k) (y.drop k)) (fun _ _ i _ _ _ _ => x.length - (intOf i).toNat)
  case atStart => exact ⟨0, by omega, by omega, rfl, HD.out⟩
  case round =>
    obtain ⟨k, hk, hk2, rfl, hne⟩ := hrel
    have HNE := hide hne
    clear hne HD
    by_cases hlt : k < x.length
    · obtain ⟨b, off, rfl, hblt, hl, hc⟩ := hr1.str hlt
      cases hst : isStar x[k]
      · have ts := star_t hst
        by_cases hlt2 : k < y.length
        · obtain ⟨b2, off2, rfl, hblt2, hl2, hc2⟩ := hr2.str hlt2
          cases hp : isPlus x[k]
          · have tp := plus_t hp
            have HR : Hid (R = (decide (x[k] = y[k]) && covA (x.drop (k + 1)) (y.drop (k + 1)))) := by show R = _; rw [HNE.out, covA_drop_eq hl hst hl2 hp]
            cases he : decide (x[k] = y[k])
            · have te := eq_t he
              have HQ : Hid (R = false) := by show R = false; rw [HR.out, he]; rfl
              clear hst hp he
              go_wp2_with fail
              go_ret
              exact ⟨by rw [HQ.out]; rfl, hB⟩
            · have te := eq_t he
              have HQ : Hid (R = covA (x.drop (k + 1)) (y.drop (k + 1))) := by show R = _; rw [HR.out, he]; rfl
              clear hst hp he
              go_wp2_with fail
              go_round
              case rel => exact ⟨k + 1, by omega, by omega, by go_num, HQ.out⟩
              case measure => simp [intOf]; omega
          · have tp := plus_t hp
            have HR : Hid (R = (!isStar y[k] && covA (x.drop (k + 1)) (y.drop (k + 1)))) := by show R = _; rw [HNE.out, covA_drop_plus hl hst hl2 hp]
            cases he : isStar y[k]
            · have te := star_t he
              have HQ : Hid (R = covA (x.drop (k + 1)) (y.drop (k + 1))) := by show R = _; rw [HR.out, he]; rfl
              clear hst hp he
              go_wp2_with fail
              go_round
              case rel => exact ⟨k + 1, by omega, by omega, by go_num, HQ.out⟩
              case measure => simp [intOf]; omega
            · have te := star_t he
              have HQ : Hid (R = false) := by show R = false; rw [HR.out, he]; rfl
              clear hst hp he
              go_wp2_with fail
              go_ret
              exact ⟨by rw [HQ.out]; rfl, hB⟩
        · have HQ : Hid (R = false) := by show R = _; rw [HNE.out, covA_drop_out hl hst (by omega)]
          clear hst
          go_wp2_with fail
          go_ret
          exact ⟨by rw [HQ.out]; rfl, hB⟩
      · have ts := star_t hst
        have HQ : Hid (R = true) := by show R = _; rw [HNE.out, covA_drop_star hl hst]
        clear hst
        go_wp2_with fail
        go_ret
        exact ⟨by rw [HQ.out]; rfl, hB⟩
    · have HE : Hid (R = decide (x.length = y.length)) := by show R = _; rw [HNE.out, covA_drop_end (by omega) hk2]
      have HQ : Hid (((x.length : Int) == (y.length : Int)) = R) := by show _ = R; rw [HE.out, Bool.eq_iff_iff]; simp; omega
      go_wp2_with fail
      go_ret
      exact ⟨congrArg (fun v => Ending.returned (.bool v)) (show ((x.length : Int) == (y.length : Int)) = R from HQ.out), hB⟩
end Go.Proofs.YtmjmjloiblbhcaaDoor
