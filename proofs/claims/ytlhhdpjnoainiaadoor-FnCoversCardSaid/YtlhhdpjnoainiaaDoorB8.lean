/- What the reference's cover, split, parent, under and join give; each contract says for which arguments. -/
import Derived.Test.YtlhhdpjnoainiaaDoorB7
namespace Go.Proofs.YtlhhdpjnoainiaaDoor
open Go.RowKit
set_option maxRecDepth 100000
set_option maxHeartbeats 400000
theorem Covers_s (a b : ByteArray) (w : World) (ha : a.size < 4294967281) (hb : b.size < 4294967281) :
    Calls Tryd.prog 36 #[.string a, .string b] w (RetV (.bool (coverB a b)) w) := by
  have HL : Hid (coverB a b = (globB b && (globB a && covA (prt 47 a) (prt 47 b)))) := rfl
  generalize coverB a b = R at HL ⊢
  cases h1 : globB a
  · have HQ : Hid (R = false) := by show R = _; rw [HL.out, h1]; simp
    have HG := hide h1
    clear h1
    go_enter Tryd.func36, Tryd.ntmps36
    go_wp2_with fail
    refine (GlobOk_s a w ha).mono ?_
    rintro e w1 ⟨rfl, hb⟩
    rw [HG.out]
    go_wp2_with fail
    go_ret
    exact ⟨by rw [HQ.out]; rfl, hb⟩
  cases h2 : globB b
  · have HQ : Hid (R = false) := by show R = _; rw [HL.out, h1, h2]; rfl
    have HG := hide h1
    have HG2 := hide h2
    clear h1 h2
    go_enter Tryd.func36, Tryd.ntmps36
    go_wp2_with fail
    refine (GlobOk_s a w ha).mono ?_
    rintro e w1 ⟨rfl, hb1⟩
    rw [HG.out]
    go_wp2_with fail
    refine (GlobOk_s b w1 hb).mono ?_
    rintro e w2 ⟨rfl, hb2⟩
    have hB := then_ hb1 hb2 hb1.size
    rw [HG2.out]
    go_wp2_with fail
    go_ret
    exact ⟨by rw [HQ.out]; rfl, hB⟩
  have HD : Hid (R = covA ((prt 47 a).drop 0) ((prt 47 b).drop 0)) := by
    show R = _
    rw [HL.out, h1, h2]; rfl
  have HG := hide h1
  have HG2 := hide h2
  clear h1 h2 HL
  go_enter Tryd.func36, Tryd.ntmps36
  go_wp2_with fail
  refine (GlobOk_s a w ha).mono ?_
  rintro e w1 ⟨rfl, hb1⟩
  rw [HG.out]
  go_wp2_with fail
  refine (GlobOk_s b w1 hb).mono ?_
  rintro e w2 ⟨rfl, hb2⟩
  have hB2 := then_ hb1 hb2 hb1.size
  rw [HG2.out]
  clear hb1 hb2
  go_wp2_with fail
  refine (l01Parts_c a 47 w2 ha).mono ?_
  rintro e w3 ⟨A, c, rfl, hc, hown, hb3⟩
  have hr := own_rd hown
  have hB3 := then_ hB2 hb3 hB2.size
  clear hown hc hB2
  go_wp2_with fail
  refine (l01Parts_c b 47 w3 hb).mono ?_
  rintro e w4 ⟨A2, c2, rfl, hc, hown, hb4⟩
  have hr2 := own_rd hown
  clear hown hc
  have hB := then_ hB3 hb4 hB3.size
  have hr1 := hr.up hb4
  clear hb3 hb4 hr ha hb hB3
  generalize prt 47 a = x at hr1 HD ⊢
  generalize prt 47 b = y at hr2 HD ⊢
  have hn := hr1.bd
  have hn2 := hr2.bd
  go_wp2_with fail
  go_loopw [7] (fun i wr => ∃ k : Nat, k ≤ x.length ∧ k ≤ y.length ∧ i = .int .i64 k ∧ R = covA (x.drop k) (y.drop k) ∧ Below w4.heap.size w4 wr) (fun i _ => x.length - (intOf i).toNat)
  case atStart => exact ⟨0, by omega, by omega, rfl, HD.out, Below.refl _ _⟩
  case round =>
    obtain ⟨k, hk, hk2, rfl, hne, hbr⟩ := hrel
    have HNE := hide hne
    clear hne HD
    have hq1 := hr1.up hbr
    have hq2 := hr2.up hbr
    have hBr := then_ hB hbr hB.size
    by_cases hlt : k < x.length
    · obtain ⟨b, off, rfl, hblt, hl, hc⟩ := hq1.str hlt
      cases hst : isStar x[k]
      · have ts := star_t hst
        have hrk : ∀ z : After wr.heap.size wr, Calls Tryd.prog 58 #[.slice A2 y.length c2, .int .i64 k] z.w (Pure (.int .i64 (rankA y k)) z.w) := fun z => l01Rank_c A2 c2 y k z.w _ (z.rd hq2 (Nat.le_refl _) (Nat.le_refl _))
        have HRK := hide hrk
        clear hrk
        have hcx : ∀ z : After wr.heap.size wr, z.w.cell? ⟨b, off + k, none⟩ = some (.string x[k]) := fun z => z.cell hc hblt
        by_cases hlt2 : k < y.length
        · obtain ⟨b2, off2, rfl, hblt2, hl2, hc2⟩ := hq2.str hlt2
          have hcy : ∀ z : After wr.heap.size wr, z.w.cell? ⟨b2, off2 + k, none⟩ = some (.string y[k]) := fun z => z.cell hc2 hblt2
          have HRG := hide (rankA_get hl2)
          have HRA : Hid (isPlus x[k] = true → R = (!isStar y[k] && covA (x.drop (k + 1)) (y.drop (k + 1)))) := fun hp => by rw [HNE.out, covA_drop_plus hl hst hl2 hp]
          have HRB : Hid (isPlus x[k] = false → R = (decide (x[k] = y[k]) && covA (x.drop (k + 1)) (y.drop (k + 1)))) := fun hp => by rw [HNE.out, covA_drop_eq hl hst hl2 hp]
          cases hsy : isStar y[k]
          · have hrv : decide (rankA y k < 2) = false := by rw [HRG.out, hsy]; cases isPlus y[k] <;> simp
            cases hp : isPlus x[k]
            · have tp := plus_t hp
              cases he : decide (x[k] = y[k])
              · have te := eq_t he
                have HQ : Hid (R = false) := by show R = false; rw [HRB.out hp, he]; rfl
                clear hst hp he hsy HRG hq1 hq2
                generalize rankA y k = Y at HRK hrv
                go_wp2_with fail
                refine wp_region_after wr.heap.size (by kernel_rfl) (by kernel_rfl) ?_
                repeat (go_big_quiet_step ((go_at_call 58; exact after_pure (HRK.out _))))
                refine wpQuiet_nil ?_
                rintro w5 ⟨x_w5, e_w5⟩
                have hb5 := x_w5.below
                rw [← e_w5] at hb5
                clear e_w5 x_w5
                go_wp2_with fail
                go_ret
                exact ⟨by rw [HQ.out]; rfl, then_ hBr hb5 hBr.size⟩
              · have te := eq_t he
                have HQ : Hid (R = covA (x.drop (k + 1)) (y.drop (k + 1))) := by show R = _; rw [HRB.out hp, he]; rfl
                clear hst hp he hsy HRG hq1 hq2
                generalize rankA y k = Y at HRK hrv
                go_wp2_with fail
                refine wp_region_after wr.heap.size (by kernel_rfl) (by kernel_rfl) ?_
                repeat (go_big_quiet_step ((go_at_call 58; exact after_pure (HRK.out _))))
                refine wpQuiet_nil ?_
                rintro w5 ⟨x_w5, e_w5⟩
                have hb5 := x_w5.below
                rw [← e_w5] at hb5
                clear e_w5 x_w5
                go_wp2_with fail
                exact ⟨⟨k + 1, by omega, by omega, by go_num, HQ.out, then_ hbr hb5 hbr.size⟩, by simp [intOf]; omega⟩
            · have tp := plus_t hp
              have HQ : Hid (R = covA (x.drop (k + 1)) (y.drop (k + 1))) := by show R = _; rw [HRA.out hp, hsy]; rfl
              clear hst hp hsy HRG hq1 hq2
              generalize rankA y k = Y at HRK hrv
              go_wp2_with fail
              refine wp_region_after wr.heap.size (by kernel_rfl) (by kernel_rfl) ?_
              repeat (go_big_quiet_step ((go_at_call 58; exact after_pure (HRK.out _))))
              refine wpQuiet_nil ?_
              rintro w5 ⟨x_w5, e_w5⟩
              have hb5 := x_w5.below
              rw [← e_w5] at hb5
              clear e_w5 x_w5
              go_wp2_with fail
              exact ⟨⟨k + 1, by omega, by omega, by go_num, HQ.out, then_ hbr hb5 hbr.size⟩, by simp [intOf]; omega⟩
          · have hrv : rankA y k < 2 := by rw [HRG.out, hsy]; simp
            have HQ : Hid (R = false) := by
              show R = false
              cases hp : isPlus x[k]
              · rw [HRB.out hp, decide_eq_false (fun e => by rw [e, hsy] at hst; cases hst)]; rfl
              · rw [HRA.out hp, hsy]; rfl
            clear hst hsy HRG hq1 hq2 HRA HRB
            generalize rankA y k = Y at HRK hrv
            go_wp2_with fail
            refine wp_region_after wr.heap.size (by kernel_rfl) (by kernel_rfl) ?_
            repeat (go_big_quiet_step ((go_at_call 58; exact after_pure (HRK.out _))))
            refine wpQuiet_nil ?_
            rintro w5 ⟨x_w5, e_w5⟩
            have hb5 := x_w5.below
            rw [← e_w5] at hb5
            clear e_w5 x_w5
            go_wp2_with fail
            go_ret
            exact ⟨by rw [HQ.out]; rfl, then_ hBr hb5 hBr.size⟩
        · have HQ : Hid (R = false) := by show R = _; rw [HNE.out, covA_drop_out hl hst (by omega)]
          have hrv : rankA y k < 2 := by rw [rankA_out (by omega)]; decide
          clear hst hq1 hq2
          generalize rankA y k = Y at HRK hrv
          go_wp2_with fail
          refine wp_region_after wr.heap.size (by kernel_rfl) (by kernel_rfl) ?_
          repeat (go_big_quiet_step ((go_at_call 58; exact after_pure (HRK.out _))))
          refine wpQuiet_nil ?_
          rintro w5 ⟨x_w5, e_w5⟩
          have hb5 := x_w5.below
          rw [← e_w5] at hb5
          clear e_w5 x_w5
          go_wp2_with fail
          go_ret
          exact ⟨by rw [HQ.out]; rfl, then_ hBr hb5 hBr.size⟩
      · have ts := star_t hst
        have HQ : Hid (R = true) := by show R = _; rw [HNE.out, covA_drop_star hl hst]
        clear hst hq1 hq2
        go_wp2_with fail
        go_ret
        exact ⟨by rw [HQ.out]; rfl, hBr⟩
    · have HE : Hid (R = decide (x.length = y.length)) := by show R = _; rw [HNE.out, covA_drop_end (by omega) hk2]
      have HQ : Hid (((y.length : Int) == (x.length : Int)) = R) := by show _ = R; rw [HE.out, Bool.eq_iff_iff]; simp; omega
      clear hq1 hq2
      go_wp2_with fail
      go_ret
      exact ⟨congrArg (fun v => Ending.returned (.bool v)) (show ((y.length : Int) == (x.length : Int)) = R from HQ.out), hBr⟩
theorem SplitPath_s (s : ByteArray) (w : World) (hs : s.size < 4294967281) :
    Calls Tryd.prog 19 #[.string s] w (RetStrs (splitA s) (globB s) w) := by
  cases hgb : globB s
  · have HQ : Hid (splitA s = []) := by show splitA s = []; unfold splitA; rw [hgb]; rfl
    have HG := hide hgb
    clear hgb
    go_enter Tryd.func19, Tryd.ntmps19
    go_wp2_with fail
    refine (GlobOk_s s w hs).mono ?_
    rintro e w1 ⟨rfl, hb⟩
    rw [HG.out]
    go_wp2_with fail
    refine bodyPost_ret (v := .tuple #[.slice none 0 0, .bool false]) (by simp [results, Tryd.results19, go_sem]) rfl ?_
    rw [HQ.out]
    exact ⟨none, 0, rfl, Nat.le_refl _, World.ownsRow_nil _ _ _ _, hb⟩
  · have HQ : Hid (splitA s = prt 47 s) := by show splitA s = _; unfold splitA; rw [hgb]; rfl
    have HG := hide hgb
    clear hgb
    go_enter Tryd.func19, Tryd.ntmps19
    go_wp2_with fail
    refine (GlobOk_s s w hs).mono ?_
    rintro e w0 ⟨rfl, hb0⟩
    rw [HG.out]
    go_wp2_with fail
    refine (l01Parts_c s 47 w0 hs).mono ?_
    rintro e w1 ⟨A, c, rfl, hc, hown, hb1⟩
    have hB := then_ hb0 hb1 hb0.size
    have HO := hide (own_mono hown hb0.size)
    clear hown
    go_wp2_with fail
    refine bodyPost_ret (v := .tuple #[.slice A (prt 47 s).length c, .bool true]) (by simp [results, Tryd.results19, go_sem]) rfl ?_
    rw [HQ.out]
    exact ⟨A, c, rfl, hc, HO.out, hB⟩
theorem ParentPath_s (s : ByteArray) (w : World) (hs : s.size < 4294967281) :
    Calls Tryd.prog 28 #[.string s] w (RetV (.tuple #[.string (parA s), .bool (parOk s)]) w) := by
  have HL : Hid (parOk s = (pathB s && decide (2 ≤ (prt 47 s).length))) := rfl
  have HA : Hid (parA s = if parOk s then parentB s else ⟨#[]⟩) := rfl
  generalize parOk s = ok at HL HA ⊢
  generalize parA s = R at HA ⊢
  cases hgb : pathB s
  · have HQ : Hid (ok = false) := by show ok = false; rw [HL.out, hgb]; rfl
    have HR : Hid (R = ⟨#[]⟩) := by show R = _; rw [HA.out, HQ.out]; rfl
    have HG := hide hgb
    clear hgb
    go_enter Tryd.func28, Tryd.ntmps28
    go_wp2_with fail
    refine (PathOk_s s w hs).mono ?_
    rintro e w2 ⟨rfl, hb2⟩
    rw [HG.out]
    go_wp2_with fail
    refine bodyPost_ret (v := .tuple #[.string ⟨#[]⟩, .bool false]) (by simp [results, Tryd.results28, go_sem]) rfl ?_
    rw [HQ.out, HR.out]
    exact ⟨rfl, hb2⟩
  · have HG := hide hgb
    by_cases hlen : 2 ≤ (prt 47 s).length
    · have HQ : Hid (ok = true) := by show ok = true; rw [HL.out, hgb]; simp [hlen]
      have HR : Hid (R = parentB s) := by show R = _; rw [HA.out, HQ.out]; rfl
      obtain ⟨q, hq, _⟩ := prt_getLast s
      have hd := parent_data hlen hq
      have hss : s.size = s.data.toList.length := rfl
      have hps : (parentB s).size = (parentB s).data.toList.length := rfl
      have hqs : q.size = q.data.toList.length := rfl
      have hsum : s.size = (parentB s).size + 1 + q.size := by rw [hss, hd, hps, hqs]; simp; omega
      have HX : Hid (s.extract 0 (parentB s).size = parentB s) := by
        show _ = _
        apply ext_data
        rw [ByteArray.data_extract, Array.toList_extract, hps]
        simp only [List.extract, Nat.sub_zero, List.drop_zero]
        rw [hd]; simp
      have HIX : Hid (∀ h : (prt 47 s).length - 1 < (prt 47 s).length, (prt 47 s)[(prt 47 s).length - 1] = q) := fun h => by
        rw [List.getLast?_eq_getElem?, List.getElem?_eq_getElem h] at hq
        exact Option.some.inj hq
      clear hgb hq hd hss hps hqs HL HA
      generalize parentB s = P at HR HX hsum
      go_enter Tryd.func28, Tryd.ntmps28
      go_wp2_with fail
      refine (PathOk_s s w hs).mono ?_
      rintro e w1 ⟨rfl, hb1⟩
      rw [HG.out]
      go_wp2_with fail
      refine (l01Parts_c s 47 w1 hs).mono ?_
      rintro e w2 ⟨A, c, rfl, hc, hown, hb2⟩
      have hr := own_rd hown
      have hB := then_ hb1 hb2 hb1.size
      clear hown hc
      generalize prt 47 s = ps at hr hlen HIX ⊢
      obtain ⟨b, off, rfl, hblt, hl, hc⟩ := hr.str (k := ps.length - 1) (by omega)
      rw [HIX.out hl] at hc
      have hn := hr.bd
      have h1 : ((ps.length : Int) == 1) = false := beq_eq_false_iff_ne.2 (by omega)
      have hz : (s.size : Int) - (q.size : Int) - 1 = (P.size : Int) := by omega
      have hPs : P.size ≤ s.size := by omega
      clear hsum
      go_wp2_with fail
      refine bodyPost_ret (v := .tuple #[.string P, .bool true]) (by simp [results, Tryd.results28, go_sem]; exact HX.out) rfl ?_
      rw [HQ.out, HR.out]
      exact ⟨rfl, hB⟩
    · have HQ : Hid (ok = false) := by show ok = false; rw [HL.out, hgb]; simp [hlen]
      have HR : Hid (R = ⟨#[]⟩) := by show R = _; rw [HA.out, HQ.out]; rfl
      have hp1 := prt_pos 47 s
      clear hgb HL HA
      go_enter Tryd.func28, Tryd.ntmps28
      go_wp2_with fail
      refine (PathOk_s s w hs).mono ?_
      rintro e w1 ⟨rfl, hb1⟩
      rw [HG.out]
      go_wp2_with fail
      refine (l01Parts_c s 47 w1 hs).mono ?_
      rintro e w2 ⟨A, c, rfl, hc, hown, hb2⟩
      have hB := then_ hb1 hb2 hb1.size
      clear hown hc
      have h1 : (((prt 47 s).length : Int) == 1) = true := by simp; omega
      clear hlen hp1
      go_wp2_with fail
      refine bodyPost_ret (v := .tuple #[.string ⟨#[]⟩, .bool false]) (by simp [results, Tryd.results28, go_sem]) rfl ?_
      rw [HQ.out, HR.out]
      exact ⟨rfl, hB⟩
end Go.Proofs.YtlhhdpjnoainiaaDoor
