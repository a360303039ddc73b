/- The laws of drawn globs and paths: each returns true; each contract says for which arguments. -/
import Derived.Test.YtlhhdpjnoainiaaDoorBD4
import Derived.Test.YtlhhdpjnoainiaaDoorBLaw1
namespace Go.Proofs.YtlhhdpjnoainiaaDoor
open Go.RowKit
set_option maxRecDepth 100000
set_option maxHeartbeats 1000000
theorem joinOk_prt {s : ByteArray} (h : globB s = true) : joinOk (prt 47 s) = true := by
  unfold joinOk; rw [join_prt, h]; simp
theorem joinA_prt {s : ByteArray} (h : globB s = true) : joinA (prt 47 s) = s := by
  unfold joinA; rw [if_pos (joinOk_prt h), join_prt]
theorem splitA_ok {s : ByteArray} (h : globB s = true) : splitA s = prt 47 s := if_pos h
theorem parA_laws {p : ByteArray} (h : parOk p = true) : underB (parA p) p = true ∧ underB p (parA p) = false ∧ (parA p).size ≤ p.size := by
  have h' := h
  simp only [parOk, Bool.and_eq_true, decide_eq_true_eq] at h'
  have e : parA p = parentB p := if_pos h
  rw [e]
  obtain ⟨h1, h2⟩ := parent_under h'.2
  have h3 := parent_path h'.1 h'.2
  refine ⟨by simp [underB, h1, h3, h'.1], by simp [underB, h2], ?_⟩
  obtain ⟨q, hq, _⟩ := prt_getLast p
  have hd := congrArg List.length (parent_data h'.2 hq)
  simp at hd
  omega
theorem fnPaths_walk (A : Option Addr) (n c : Nat) (l : List UInt8) (w : World) (hg : GM w) (hr : Rd w w.heap.size 1 A n (bC l)) :
    Calls Tryd.prog 8 #[.slice A n c] w (RetV (.bool true) w) := by
  by_cases hbig : 1048576 < n
  · have hbd := hr.bd
    have hbg : decide (1048576 < n) = true := decide_eq_true hbig
    have C0 := hide (big_c A n c w hbd)
    go_enter Tryd.func8, Tryd.ntmps8
    go_wp2_with fail
    refine C0.out.mono ?_
    rintro e w0 ⟨rfl, rfl⟩
    rw [hbg]
    go_wp2_with fail
    go_ret
    exact ⟨rfl, Below.refl _ _⟩
  have hn : n ≤ 1048576 := by omega
  have hbg : decide (1048576 < n) = false := decide_eq_false hbig
  have C0 := hide (big_c A n c w (by omega))
  clear hbig
  go_enter Tryd.func8, Tryd.ntmps8
  go_wp2_with fail
  refine C0.out.mono ?_
  rintro e w0 ⟨rfl, rfl⟩
  rw [hbg]
  clear C0 hbg
  go_wp2_with fail
  refine (DrawSplitPath_c A n c l _ hr hn).mono ?_
  rintro e w1 ⟨s, hs, rfl, hb1⟩
  have HB1 := hide hb1
  clear hb1
  go_wp2_with fail
  refine (GlobOk_s s _ (by omega)).mono ?_
  rintro e w2 ⟨rfl, hb2⟩
  have HB2 := hide (then_ HB1.out hb2 HB1.out.size)
  clear hb2
  cases hgl : globB s
  · have hB := HB2
    clear hgl
    go_wp2_with fail
    refine (alt_c A n c l 1 _ (hr.up hB.out) hn).mono ?_
    rintro e v1 ⟨A1, n1, c1, l1, rfl, hn1, hr1, hb1⟩
    have HB1 := hide (then_ hB.out hb1 hB.out.size)
    clear hb1
    go_wp2_with fail
    refine (DrawParentPath_c A1 n1 c1 l1 _ hr1 hn1).mono ?_
    rintro e v2 ⟨p, hp, rfl, hb2⟩
    have HB2 := hide (then_ HB1.out hb2 HB1.out.size)
    clear hb2 hr1
    go_wp2_with fail
    refine (ParentPath_s p _ (by omega)).mono ?_
    rintro e v3 ⟨rfl, hb3⟩
    have HB3 := hide (then_ HB2.out hb3 HB2.out.size)
    clear hb3
    have C2 := hide fun (w : World) (hg : GM w) => ParentPath_i p w hg (by omega)
    have HL := hide fun h : parOk p = true => parA_laws h
    have C3 := hide fun (w : World) (hg : GM w) (h : (parA p).size ≤ p.size) => UnderPath_i (parA p) p w hg (by omega) (by omega)
    have C4 := hide fun (w : World) (hg : GM w) (h : (parA p).size ≤ p.size) => UnderPath_i p (parA p) w hg (by omega) (by omega)
    generalize parOk p = ok at C2 HL ⊢
    generalize parA p = q at C2 HL C3 C4 ⊢
    cases ok
    · go_wp2_with fail
      go_ret
      exact ⟨rfl, HB3.out⟩
    · obtain ⟨h1, h2, h3⟩ := HL.out rfl
      have H1 := hide h1
      have H2 := hide h2
      have H3 := hide h3
      have hqq : (q.toList == q.toList) = true := by simp
      clear h1 h2 h3
      go_wp2_with fail
      refine (C2.out _ (hg.up HB3.out)).mono ?_
      rintro e v4 ⟨rfl, hb4⟩
      have HB4 := hide (then_ HB3.out hb4 HB3.out.size)
      clear hb4
      go_wp2_with fail
      refine (C3.out _ (hg.up HB4.out) H3.out).mono ?_
      rintro e v5 ⟨rfl, hb5⟩
      have HB5 := hide (then_ HB4.out hb5 HB4.out.size)
      clear hb5
      rw [H1.out]
      go_wp2_with fail
      refine (C4.out _ (hg.up HB5.out) H3.out).mono ?_
      rintro e v6 ⟨rfl, hb6⟩
      have HB6 := hide (then_ HB5.out hb6 HB5.out.size)
      clear hb6
      rw [H2.out]
      go_wp2_with fail
      go_ret
      exact ⟨rfl, HB6.out⟩
  · have CJ := hide fun (w : World) (A : Option Addr) (c : Nat) (hg : GM w) (hr : Rd w w.heap.size 1 A (prt 47 s).length (sC (prt 47 s))) (hc : (prt 47 s).length ≤ c) (hN : (prt 47 s).length ≤ 1000) => JoinPath_i A c (prt 47 s) w hg hr hc (by omega) (by rw [join_prt]; omega)
    have CS := hide fun (w : World) (hg : GM w) => SplitPath_i s w hg (by omega)
    have hN : (prt 47 s).length ≤ 1000 := by have := prt_length_le 47 s; omega
    rw [joinA_prt hgl, joinOk_prt hgl] at CJ
    rw [splitA_ok hgl, hgl] at CS
    have hss : (s.toList == s.toList) = true := by simp
    have hss2 : (s.toList != s.toList) = false := by simp
    clear hgl
    generalize prt 47 s = S at CJ CS hN
    go_wp2_with fail
    refine (CS.out _ (hg.up HB2.out)).mono ?_
    rintro e w3 ⟨A3, c3, rfl, hc3, hown3, hb3⟩
    have HB3 := hide (then_ HB2.out hb3 HB2.out.size)
    have hr3 := own_rd hown3
    clear hb3 hown3
    go_wp2_with fail
    refine (CJ.out _ A3 c3 (hg.up HB3.out) hr3 hc3 hN).mono ?_
    rintro e w4 ⟨rfl, hb4⟩
    have hB := hide (then_ HB3.out hb4 HB3.out.size)
    clear hb4 hr3
    go_wp2_with fail
    refine (alt_c A n c l 1 _ (hr.up hB.out) hn).mono ?_
    rintro e v1 ⟨A1, n1, c1, l1, rfl, hn1, hr1, hb1⟩
    have HB1 := hide (then_ hB.out hb1 hB.out.size)
    clear hb1
    go_wp2_with fail
    refine (DrawParentPath_c A1 n1 c1 l1 _ hr1 hn1).mono ?_
    rintro e v2 ⟨p, hp, rfl, hb2⟩
    have HB2 := hide (then_ HB1.out hb2 HB1.out.size)
    clear hb2 hr1
    go_wp2_with fail
    refine (ParentPath_s p _ (by omega)).mono ?_
    rintro e v3 ⟨rfl, hb3⟩
    have HB3 := hide (then_ HB2.out hb3 HB2.out.size)
    clear hb3
    have C2 := hide fun (w : World) (hg : GM w) => ParentPath_i p w hg (by omega)
    have HL := hide fun h : parOk p = true => parA_laws h
    have C3 := hide fun (w : World) (hg : GM w) (h : (parA p).size ≤ p.size) => UnderPath_i (parA p) p w hg (by omega) (by omega)
    have C4 := hide fun (w : World) (hg : GM w) (h : (parA p).size ≤ p.size) => UnderPath_i p (parA p) w hg (by omega) (by omega)
    generalize parOk p = ok at C2 HL ⊢
    generalize parA p = q at C2 HL C3 C4 ⊢
    cases ok
    · go_wp2_with fail
      go_ret
      exact ⟨rfl, HB3.out⟩
    · obtain ⟨h1, h2, h3⟩ := HL.out rfl
      have H1 := hide h1
      have H2 := hide h2
      have H3 := hide h3
      have hqq : (q.toList == q.toList) = true := by simp
      clear h1 h2 h3
      go_wp2_with fail
      refine (C2.out _ (hg.up HB3.out)).mono ?_
      rintro e v4 ⟨rfl, hb4⟩
      have HB4 := hide (then_ HB3.out hb4 HB3.out.size)
      clear hb4
      go_wp2_with fail
      refine (C3.out _ (hg.up HB4.out) H3.out).mono ?_
      rintro e v5 ⟨rfl, hb5⟩
      have HB5 := hide (then_ HB4.out hb5 HB4.out.size)
      clear hb5
      rw [H1.out]
      go_wp2_with fail
      refine (C4.out _ (hg.up HB5.out) H3.out).mono ?_
      rintro e v6 ⟨rfl, hb6⟩
      have HB6 := hide (then_ HB5.out hb6 HB5.out.size)
      clear hb6
      rw [H2.out]
      go_wp2_with fail
      go_ret
      exact ⟨rfl, HB6.out⟩
theorem cmpG_laws {a b : ByteArray} (ha : globB a = true) (hb : globB b = true) : cmpG b a = - cmpG a b ∧ cmpG a a = 0 ∧ -1 ≤ cmpG a b ∧ cmpG a b ≤ 1 := by
  have h1 := cmpF_swap (prt 47 a) (prt 47 b) 8 0
  have h2 := cmpF_self (prt 47 a) 8 0
  have h3 := cmpF_bd (prt 47 a) (prt 47 b) 8 0
  simp only [cmpG, cmpA, ha, hb, Bool.and_self, if_true]
  refine ⟨h1, h2, ?_, ?_⟩ <;> omega
theorem cmpG_trans {a b c : ByteArray} (ha : globB a = true) (hb : globB b = true) (hc : globB c = true) (h1 : ¬ cmpG a b < 0) (h2 : ¬ cmpG b c < 0) : 0 ≤ cmpG a c := by
  simp only [cmpG, cmpA, ha, hb, hc, Bool.and_self, if_true] at *
  exact cmpF_trans _ (prt 47 b) _ 8 0 (by omega) (by omega)
theorem cover_match {a p : ByteArray} (hp : pathB p = true) : coverB a p = matchB a p := by
  have h' := hp
  simp only [pathB, Bool.and_eq_true] at h'
  simp [coverB, matchB, hp, h'.1]
theorem cover_trans {a b p : ByteArray} (h1 : coverB a b = true) (h2 : matchB b p = true) : matchB a p = true := by
  simp only [coverB, matchB, coversB, Bool.and_eq_true] at *
  exact ⟨h2.1, h1.2.1, covA_trans _ _ _ h1.2.2 h2.2.2⟩
theorem fnGlobOrder_walk (A : Option Addr) (n c : Nat) (l : List UInt8) (w : World) (hg : GM w) (hr : Rd w w.heap.size 1 A n (bC l)) :
    Calls Tryd.prog 12 #[.slice A n c] w (RetV (.bool true) w) := by
  by_cases hbig : 1048576 < n
  · have hbd := hr.bd
    have hbg : decide (1048576 < n) = true := decide_eq_true hbig
    have C0 := hide (big_c A n c w hbd)
    go_enter Tryd.func12, Tryd.ntmps12
    go_wp2_with fail
    refine C0.out.mono ?_
    rintro e w0 ⟨rfl, rfl⟩
    rw [hbg]
    go_wp2_with fail
    go_ret
    exact ⟨rfl, Below.refl _ _⟩
  have hn : n ≤ 1048576 := by omega
  have hbg : decide (1048576 < n) = false := decide_eq_false hbig
  have C0 := hide (big_c A n c w (by omega))
  clear hbig
  go_enter Tryd.func12, Tryd.ntmps12
  go_wp2_with fail
  refine C0.out.mono ?_
  rintro e w0 ⟨rfl, rfl⟩
  rw [hbg]
  clear C0 hbg
  go_wp2_with fail
  refine (DrawCompareGlob_c A n c l _ hr hn).mono ?_
  rintro e w1 ⟨a, b, ha, hb, rfl, hb1⟩
  have HB1 := hide hb1
  clear hb1
  go_wp2_with fail
  refine (alt_c A n c l 3 _ (hr.up HB1.out) hn).mono ?_
  rintro e w2 ⟨A1, n1, c1, l1, rfl, hn1, hr1, hb2⟩
  have HB2 := hide (then_ HB1.out hb2 HB1.out.size)
  clear hb2
  go_wp2_with fail
  refine (DrawCompareGlob_c A1 n1 c1 l1 _ hr1 hn1).mono ?_
  rintro e w3 ⟨g, h, hc, hd, rfl, hb3⟩
  have HB3 := hide (then_ HB2.out hb3 HB2.out.size)
  clear hb3 hr1 hr
  have I := hide fun (x y : ByteArray) (w : World) (hg : GM w) (hx : x.size ≤ 200) (hy : y.size ≤ 200) => CompareGlob_i x y w hg (by omega) (by omega)
  have S := hide fun (x y : ByteArray) (w : World) (hx : x.size ≤ 200) (hy : y.size ≤ 200) => CompareGlob_s x y w (by omega) (by omega)
  have HS := hide (⟨ha, hb, hc⟩ : a.size ≤ 200 ∧ b.size ≤ 200 ∧ g.size ≤ 200)
  have G := hide fun (x : ByteArray) (w : World) (hx : x.size ≤ 200) => GlobOk_s x w (by omega)
  clear ha hb hc hd
  go_wp2_with fail
  refine (G.out a _ HS.out.1).mono ?_
  rintro e w4 ⟨rfl, hb4⟩
  have HB4 := hide (then_ HB3.out hb4 HB3.out.size)
  clear hb4
  cases hga : globB a
  · go_wp2_with fail
    go_ret
    exact ⟨rfl, HB4.out⟩
  have HGA := hide hga
  clear hga
  go_wp2_with fail
  refine (G.out b _ HS.out.2.1).mono ?_
  rintro e w5 ⟨rfl, hb5⟩
  have HB5 := hide (then_ HB4.out hb5 HB4.out.size)
  clear hb5
  cases hgb : globB b
  · go_wp2_with fail
    go_ret
    exact ⟨rfl, HB5.out⟩
  have HGB := hide hgb
  clear hgb
  go_wp2_with fail
  refine (G.out g _ HS.out.2.2).mono ?_
  rintro e w6 ⟨rfl, hb6⟩
  have HB6 := hide (then_ HB5.out hb6 HB5.out.size)
  clear hb6
  cases hgc : globB g
  · go_wp2_with fail
    go_ret
    exact ⟨rfl, HB6.out⟩
  obtain ⟨l1, l2, l3, l4⟩ := cmpG_laws HGA.out HGB.out
  have HT := hide (cmpG_trans HGA.out HGB.out hgc)
  have L1 := hide l1
  have L2 := hide l2
  clear l1 l2 hgc
  generalize hX : cmpG a b = X at l3 l4 HT L1
  generalize hY : cmpG b g = Y at HT
  generalize hZ : cmpG a g = Z at HT
  have HX := hide hX
  have HY := hide hY
  have HZ := hide hZ
  have hxx : (X != X) = false := by simp
  have hxx2 : (-X != -X) = false := by simp
  clear hX hY hZ
  go_wp2_with fail
  refine (I.out a b _ (hg.up HB6.out) HS.out.1 HS.out.2.1).mono ?_
  rintro e w7 ⟨rfl, hb7⟩
  have HB7 := hide (then_ HB6.out hb7 HB6.out.size)
  clear hb7
  rw [HX.out]
  go_wp2_with fail
  refine (I.out b g _ (hg.up HB7.out) HS.out.2.1 HS.out.2.2).mono ?_
  rintro e w8 ⟨rfl, hb8⟩
  have HB8 := hide (then_ HB7.out hb8 HB7.out.size)
  clear hb8
  rw [HY.out]
  go_wp2_with fail
  refine (S.out a b _ HS.out.1 HS.out.2.1).mono ?_
  rintro e w9 ⟨rfl, hb9⟩
  have HB9 := hide (then_ HB8.out hb9 HB8.out.size)
  clear hb9
  rw [HX.out]
  go_wp2_with fail
  refine (I.out b a _ (hg.up HB9.out) HS.out.2.1 HS.out.1).mono ?_
  rintro e w10 ⟨rfl, hb10⟩
  have HB10 := hide (then_ HB9.out hb10 HB9.out.size)
  clear hb10
  rw [L1.out]
  go_wp2_with fail
  refine (I.out a a _ (hg.up HB10.out) HS.out.1 HS.out.1).mono ?_
  rintro e w11 ⟨rfl, hb11⟩
  have HB11 := hide (then_ HB10.out hb11 HB10.out.size)
  clear hb11
  rw [L2.out]
  by_cases hx0 : X < 0
  · go_wp2_with fail
    go_ret
    exact ⟨rfl, HB11.out⟩
  · by_cases hy0 : Y < 0
    · go_wp2_with fail
      go_ret
      exact ⟨rfl, HB11.out⟩
    · have hz : 0 ≤ Z := HT.out (by omega) (by omega)
      go_wp2_with fail
      refine (I.out a g _ (hg.up HB11.out) HS.out.1 HS.out.2.2).mono ?_
      rintro e w12 ⟨rfl, hb12⟩
      have HB12 := hide (then_ HB11.out hb12 HB11.out.size)
      clear hb12
      rw [HZ.out]
      go_wp2_with fail
      go_ret
      exact ⟨rfl, HB12.out⟩
theorem fnCovers_walk (A : Option Addr) (n c : Nat) (l : List UInt8) (w : World) (hg : GM w) (hr : Rd w w.heap.size 1 A n (bC l)) :
    Calls Tryd.prog 14 #[.slice A n c] w (RetV (.bool true) w) := by
  by_cases hbig : 1048576 < n
  · have hbd := hr.bd
    have hbg : decide (1048576 < n) = true := decide_eq_true hbig
    have C0 := hide (big_c A n c w hbd)
    go_enter Tryd.func14, Tryd.ntmps14
    go_wp2_with fail
    refine C0.out.mono ?_
    rintro e w0 ⟨rfl, rfl⟩
    rw [hbg]
    go_wp2_with fail
    go_ret
    exact ⟨rfl, Below.refl _ _⟩
  have hn : n ≤ 1048576 := by omega
  have hbg : decide (1048576 < n) = false := decide_eq_false hbig
  have C0 := hide (big_c A n c w (by omega))
  clear hbig
  go_enter Tryd.func14, Tryd.ntmps14
  go_wp2_with fail
  refine C0.out.mono ?_
  rintro e w0 ⟨rfl, rfl⟩
  rw [hbg]
  clear C0 hbg
  go_wp2_with fail
  refine (DrawCovers_c A n c l _ hr hn).mono ?_
  rintro e w1 ⟨a, b, ha, hb, rfl, hb1⟩
  have HB1 := hide hb1
  clear hb1
  go_wp2_with fail
  refine (alt_c A n c l 2 _ (hr.up HB1.out) hn).mono ?_
  rintro e w2 ⟨A1, n1, c1, l1, rfl, hn1, hr1, hb2⟩
  have HB2 := hide (then_ HB1.out hb2 HB1.out.size)
  clear hb2
  go_wp2_with fail
  refine (DrawMatchGlob_c A1 n1 c1 l1 _ hr1 hn1).mono ?_
  rintro e w3 ⟨h, p, hc, hd, rfl, hb3⟩
  have HB3 := hide (then_ HB2.out hb3 HB2.out.size)
  clear hb3 hr1 hr
  have CI := hide fun (x y : ByteArray) (w : World) (hg : GM w) (hx : x.size ≤ 200) (hy : y.size ≤ 200) => Covers_i x y w hg (by omega) (by omega)
  have CS := hide fun (x y : ByteArray) (w : World) (hx : x.size ≤ 200) (hy : y.size ≤ 200) => Covers_s x y w (by omega) (by omega)
  have MI := hide fun (x y : ByteArray) (w : World) (hg : GM w) (hx : x.size ≤ 200) (hy : y.size ≤ 200) => MatchGlob_i x y w hg (by omega) (by omega)
  have MS := hide fun (x y : ByteArray) (w : World) (hx : x.size ≤ 200) (hy : y.size ≤ 200) => MatchGlob_s x y w (by omega) (by omega)
  have HS := hide (⟨ha, hb, hd⟩ : a.size ≤ 200 ∧ b.size ≤ 200 ∧ p.size ≤ 200)
  have G := hide fun (x : ByteArray) (w : World) (hx : x.size ≤ 200) => GlobOk_s x w (by omega)
  have P := hide fun (x : ByteArray) (w : World) (hx : x.size ≤ 200) => PathOk_s x w (by omega)
  have HCM := hide fun h : pathB p = true => cover_match (a := a) h
  have HCT := hide fun (h1 : coverB a b = true) (h2 : matchB b p = true) => cover_trans h1 h2
  clear ha hb hc hd
  go_wp2_with fail
  refine (G.out a _ HS.out.1).mono ?_
  rintro e w4 ⟨rfl, hb4⟩
  have HB4 := hide (then_ HB3.out hb4 HB3.out.size)
  clear hb4
  cases hga : globB a
  · clear hga
    have HBi := HB4
    go_wp2_with fail
    refine (CI.out a b _ (hg.up HBi.out) HS.out.1 HS.out.2.1).mono ?_
    rintro e w20 ⟨rfl, hb20⟩
    have HB20 := hide (then_ HBi.out hb20 HBi.out.size)
    clear hb20
    cases hcb : coverB a b
    · go_wp2_with fail
      refine (CS.out a b _ HS.out.1 HS.out.2.1).mono ?_
      rintro e w21 ⟨rfl, hb21⟩
      have HB21 := hide (then_ HB20.out hb21 HB20.out.size)
      clear hb21
      rw [hcb]
      go_wp2_with fail
      go_ret
      exact ⟨rfl, HB21.out⟩
    · go_wp2_with fail
      refine (CS.out a b _ HS.out.1 HS.out.2.1).mono ?_
      rintro e w21 ⟨rfl, hb21⟩
      have HB21 := hide (then_ HB20.out hb21 HB20.out.size)
      clear hb21
      rw [hcb]
      go_wp2_with fail
      refine (MS.out b p _ HS.out.2.1 HS.out.2.2).mono ?_
      rintro e w22 ⟨rfl, hb22⟩
      have HB22 := hide (then_ HB21.out hb22 HB21.out.size)
      clear hb22
      cases hmb : matchB b p
      · go_wp2_with fail
        go_ret
        exact ⟨rfl, HB22.out⟩
      · have HMA := hide (HCT.out hcb hmb)
        go_wp2_with fail
        refine (MI.out a p _ (hg.up HB22.out) HS.out.1 HS.out.2.2).mono ?_
        rintro e w23 ⟨rfl, hb23⟩
        have HB23 := hide (then_ HB22.out hb23 HB22.out.size)
        clear hb23
        rw [HMA.out]
        go_wp2_with fail
        go_ret
        exact ⟨rfl, HB23.out⟩
  · clear hga
    go_wp2_with fail
    refine (P.out p _ HS.out.2.2).mono ?_
    rintro e w5 ⟨rfl, hb5⟩
    have HB5 := hide (then_ HB4.out hb5 HB4.out.size)
    clear hb5
    cases hpp : pathB p
    · clear hpp
      have HBi := HB5
      go_wp2_with fail
      refine (CI.out a b _ (hg.up HBi.out) HS.out.1 HS.out.2.1).mono ?_
      rintro e w20 ⟨rfl, hb20⟩
      have HB20 := hide (then_ HBi.out hb20 HBi.out.size)
      clear hb20
      cases hcb : coverB a b
      · go_wp2_with fail
        refine (CS.out a b _ HS.out.1 HS.out.2.1).mono ?_
        rintro e w21 ⟨rfl, hb21⟩
        have HB21 := hide (then_ HB20.out hb21 HB20.out.size)
        clear hb21
        rw [hcb]
        go_wp2_with fail
        go_ret
        exact ⟨rfl, HB21.out⟩
      · go_wp2_with fail
        refine (CS.out a b _ HS.out.1 HS.out.2.1).mono ?_
        rintro e w21 ⟨rfl, hb21⟩
        have HB21 := hide (then_ HB20.out hb21 HB20.out.size)
        clear hb21
        rw [hcb]
        go_wp2_with fail
        refine (MS.out b p _ HS.out.2.1 HS.out.2.2).mono ?_
        rintro e w22 ⟨rfl, hb22⟩
        have HB22 := hide (then_ HB21.out hb22 HB21.out.size)
        clear hb22
        cases hmb : matchB b p
        · go_wp2_with fail
          go_ret
          exact ⟨rfl, HB22.out⟩
        · have HMA := hide (HCT.out hcb hmb)
          go_wp2_with fail
          refine (MI.out a p _ (hg.up HB22.out) HS.out.1 HS.out.2.2).mono ?_
          rintro e w23 ⟨rfl, hb23⟩
          have HB23 := hide (then_ HB22.out hb23 HB22.out.size)
          clear hb23
          rw [HMA.out]
          go_wp2_with fail
          go_ret
          exact ⟨rfl, HB23.out⟩
    · have hcm := HCM.out hpp
      have HQ := hide hcm
      clear hcm hpp
      go_wp2_with fail
      refine (CI.out a p _ (hg.up HB5.out) HS.out.1 HS.out.2.2).mono ?_
      rintro e w6 ⟨rfl, hb6⟩
      have HB6 := hide (then_ HB5.out hb6 HB5.out.size)
      clear hb6
      rw [HQ.out]
      go_wp2_with fail
      refine (MI.out a p _ (hg.up HB6.out) HS.out.1 HS.out.2.2).mono ?_
      rintro e w7 ⟨rfl, hb7⟩
      have HB7 := hide (then_ HB6.out hb7 HB6.out.size)
      clear hb7
      have HBi := HB7
      generalize hM : matchB a p = M
      have HM := hide hM
      clear hM
      have hmm : (M != M) = false := by simp
      go_wp2_with fail
      refine (CI.out a b _ (hg.up HBi.out) HS.out.1 HS.out.2.1).mono ?_
      rintro e w20 ⟨rfl, hb20⟩
      have HB20 := hide (then_ HBi.out hb20 HBi.out.size)
      clear hb20
      cases hcb : coverB a b
      · go_wp2_with fail
        refine (CS.out a b _ HS.out.1 HS.out.2.1).mono ?_
        rintro e w21 ⟨rfl, hb21⟩
        have HB21 := hide (then_ HB20.out hb21 HB20.out.size)
        clear hb21
        rw [hcb]
        go_wp2_with fail
        go_ret
        exact ⟨rfl, HB21.out⟩
      · go_wp2_with fail
        refine (CS.out a b _ HS.out.1 HS.out.2.1).mono ?_
        rintro e w21 ⟨rfl, hb21⟩
        have HB21 := hide (then_ HB20.out hb21 HB20.out.size)
        clear hb21
        rw [hcb]
        go_wp2_with fail
        refine (MS.out b p _ HS.out.2.1 HS.out.2.2).mono ?_
        rintro e w22 ⟨rfl, hb22⟩
        have HB22 := hide (then_ HB21.out hb22 HB21.out.size)
        clear hb22
        cases hmb : matchB b p
        · go_wp2_with fail
          go_ret
          exact ⟨rfl, HB22.out⟩
        · have HMA := hide (HCT.out hcb hmb)
          go_wp2_with fail
          refine (MI.out a p _ (hg.up HB22.out) HS.out.1 HS.out.2.2).mono ?_
          rintro e w23 ⟨rfl, hb23⟩
          have HB23 := hide (then_ HB22.out hb23 HB22.out.size)
          clear hb23
          rw [HMA.out]
          go_wp2_with fail
          go_ret
          exact ⟨rfl, HB23.out⟩
end Go.Proofs.YtlhhdpjnoainiaaDoor
