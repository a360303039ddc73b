/- Draws of a secret to be split. -/
import Derived.Test.YtgkjgaijjihmgaaA30
namespace Go.Proofs.Ytgkjgaijjihmgaa
open Go.RowKit
set_option maxRecDepth 100000
set_option maxHeartbeats 400000
theorem l01PickInt_m (b n c : Nat) (l : List Int) (base B : Nat) (w : World) (hc : Cur w base B) (hr : Rd w w.heap.size 1 (some ⟨b, 0, none⟩) n (iC l)) (hb : b < w.heap.size) (hne : b ≠ B) (hn0 : 0 < n) (hn : n ≤ 4096) :
    Calls Try.prog 36 #[.pointer (some ⟨B, 0, none⟩), .slice (some ⟨b, 0, none⟩) n c] w (CurI (fun r => r ∈ l) base B w) := by
  go_enter Try.func36, Try.ntmps36
  go_wp2_with fail
  refine (l01Below_c n base B _ hc (by omega)).mono ?_
  rintro e w1 ⟨r, ⟨r0, _, r1⟩, rfl, hc1, hm1⟩
  obtain ⟨k, rfl⟩ := Int.eq_ofNat_of_zero_le r0
  have hk : k < n := by omega
  have hr1 := hr.keepb (w' := w1) (hm1.block b hb (by omega))
  obtain ⟨b', off', e, _, hl, hcell⟩ := hr1.int_ hk
  injection e with e
  injection e with e1 e2
  subst e1; subst e2
  simp only [Nat.zero_add] at hcell
  clear hr1 r1
  go_wp2_with fail
  go_ret
  exact ⟨_, List.getElem_mem hl, rfl, hc1, hm1⟩
/-- a pick out of a row that has just been laid -/
theorem pickNew (n : Nat) (l : List Int) (vs : Array Value) (base B : Nat) (w : World) (hc : Cur w base B) (hv : vs.toList = iC l) (hl : l.length = n) (hn0 : 0 < n) (hn : n ≤ 4096) :
    Calls Try.prog 36 #[.pointer (some ⟨B, 0, none⟩), .slice (some ⟨w.heap.size, 0, none⟩) n n] (w.alloc (.cells vs 3)) (CurI (fun r => r ∈ l) base B w) := by
  have hq : Below w.heap.size w (w.alloc (.cells vs 3)) := (Below.refl _ _).alloc (Nat.le_refl _) _
  have hBlt : B < w.heap.size := by obtain ⟨A, m, c, l, i, h, hB, _⟩ := hc; exact hB.lt
  have hrd : Rd (w.alloc (.cells vs 3)) (w.heap.size + 1) 1 (some ⟨w.heap.size, 0, none⟩) n (iC l) := by
    have h := (Ow.made w vs 3 n 1 (by have := congrArg List.length hv; rw [iC_length, hl] at this; simp at this; omega) (by omega)).rd
    rw [hv] at h
    exact h
  refine (l01PickInt_m w.heap.size n n l base B _ (hc.below hq) (hrd.mono (by simp)) (by simp) (by omega) hn0 hn).mono ?_
  rintro e w' ⟨r, hr, he, hc', hm⟩
  exact ⟨r, hr, he, hc', (Mk.of_below hq).trans hm⟩
theorem l03DrawSeed_c (base B : Nat) (w : World) (hc : Cur w base B) : Calls Try.prog 37 #[.pointer (some ⟨B, 0, none⟩)] w (CurI (fun _ => True) base B w) := by
  have HCC := hide hc
  clear hc
  go_enter Try.func37, Try.ntmps37
  go_wp2_with fail
  refine (l01Below_c 16777216 base B _ HCC.out (by omega)).mono ?_
  rintro e w1 ⟨r1, ⟨b1, b2, _⟩, rfl, hc1, hm1⟩
  have HC1 := hide hc1
  have HM1 := hide hm1
  clear hc1 hm1
  go_wp2_with fail
  refine (l01Below_c 16777216 base B _ HC1.out (by omega)).mono ?_
  rintro e w2 ⟨r2, ⟨b3, b4, _⟩, rfl, hc2, hm2⟩
  have HC2 := hide hc2
  have HM2 := hide (HM1.out.trans hm2)
  clear hc2 hm2
  go_wp2_with fail
  refine (pickNew 7 [0, 1, 2147483647, r1, r2 * 100, 2147483648, -1] _ base B w2 HC2.out rfl rfl (by omega) (by omega)).mono ?_
  rintro e w3 ⟨r, _, rfl, hc3, hm3⟩
  have HM3 := hide (HM2.out.trans hm3)
  have HC3 := hide hc3
  clear hc3 hm3
  go_wp2_with fail
  go_ret
  exact ⟨r, trivial, rfl, HC3.out, HM3.out⟩
/-- a secret, and three numbers -/
def DrawS (w : World) (en : Ending) (w' : World) : Prop :=
  ∃ (A : Option Addr) (c : Nat) (l : List UInt8) (n k seed : Int), en = .returned (.tuple #[.slice A l.length c, .int .i64 n, .int .i64 k, .int .i64 seed]) ∧ l.length ≤ 4096 ∧ l.length ≤ c ∧ w'.ownsRow w.heap.size 5 1 (.slice A l.length c) l.length (bC l) ∧ Below w.heap.size w w'
/-- what is left to draw behind the secret -/
theorem DrawSplitSecret_c (A : Option Addr) (n c : Nat) (l : List UInt8) (w : World) (hr : Rd w w.heap.size 1 A n (bC l)) (hn : n ≤ 1048576) : Calls Try.prog 7 #[.slice A n c] w (DrawS w) := by
  go_enter Try.func7, Try.ntmps7
  go_wp2_with fail
  refine (l01New_c A n c l _ hr hn).mono ?_
  rintro e w1 ⟨rfl, hc1, hb1⟩
  have HC1 := hide hc1
  have HB1 := hide hb1
  have hz1 := hb1.size
  have hBlt : w.heap.size < w1.heap.size := by obtain ⟨A, m, c, l, i, h, hB, _⟩ := hc1; exact hB.lt
  clear hc1 hb1
  go_wp2_with fail
  refine (l01Size_c A n c 20 _ hn).mono ?_
  rintro e w1' ⟨r1, hr1, rfl, rfl⟩
  go_wp2_with fail
  refine (l01Below_c r1 w.heap.size w.heap.size _ HC1.out (by omega)).mono ?_
  rintro e w2 ⟨r2, ⟨b1, b2, b3⟩, rfl, hc2, hm2⟩
  have HC2 := hide hc2
  have HM2 := hide hm2
  have hr2 : r2 ≤ 20 := by omega
  have hz2 := hm2.size
  clear hc2 hm2 b3 b2
  go_wp2_with fail
  refine (l01DrawBytes_c (1 + r2) w.heap.size w.heap.size _ HC2.out (by omega)).mono ?_
  rintro e w3 ⟨A3, c3, l3, rfl, hl3, hlc3, ho3, hc3, hm3⟩
  have HC3 := hide hc3
  have HM3 := hide (HM2.out.trans hm3)
  have HO3 := hide (own_mono (base' := w1.heap.size) ho3 hz2)
  have hz3 := hm3.size
  clear hc3 hm3 ho3
  go_wp2_with fail
  refine (l01Once_c 15 w.heap.size w.heap.size _ HC3.out (by omega)).mono ?_
  rintro e w4 ⟨r4, rfl, hc4, hm4⟩
  have HC4 := hide hc4
  have HM4 := hide (HM3.out.trans hm4)
  have HO4 := hide (own_mk HO3.out hm4 hBlt)
  have hz4 := hm4.size
  clear hc4 hm4
  have hl3' := hl3
  have hc3' := hlc3
  cases r4
  · skip
    go_wp2_with fail
    refine (l01Below_c 12 w.heap.size w.heap.size _ HC4.out (by omega)).mono ?_
    rintro e w6 ⟨r6, ⟨r6a, _, r6c⟩, rfl, hc, hm⟩
    have HC6 := hide hc
    have HM6 := hide (HM4.out.trans hm)
    have HO6 := hide (own_mk HO4.out hm hBlt)
    have r6b : r6 ≤ 12 := by omega
    clear hc hm r6c
    go_wp2_with fail
    refine (l01Below_c 12 w.heap.size w.heap.size _ HC6.out (by omega)).mono ?_
    rintro e w7 ⟨r7, ⟨r7a, _, r7c⟩, rfl, hc, hm⟩
    have HC7 := hide hc
    have HM7 := hide (HM6.out.trans hm)
    have HO7 := hide (own_mk HO6.out hm hBlt)
    have r7b : r7 ≤ 12 := by omega
    clear hc hm r7c
    go_wp2_with fail
    refine (l01Below_c 12 w.heap.size w.heap.size _ HC7.out (by omega)).mono ?_
    rintro e w8 ⟨r8, ⟨r8a, _, r8c⟩, rfl, hc, hm⟩
    have HC8 := hide hc
    have HM8 := hide (HM7.out.trans hm)
    have HO8 := hide (own_mk HO7.out hm hBlt)
    have r8b : r8 ≤ 12 := by omega
    clear hc hm r8c
    go_wp2_with fail
    refine (pickNew 6 [1 + r6, 1 + r7, 1 + r8, 12, 13, 0] _ w.heap.size w.heap.size w8 HC8.out rfl rfl (by omega) (by omega)).mono ?_
    rintro e w9 ⟨r9, r9m, rfl, hc, hm⟩
    have HC9 := hide hc
    have HM9 := hide (HM8.out.trans hm)
    have HO9 := hide (own_mk HO8.out hm hBlt)
    clear hc hm
    have r9a : 0 ≤ r9 ∧ r9 ≤ 13 := by simp only [List.mem_cons, List.not_mem_nil, or_false] at r9m; omega
    clear r9m
    go_wp2_with fail
    refine (l01Below_c r9 w.heap.size w.heap.size _ HC9.out (by omega)).mono ?_
    rintro e w10 ⟨ra, ⟨raa, _, rac⟩, rfl, hc, hm⟩
    have HC10 := hide hc
    have HM10 := hide (HM9.out.trans hm)
    have HO10 := hide (own_mk HO9.out hm hBlt)
    have rab : ra ≤ 13 := by omega
    clear hc hm rac
    go_wp2_with fail
    refine (l01Below_c r9 w.heap.size w.heap.size _ HC10.out (by omega)).mono ?_
    rintro e w11 ⟨rb, ⟨rba, _, rbc⟩, rfl, hc, hm⟩
    have HC11 := hide hc
    have HM11 := hide (HM10.out.trans hm)
    have HO11 := hide (own_mk HO10.out hm hBlt)
    have rbb : rb ≤ 13 := by omega
    clear hc hm rbc
    go_wp2_with fail
    refine (pickNew 6 [1, 1 + ra, 1 + rb, r9, r9 + 1, 0] _ w.heap.size w.heap.size w11 HC11.out rfl rfl (by omega) (by omega)).mono ?_
    rintro e w12 ⟨rc, rcm, rfl, hc, hm⟩
    have HC12 := hide hc
    have HM12 := hide (HM11.out.trans hm)
    have HO12 := hide (own_mk HO11.out hm hBlt)
    clear hc hm
    go_wp2_with fail
    refine (l03DrawSeed_c w.heap.size w.heap.size _ HC12.out).mono ?_
    rintro e w13 ⟨rd, _, rfl, hc, hm⟩
    have HM13 := hide (HM12.out.trans hm)
    have HO13 := hide (own_mk HO12.out hm hBlt)
    clear hc hm
    go_wp2_with fail
    refine bodyPost_ret (v := .tuple #[.slice A3 l3.length c3, .int .i64 r9, .int .i64 rc, .int .i64 rd]) (by simp [results, Try.results7, go_sem]) rfl ?_
    exact ⟨A3, c3, l3, r9, rc, rd, rfl, hl3, hlc3, own_mono HO13.out hz1, HB1.out.trans (HM13.out.below (Nat.le_refl _) hz1)⟩
  · go_wp2_with fail
    refine (pickNew 3 [0, 64, 65] _ w.heap.size w.heap.size w4 HC4.out rfl rfl (by omega) (by omega)).mono ?_
    rintro e w4' ⟨rp, rpm, rfl, hc, hm⟩
    have HCp := hide hc
    have HMp := hide (HM4.out.trans hm)
    have hzp := hm.size
    have rpb : rp ≤ 4096 := by simp only [List.mem_cons, List.not_mem_nil, or_false] at rpm; omega
    clear hc hm rpm
    go_wp2_with fail
    refine (l01DrawBytes_c rp w.heap.size w.heap.size _ HCp.out rpb).mono ?_
    rintro e w5 ⟨A5, c5, l5, rfl, hl5, hc5, ho, hc, hm⟩
    have HC5 := hide hc
    have HM5 := hide (HMp.out.trans hm)
    have HO5 := hide (own_mono (base' := w1.heap.size) ho (by omega))
    clear hc hm ho
    go_wp2_with fail
    refine (l01Below_c 12 w.heap.size w.heap.size _ HC5.out (by omega)).mono ?_
    rintro e w6 ⟨r6, ⟨r6a, _, r6c⟩, rfl, hc, hm⟩
    have HC6 := hide hc
    have HM6 := hide (HM5.out.trans hm)
    have HO6 := hide (own_mk HO5.out hm hBlt)
    have r6b : r6 ≤ 12 := by omega
    clear hc hm r6c
    go_wp2_with fail
    refine (l01Below_c 12 w.heap.size w.heap.size _ HC6.out (by omega)).mono ?_
    rintro e w7 ⟨r7, ⟨r7a, _, r7c⟩, rfl, hc, hm⟩
    have HC7 := hide hc
    have HM7 := hide (HM6.out.trans hm)
    have HO7 := hide (own_mk HO6.out hm hBlt)
    have r7b : r7 ≤ 12 := by omega
    clear hc hm r7c
    go_wp2_with fail
    refine (l01Below_c 12 w.heap.size w.heap.size _ HC7.out (by omega)).mono ?_
    rintro e w8 ⟨r8, ⟨r8a, _, r8c⟩, rfl, hc, hm⟩
    have HC8 := hide hc
    have HM8 := hide (HM7.out.trans hm)
    have HO8 := hide (own_mk HO7.out hm hBlt)
    have r8b : r8 ≤ 12 := by omega
    clear hc hm r8c
    go_wp2_with fail
    refine (pickNew 6 [1 + r6, 1 + r7, 1 + r8, 12, 13, 0] _ w.heap.size w.heap.size w8 HC8.out rfl rfl (by omega) (by omega)).mono ?_
    rintro e w9 ⟨r9, r9m, rfl, hc, hm⟩
    have HC9 := hide hc
    have HM9 := hide (HM8.out.trans hm)
    have HO9 := hide (own_mk HO8.out hm hBlt)
    clear hc hm
    have r9a : 0 ≤ r9 ∧ r9 ≤ 13 := by simp only [List.mem_cons, List.not_mem_nil, or_false] at r9m; omega
    clear r9m
    go_wp2_with fail
    refine (l01Below_c r9 w.heap.size w.heap.size _ HC9.out (by omega)).mono ?_
    rintro e w10 ⟨ra, ⟨raa, _, rac⟩, rfl, hc, hm⟩
    have HC10 := hide hc
    have HM10 := hide (HM9.out.trans hm)
    have HO10 := hide (own_mk HO9.out hm hBlt)
    have rab : ra ≤ 13 := by omega
    clear hc hm rac
    go_wp2_with fail
    refine (l01Below_c r9 w.heap.size w.heap.size _ HC10.out (by omega)).mono ?_
    rintro e w11 ⟨rb, ⟨rba, _, rbc⟩, rfl, hc, hm⟩
    have HC11 := hide hc
    have HM11 := hide (HM10.out.trans hm)
    have HO11 := hide (own_mk HO10.out hm hBlt)
    have rbb : rb ≤ 13 := by omega
    clear hc hm rbc
    go_wp2_with fail
    refine (pickNew 6 [1, 1 + ra, 1 + rb, r9, r9 + 1, 0] _ w.heap.size w.heap.size w11 HC11.out rfl rfl (by omega) (by omega)).mono ?_
    rintro e w12 ⟨rc, rcm, rfl, hc, hm⟩
    have HC12 := hide hc
    have HM12 := hide (HM11.out.trans hm)
    have HO12 := hide (own_mk HO11.out hm hBlt)
    clear hc hm
    go_wp2_with fail
    refine (l03DrawSeed_c w.heap.size w.heap.size _ HC12.out).mono ?_
    rintro e w13 ⟨rd, _, rfl, hc, hm⟩
    have HM13 := hide (HM12.out.trans hm)
    have HO13 := hide (own_mk HO12.out hm hBlt)
    clear hc hm
    go_wp2_with fail
    refine bodyPost_ret (v := .tuple #[.slice A5 l5.length c5, .int .i64 r9, .int .i64 rc, .int .i64 rd]) (by simp [results, Try.results7, go_sem]) rfl ?_
    exact ⟨A5, c5, l5, r9, rc, rd, rfl, hl5, hc5, own_mono HO13.out hz1, HB1.out.trans (HM13.out.below (Nat.le_refl _) hz1)⟩
end Go.Proofs.Ytgkjgaijjihmgaa
