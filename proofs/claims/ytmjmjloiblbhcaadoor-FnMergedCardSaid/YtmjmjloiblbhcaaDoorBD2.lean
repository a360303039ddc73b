/- What drawn texts are (no longer than so many letters); each contract says for which arguments. -/
import Derived.Test.YtmjmjloiblbhcaaDoorBD1
namespace Go.Proofs.YtmjmjloiblbhcaaDoor
open Go.RowKit
set_option maxRecDepth 100000
set_option maxHeartbeats 400000
/-- a text of at most m letters, the cursor gone on -/
def CurS (m : Nat) (base B : Nat) (w : World) (en : Ending) (w' : World) : Prop := ∃ s : ByteArray, s.size ≤ m ∧ en = .returned (.string s) ∧ Cur w' base B ∧ Tch B (B + 1) w w'
theorem l01PickText_c (b n c : Nat) (l : List ByteArray) (m : Nat) (base B : Nat) (w : World) (hc : Cur w base B) (hr : Rd w w.heap.size 1 (some ⟨b, 0, none⟩) n (sC l)) (hb : b < w.heap.size) (hne : b ≠ B) (hn0 : 0 < n) (hn : n ≤ 4096) (hm : ∀ x ∈ l, x.size ≤ m) :
    Calls Tryd.prog 74 #[.pointer (some ⟨B, 0, none⟩), .slice (some ⟨b, 0, none⟩) n c] w (CurS m base B w) := by
  go_enter Tryd.func74, Tryd.ntmps74
  go_wp2_with fail
  refine (l01Below_c n base B _ hc (by omega)).mono ?_
  rintro e w1 ⟨r, ⟨r0, _, r1⟩, rfl, hc1, hm1⟩
  obtain ⟨k, rfl⟩ := Int.eq_ofNat_of_zero_le r0
  have hk : k < n := by omega
  have hr1 := hr.keepb (w' := w1) (hm1.block b hb (by omega))
  obtain ⟨b', off', e, _, hl, hcell⟩ := hr1.str hk
  injection e with e
  injection e with e1 e2
  subst e1; subst e2
  simp only [Nat.zero_add] at hcell
  clear hr1 r1
  go_wp2_with fail
  go_ret
  exact ⟨_, hm _ (List.getElem_mem hl), rfl, hc1, hm1⟩
theorem Cur.lt {w : World} {base B : Nat} (h : Cur w base B) : B < w.heap.size := by obtain ⟨A, m, c, l, i, h, hB, _⟩ := h; exact hB.lt
theorem l01DrawSegment_c (base B : Nat) (w : World) (hc : Cur w base B) : Calls Tryd.prog 79 #[.pointer (some ⟨B, 0, none⟩)] w (CurS 17 base B w) := by
  go_enter Tryd.func79, Tryd.ntmps79
  go_wp2_with fail
  refine (l01Once_c 25 base B _ hc (by omega)).mono ?_
  rintro e w1 ⟨r, rfl, hc1, hm1⟩
  cases r
  case false =>
    have hbq : Below w1.heap.size w1 (w1.alloc (.cells #[.string { data := #[97] }, .string { data := #[98] }, .string { data := #[99] }, .string { data := #[107, 118] }, .string { data := #[100, 98] }, .string { data := #[120, 45, 49] }, .string { data := #[57] }] 9)) := (by repeat (first | with_reducible exact Below.refl _ _ | with_reducible assumption | refine Below.alloc ?_ (by first | omega | (simp; done) | (simp; omega)) _ | refine Below.setCell ?_ (by first | omega | (simp; done) | (simp; omega)) _ | refine Below.drew ?_ | refine below_drewN ?_ _ | exact Below.refl _ _ | assumption))
    have hrd : Rd (w1.alloc (.cells #[.string { data := #[97] }, .string { data := #[98] }, .string { data := #[99] }, .string { data := #[107, 118] }, .string { data := #[100, 98] }, .string { data := #[120, 45, 49] }, .string { data := #[57] }] 9)) (w1.heap.size + 1) 1 (some ⟨w1.heap.size, 0, none⟩) 7 (sC [{ data := #[97] }, { data := #[98] }, { data := #[99] }, { data := #[107, 118] }, { data := #[100, 98] }, { data := #[120, 45, 49] }, { data := #[57] }]) := (Ow.made w1 #[.string { data := #[97] }, .string { data := #[98] }, .string { data := #[99] }, .string { data := #[107, 118] }, .string { data := #[100, 98] }, .string { data := #[120, 45, 49] }, .string { data := #[57] }] 9 7 1 rfl (by omega)).rd
    have hne : w1.heap.size ≠ B := by have := hc1.lt; omega
    have C := l01PickText_c w1.heap.size 7 7 [{ data := #[97] }, { data := #[98] }, { data := #[99] }, { data := #[107, 118] }, { data := #[100, 98] }, { data := #[120, 45, 49] }, { data := #[57] }] 17 base B _ (hc1.below hbq) (hrd.mono (by simp)) (by simp) hne (by omega) (by omega) (by decide)
    have HM := hide (hm1.trans (Tch.of_below hbq))
    clear hrd hbq hc1 hm1
    go_wp2_with fail
    refine C.mono ?_
    rintro e w2 ⟨s, hs, rfl, hc2, hm2⟩
    have HM2 := hide (HM.out.trans hm2)
    clear hm2
    go_wp2_with fail
    go_ret
    exact ⟨s, hs, rfl, hc2, HM2.out⟩
  case true =>
    have hbq : Below w1.heap.size w1 (w1.alloc (.cells #[.string { data := #[] }, .string { data := #[65] }, .string { data := #[97, 47, 98] }, .string { data := #[97, 98, 99, 100, 101, 102, 103, 104, 105, 106, 107, 108, 109, 110, 111, 112] }, .string { data := #[97, 98, 99, 100, 101, 102, 103, 104, 105, 106, 107, 108, 109, 110, 111, 112, 113] }, .string { data := #[45] }, .string { data := #[97, 32, 98] }, .string { data := #[43, 97] }, .string { data := #[42, 42] }] 9)) := (by repeat (first | with_reducible exact Below.refl _ _ | with_reducible assumption | refine Below.alloc ?_ (by first | omega | (simp; done) | (simp; omega)) _ | refine Below.setCell ?_ (by first | omega | (simp; done) | (simp; omega)) _ | refine Below.drew ?_ | refine below_drewN ?_ _ | exact Below.refl _ _ | assumption))
    have hrd : Rd (w1.alloc (.cells #[.string { data := #[] }, .string { data := #[65] }, .string { data := #[97, 47, 98] }, .string { data := #[97, 98, 99, 100, 101, 102, 103, 104, 105, 106, 107, 108, 109, 110, 111, 112] }, .string { data := #[97, 98, 99, 100, 101, 102, 103, 104, 105, 106, 107, 108, 109, 110, 111, 112, 113] }, .string { data := #[45] }, .string { data := #[97, 32, 98] }, .string { data := #[43, 97] }, .string { data := #[42, 42] }] 9)) (w1.heap.size + 1) 1 (some ⟨w1.heap.size, 0, none⟩) 9 (sC [{ data := #[] }, { data := #[65] }, { data := #[97, 47, 98] }, { data := #[97, 98, 99, 100, 101, 102, 103, 104, 105, 106, 107, 108, 109, 110, 111, 112] }, { data := #[97, 98, 99, 100, 101, 102, 103, 104, 105, 106, 107, 108, 109, 110, 111, 112, 113] }, { data := #[45] }, { data := #[97, 32, 98] }, { data := #[43, 97] }, { data := #[42, 42] }]) := (Ow.made w1 #[.string { data := #[] }, .string { data := #[65] }, .string { data := #[97, 47, 98] }, .string { data := #[97, 98, 99, 100, 101, 102, 103, 104, 105, 106, 107, 108, 109, 110, 111, 112] }, .string { data := #[97, 98, 99, 100, 101, 102, 103, 104, 105, 106, 107, 108, 109, 110, 111, 112, 113] }, .string { data := #[45] }, .string { data := #[97, 32, 98] }, .string { data := #[43, 97] }, .string { data := #[42, 42] }] 9 9 1 rfl (by omega)).rd
    have hne : w1.heap.size ≠ B := by have := hc1.lt; omega
    have C := l01PickText_c w1.heap.size 9 9 [{ data := #[] }, { data := #[65] }, { data := #[97, 47, 98] }, { data := #[97, 98, 99, 100, 101, 102, 103, 104, 105, 106, 107, 108, 109, 110, 111, 112] }, { data := #[97, 98, 99, 100, 101, 102, 103, 104, 105, 106, 107, 108, 109, 110, 111, 112, 113] }, { data := #[45] }, { data := #[97, 32, 98] }, { data := #[43, 97] }, { data := #[42, 42] }] 17 base B _ (hc1.below hbq) (hrd.mono (by simp)) (by simp) hne (by omega) (by omega) (by decide)
    have HM := hide (hm1.trans (Tch.of_below hbq))
    clear hrd hbq hc1 hm1
    go_wp2_with fail
    refine C.mono ?_
    rintro e w2 ⟨s, hs, rfl, hc2, hm2⟩
    have HM2 := hide (HM.out.trans hm2)
    clear hm2
    go_wp2_with fail
    go_ret
    exact ⟨s, hs, rfl, hc2, HM2.out⟩
theorem size1 (b : UInt8) : (⟨#[b]⟩ : ByteArray).size = 1 := rfl
theorem l01DrawPath_c (base B : Nat) (w : World) (hc : Cur w base B) : Calls Tryd.prog 52 #[.pointer (some ⟨B, 0, none⟩)] w (CurS 200 base B w) := by
  go_enter Tryd.func52, Tryd.ntmps52
  go_wp2_with fail
  refine (l01DrawSegment_c base B _ hc).mono ?_
  rintro e w1 ⟨s1, hs1, rfl, hc1, hm1⟩
  go_wp2_with fail
  refine (l01Below_c 4 base B _ hc1 (by omega)).mono ?_
  rintro e w2 ⟨r2, ⟨r20, _, r21⟩, rfl, hc2, hm2⟩
  have hM2 := hm1.trans hm2
  clear hc1 hm1 hm2
  go_wp2_with fail
  refine (l01Once_c 20 base B _ hc2 (by omega)).mono ?_
  rintro e w3 ⟨r3, rfl, hc3, hm3⟩
  have hM3 := hM2.trans hm3
  clear hc2 hm3 hM2
  cases r3
  case false =>
    have hr2 : r2 ≤ 3 := by omega
    clear r21
    obtain ⟨n, rfl⟩ := Int.eq_ofNat_of_zero_le r20
    have hn : n ≤ 8 := by omega
    go_wp2_with fail
    go_loopw [3, 5] (fun ov iv wr => ∃ (k : Nat) (o : ByteArray), k ≤ n ∧ iv = .int .i64 k ∧ ov = .string o ∧ o.size ≤ 17 + 18 * k ∧ Cur wr base B ∧ Tch B (B + 1) w wr) (fun _ iv _ => n - (intOf iv).toNat)
    case atStart => exact ⟨0, s1, by omega, rfl, rfl, by omega, hc3, hM3⟩
    case round =>
      obtain ⟨k, o, hk, rfl, rfl, ho, hcr, hMr⟩ := hrel
      by_cases hlt : k < n
      · go_wp2_with fail
        refine (l01DrawSegment_c base B _ hcr).mono ?_
        rintro e w4 ⟨s4, hs4, rfl, hc4, hm4⟩
        have HM4 := hide (hMr.trans hm4)
        have HC4 := hide hc4
        have hsz : (o ++ ⟨#[47]⟩).size = o.size + 1 := by rw [ByteArray.size_append, size1]
        have hsz2 : (o ++ ⟨#[47]⟩ ++ s4).size ≤ 17 + 18 * (k + 1) := by rw [ByteArray.size_append, hsz]; omega
        have HSZ := hide hsz2
        clear hm4 hMr hc4 hcr hsz2
        go_wp2_with fail
        exact ⟨⟨k + 1, _, by omega, by go_num, rfl, HSZ.out, HC4.out, HM4.out⟩, by simp [intOf]; omega⟩
      · go_wp2_with fail
        go_ret
        exact ⟨o, by omega, rfl, hcr, hMr⟩
  case true =>
    go_wp2_with fail
    refine (l01Below_c 2 base B _ hc3 (by omega)).mono ?_
    rintro e w4 ⟨r4, ⟨r40, _, r41⟩, rfl, hc4, hm4⟩
    have hM4 := hM3.trans hm4
    clear hc3 hm4 hM3 r20 r21
    have hr4 : r4 ≤ 1 := by omega
    have hcase : r4 = 0 ∨ r4 = 1 := by omega
    clear r41 hr4
    rcases hcase with rfl | rfl
    · go_wp2_with fail
      go_loopw [3, 5] (fun ov iv wr => ∃ (k : Nat) (o : ByteArray), k ≤ 7 ∧ iv = .int .i64 k ∧ ov = .string o ∧ o.size ≤ 17 + 18 * k ∧ Cur wr base B ∧ Tch B (B + 1) w wr) (fun _ iv _ => 7 - (intOf iv).toNat)
      case atStart => exact ⟨0, s1, by omega, rfl, rfl, by omega, hc4, hM4⟩
      case round =>
        obtain ⟨k, o, hk, rfl, rfl, ho, hcr, hMr⟩ := hrel
        by_cases hlt : k < 7
        · go_wp2_with fail
          refine (l01DrawSegment_c base B _ hcr).mono ?_
          rintro e w5 ⟨s5, hs5, rfl, hc5, hm5⟩
          have HM5 := hide (hMr.trans hm5)
          have HC5 := hide hc5
          have hsz : (o ++ ⟨#[47]⟩).size = o.size + 1 := by rw [ByteArray.size_append, size1]
          have hsz2 : (o ++ ⟨#[47]⟩ ++ s5).size ≤ 17 + 18 * (k + 1) := by rw [ByteArray.size_append, hsz]; omega
          have HSZ := hide hsz2
          clear hm5 hMr hc5 hcr hsz2
          go_wp2_with fail
          exact ⟨⟨k + 1, _, by omega, by go_num, rfl, HSZ.out, HC5.out, HM5.out⟩, by simp [intOf]; omega⟩
        · go_wp2_with fail
          go_ret
          exact ⟨o, by omega, rfl, hcr, hMr⟩
    · go_wp2_with fail
      go_loopw [3, 5] (fun ov iv wr => ∃ (k : Nat) (o : ByteArray), k ≤ 8 ∧ iv = .int .i64 k ∧ ov = .string o ∧ o.size ≤ 17 + 18 * k ∧ Cur wr base B ∧ Tch B (B + 1) w wr) (fun _ iv _ => 8 - (intOf iv).toNat)
      case atStart => exact ⟨0, s1, by omega, rfl, rfl, by omega, hc4, hM4⟩
      case round =>
        obtain ⟨k, o, hk, rfl, rfl, ho, hcr, hMr⟩ := hrel
        by_cases hlt : k < 8
        · go_wp2_with fail
          refine (l01DrawSegment_c base B _ hcr).mono ?_
          rintro e w5 ⟨s5, hs5, rfl, hc5, hm5⟩
          have HM5 := hide (hMr.trans hm5)
          have HC5 := hide hc5
          have hsz : (o ++ ⟨#[47]⟩).size = o.size + 1 := by rw [ByteArray.size_append, size1]
          have hsz2 : (o ++ ⟨#[47]⟩ ++ s5).size ≤ 17 + 18 * (k + 1) := by rw [ByteArray.size_append, hsz]; omega
          have HSZ := hide hsz2
          clear hm5 hMr hc5 hcr hsz2
          go_wp2_with fail
          exact ⟨⟨k + 1, _, by omega, by go_num, rfl, HSZ.out, HC5.out, HM5.out⟩, by simp [intOf]; omega⟩
        · go_wp2_with fail
          go_ret
          exact ⟨o, by omega, rfl, hcr, hMr⟩
end Go.Proofs.YtmjmjloiblbhcaaDoor
