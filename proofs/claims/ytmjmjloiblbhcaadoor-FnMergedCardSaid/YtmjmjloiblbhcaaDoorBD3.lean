/- Drawn globs; each contract says for which arguments. -/
import Derived.Test.YtmjmjloiblbhcaaDoorBD2
namespace Go.Proofs.YtmjmjloiblbhcaaDoor
open Go.RowKit
set_option maxRecDepth 100000
set_option maxHeartbeats 1000000
theorem l01DrawGlob_c (base B : Nat) (w : World) (hc : Cur w base B) : Calls Tryd.prog 75 #[.pointer (some ⟨B, 0, none⟩)] w (CurS 200 base B w) := by
  have O := hide fun (W : World) (m : Int) (h : Cur W base B) (hm : m ≤ 16777216) => l01Once_c m base B W h hm
  have S := hide fun (W : World) (h : Cur W base B) => l01DrawSegment_c base B W h
  go_enter Tryd.func75, Tryd.ntmps75
  go_wp2_with fail
  refine (l01Below_c 4 base B _ hc (by omega)).mono ?_
  rintro e w1 ⟨r, ⟨r0, _, r1⟩, rfl, hc1, hm1⟩
  obtain ⟨m, rfl⟩ := Int.eq_ofNat_of_zero_le r0
  have hm : m ≤ 3 := by omega
  rename_i hx
  clear hx r0 r1 hc
  go_wp2_with fail
  go_loopw [3, 5, 6] (fun ov iv sv wr => ∃ (k : Nat) (o : ByteArray), k ≤ m + 1 ∧ iv = .int .i64 k ∧ ov = .string o ∧ o.size ≤ 18 * k ∧ Cur wr base B ∧ Tch B (B + 1) w wr) (fun _ iv _ _ => m + 1 - (intOf iv).toNat)
  case atStart => exact ⟨0, _, by omega, rfl, rfl, by decide, hc1, hm1⟩
  case round =>
    obtain ⟨k, o, hk, rfl, rfl, ho, hcr, hMr⟩ := hrel
    by_cases hlt : k < m + 1
    · have hcl := hide hcr
      have hml := hide hMr
      clear hcr hMr
      by_cases hk1 : 0 < k
      · go_wp2_with fail
        refine (S.out _ hcl.out).mono ?_
        rintro e w5 ⟨s5, hs5, rfl, hc5, hm5⟩
        have HC5 := hide hc5
        have HM5 := hide (hml.out.trans hm5)
        have hq : (o ++ ⟨#[47]⟩).size ≤ 18 * k + 1 := by rw [ByteArray.size_append, size1]; omega
        have SZ : ∀ x : ByteArray, x.size ≤ 17 → (o ++ ⟨#[47]⟩ ++ x).size ≤ 18 * (k + 1) := fun x hx => by rw [ByteArray.size_append]; omega
        have SZ1 := hide (SZ _ hs5)
        have SZ2 := hide (SZ ⟨#[43]⟩ (by decide))
        have SZ3 := hide (SZ ⟨#[42]⟩ (by decide))
        clear SZ hq hc5 hm5
        go_wp2_with fail
        refine (O.out _ 4 HC5.out (by omega)).mono ?_
        rintro e w6 ⟨b6, rfl, hc6, hm6⟩
        have HC6 := hide hc6
        have HM6 := hide (HM5.out.trans hm6)
        clear hc6 hm6
        cases b6
        · go_wp2_with fail
          · refine (O.out _ 3 HC6.out (by omega)).mono ?_
            rintro e w7 ⟨b7, rfl, hc7, hm7⟩
            have HC7 := hide hc7
            have HM7 := hide (HM6.out.trans hm7)
            clear hc7 hm7
            cases b7
            · go_wp2_with fail
              refine (O.out _ 40 HC7.out (by omega)).mono ?_
              rintro e w8 ⟨b8, rfl, hc8, hm8⟩
              have HC8 := hide hc8
              have HM8 := hide (HM7.out.trans hm8)
              clear hc8 hm8
              cases b8
              · go_wp2_with fail
                exact ⟨⟨k + 1, _, by omega, (by first | go_num | (simp; omega) | (congr 1; omega)), rfl, SZ1.out, HC8.out, HM8.out⟩, by first | (simp [intOf]; done) | (simp [intOf]; omega)⟩
              · go_wp2_with fail
                exact ⟨⟨k + 1, _, by omega, (by first | go_num | (simp; omega) | (congr 1; omega)), rfl, SZ3.out, HC8.out, HM8.out⟩, by first | (simp [intOf]; done) | (simp [intOf]; omega)⟩
            · go_wp2_with fail
              exact ⟨⟨k + 1, _, by omega, (by first | go_num | (simp; omega) | (congr 1; omega)), rfl, SZ3.out, HC7.out, HM7.out⟩, by first | (simp [intOf]; done) | (simp [intOf]; omega)⟩
          · refine (O.out _ 40 HC6.out (by omega)).mono ?_
            rintro e w8 ⟨b8, rfl, hc8, hm8⟩
            have HC8 := hide hc8
            have HM8 := hide (HM6.out.trans hm8)
            clear hc8 hm8
            cases b8
            · go_wp2_with fail
              exact ⟨⟨k + 1, _, by omega, (by first | go_num | (simp; omega) | (congr 1; omega)), rfl, SZ1.out, HC8.out, HM8.out⟩, by first | (simp [intOf]; done) | (simp [intOf]; omega)⟩
            · go_wp2_with fail
              exact ⟨⟨k + 1, _, by omega, (by first | go_num | (simp; omega) | (congr 1; omega)), rfl, SZ3.out, HC8.out, HM8.out⟩, by first | (simp [intOf]; done) | (simp [intOf]; omega)⟩
        · go_wp2_with fail
          · refine (O.out _ 3 HC6.out (by omega)).mono ?_
            rintro e w7 ⟨b7, rfl, hc7, hm7⟩
            have HC7 := hide hc7
            have HM7 := hide (HM6.out.trans hm7)
            clear hc7 hm7
            cases b7
            · go_wp2_with fail
              refine (O.out _ 40 HC7.out (by omega)).mono ?_
              rintro e w8 ⟨b8, rfl, hc8, hm8⟩
              have HC8 := hide hc8
              have HM8 := hide (HM7.out.trans hm8)
              clear hc8 hm8
              cases b8
              · go_wp2_with fail
                exact ⟨⟨k + 1, _, by omega, (by first | go_num | (simp; omega) | (congr 1; omega)), rfl, SZ2.out, HC8.out, HM8.out⟩, by first | (simp [intOf]; done) | (simp [intOf]; omega)⟩
              · go_wp2_with fail
                exact ⟨⟨k + 1, _, by omega, (by first | go_num | (simp; omega) | (congr 1; omega)), rfl, SZ3.out, HC8.out, HM8.out⟩, by first | (simp [intOf]; done) | (simp [intOf]; omega)⟩
            · go_wp2_with fail
              exact ⟨⟨k + 1, _, by omega, (by first | go_num | (simp; omega) | (congr 1; omega)), rfl, SZ3.out, HC7.out, HM7.out⟩, by first | (simp [intOf]; done) | (simp [intOf]; omega)⟩
          · refine (O.out _ 40 HC6.out (by omega)).mono ?_
            rintro e w8 ⟨b8, rfl, hc8, hm8⟩
            have HC8 := hide hc8
            have HM8 := hide (HM6.out.trans hm8)
            clear hc8 hm8
            cases b8
            · go_wp2_with fail
              exact ⟨⟨k + 1, _, by omega, (by first | go_num | (simp; omega) | (congr 1; omega)), rfl, SZ2.out, HC8.out, HM8.out⟩, by first | (simp [intOf]; done) | (simp [intOf]; omega)⟩
            · go_wp2_with fail
              exact ⟨⟨k + 1, _, by omega, (by first | go_num | (simp; omega) | (congr 1; omega)), rfl, SZ3.out, HC8.out, HM8.out⟩, by first | (simp [intOf]; done) | (simp [intOf]; omega)⟩
      · have hk0 : k = 0 := by omega
        subst hk0
        go_wp2_with fail
        refine (S.out _ hcl.out).mono ?_
        rintro e w5 ⟨s5, hs5, rfl, hc5, hm5⟩
        have HC5 := hide hc5
        have HM5 := hide (hml.out.trans hm5)
        have hq : (o).size ≤ 18 * 0 + 1 := by omega
        have SZ : ∀ x : ByteArray, x.size ≤ 17 → (o ++ x).size ≤ 18 * (0 + 1) := fun x hx => by rw [ByteArray.size_append]; omega
        have SZ1 := hide (SZ _ hs5)
        have SZ2 := hide (SZ ⟨#[43]⟩ (by decide))
        have SZ3 := hide (SZ ⟨#[42]⟩ (by decide))
        clear SZ hq hc5 hm5
        go_wp2_with fail
        refine (O.out _ 4 HC5.out (by omega)).mono ?_
        rintro e w6 ⟨b6, rfl, hc6, hm6⟩
        have HC6 := hide hc6
        have HM6 := hide (HM5.out.trans hm6)
        clear hc6 hm6
        cases b6
        · go_wp2_with fail
          · refine (O.out _ 3 HC6.out (by omega)).mono ?_
            rintro e w7 ⟨b7, rfl, hc7, hm7⟩
            have HC7 := hide hc7
            have HM7 := hide (HM6.out.trans hm7)
            clear hc7 hm7
            cases b7
            · go_wp2_with fail
              refine (O.out _ 40 HC7.out (by omega)).mono ?_
              rintro e w8 ⟨b8, rfl, hc8, hm8⟩
              have HC8 := hide hc8
              have HM8 := hide (HM7.out.trans hm8)
              clear hc8 hm8
              cases b8
              · go_wp2_with fail
                exact ⟨⟨0 + 1, _, by omega, (by first | go_num | (simp; omega) | (congr 1; omega)), rfl, SZ1.out, HC8.out, HM8.out⟩, by first | (simp [intOf]; done) | (simp [intOf]; omega)⟩
              · go_wp2_with fail
                exact ⟨⟨0 + 1, _, by omega, (by first | go_num | (simp; omega) | (congr 1; omega)), rfl, SZ3.out, HC8.out, HM8.out⟩, by first | (simp [intOf]; done) | (simp [intOf]; omega)⟩
            · go_wp2_with fail
              exact ⟨⟨0 + 1, _, by omega, (by first | go_num | (simp; omega) | (congr 1; omega)), rfl, SZ3.out, HC7.out, HM7.out⟩, by first | (simp [intOf]; done) | (simp [intOf]; omega)⟩
          · refine (O.out _ 40 HC6.out (by omega)).mono ?_
            rintro e w8 ⟨b8, rfl, hc8, hm8⟩
            have HC8 := hide hc8
            have HM8 := hide (HM6.out.trans hm8)
            clear hc8 hm8
            cases b8
            · go_wp2_with fail
              exact ⟨⟨0 + 1, _, by omega, (by first | go_num | (simp; omega) | (congr 1; omega)), rfl, SZ1.out, HC8.out, HM8.out⟩, by first | (simp [intOf]; done) | (simp [intOf]; omega)⟩
            · go_wp2_with fail
              exact ⟨⟨0 + 1, _, by omega, (by first | go_num | (simp; omega) | (congr 1; omega)), rfl, SZ3.out, HC8.out, HM8.out⟩, by first | (simp [intOf]; done) | (simp [intOf]; omega)⟩
        · go_wp2_with fail
          · refine (O.out _ 3 HC6.out (by omega)).mono ?_
            rintro e w7 ⟨b7, rfl, hc7, hm7⟩
            have HC7 := hide hc7
            have HM7 := hide (HM6.out.trans hm7)
            clear hc7 hm7
            cases b7
            · go_wp2_with fail
              refine (O.out _ 40 HC7.out (by omega)).mono ?_
              rintro e w8 ⟨b8, rfl, hc8, hm8⟩
              have HC8 := hide hc8
              have HM8 := hide (HM7.out.trans hm8)
              clear hc8 hm8
              cases b8
              · go_wp2_with fail
                exact ⟨⟨0 + 1, _, by omega, (by first | go_num | (simp; omega) | (congr 1; omega)), rfl, SZ2.out, HC8.out, HM8.out⟩, by first | (simp [intOf]; done) | (simp [intOf]; omega)⟩
              · go_wp2_with fail
                exact ⟨⟨0 + 1, _, by omega, (by first | go_num | (simp; omega) | (congr 1; omega)), rfl, SZ3.out, HC8.out, HM8.out⟩, by first | (simp [intOf]; done) | (simp [intOf]; omega)⟩
            · go_wp2_with fail
              exact ⟨⟨0 + 1, _, by omega, (by first | go_num | (simp; omega) | (congr 1; omega)), rfl, SZ3.out, HC7.out, HM7.out⟩, by first | (simp [intOf]; done) | (simp [intOf]; omega)⟩
          · refine (O.out _ 40 HC6.out (by omega)).mono ?_
            rintro e w8 ⟨b8, rfl, hc8, hm8⟩
            have HC8 := hide hc8
            have HM8 := hide (HM6.out.trans hm8)
            clear hc8 hm8
            cases b8
            · go_wp2_with fail
              exact ⟨⟨0 + 1, _, by omega, (by first | go_num | (simp; omega) | (congr 1; omega)), rfl, SZ2.out, HC8.out, HM8.out⟩, by first | (simp [intOf]; done) | (simp [intOf]; omega)⟩
            · go_wp2_with fail
              exact ⟨⟨0 + 1, _, by omega, (by first | go_num | (simp; omega) | (congr 1; omega)), rfl, SZ3.out, HC8.out, HM8.out⟩, by first | (simp [intOf]; done) | (simp [intOf]; omega)⟩
    · go_wp2_with fail
      go_ret
      exact ⟨o, by omega, rfl, hcr, hMr⟩
end Go.Proofs.YtmjmjloiblbhcaaDoor
