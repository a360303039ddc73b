/- Numbers as bytes, streams, digests, tags: what the program's and the reference's functions give. -/
import Derived.Test.YtmebpmaldcogbaaA3
namespace Go.Proofs.Ytmebpmaldcogbaa
open Go.RowKit Gf
set_option maxRecDepth 100000
set_option maxHeartbeats 400000
theorem isKey_c (a : Int) (w : World) : Calls Try.prog 123 #[.int .i64 a] w (Pure (.bool (inB a 0 1099511627776)) w) := by
  go_enter Try.func123, Try.ntmps123
  go_wp2_with (go_at_call 104; refine (within_c _ _ _ _).mono ?_; rintro e w' ⟨rfl, rfl⟩)
  go_ret
  exact ⟨rfl, rfl⟩
theorem l04Key_c (a : Int) (w : World) : Calls Try.prog 122 #[.int .i64 a] w (Pure (.bool (inB a 0 1099511627776)) w) := by
  go_enter Try.func122, Try.ntmps122
  go_wp2_with (go_at_call 102; refine (l01In_c _ _ _ _).mono ?_; rintro e w' ⟨rfl, rfl⟩)
  go_ret
  exact ⟨rfl, rfl⟩
def pwB (x : Int) : List UInt8 := (List.range 8).map fun (i : Nat) => UInt8.ofNat ((x / 2 ^ (8 * i)) % 256).toNat
theorem pwB_length (x : Int) : (pwB x).length = 8 := by simp [pwB]
theorem pwB_get (x : Int) (k : Nat) (h : k < (pwB x).length) : ((pwB x)[k].toNat : Int) = x / 2 ^ (8 * k) % 256 := by
  simp only [pwB, List.getElem_map, List.getElem_range, UInt8.toNat_ofNat']
  generalize x / 2 ^ (8 * k) = y
  omega
theorem putWide_c (x : Int) (w : World) (h0 : 0 ≤ x) (h1 : x ≤ 1099511627776) : Calls Try.prog 124 #[.int .i64 x] w (RetRow 5 1 8 (bC (pwB x)) w) := by
  obtain ⟨y, rfl⟩ := Int.eq_ofNat_of_zero_le h0
  clear h0
  have hmk : ∀ w : World, (Instr.makeSlice 25 (.int .i64 8) (.int .i64 8)).run Try.prog w = .ok (.slice (some ⟨w.heap.size, 0, none⟩) 8 8) (w.alloc (.cells (madeCells #[.int .u8 0] 8) 5)) :=
    run_make_row' (P := Try.prog) 25 5 (.int .u8 0) 1 Try.underlying25 info5 rfl .i64 .i64 8 (by omega) (by omega)
  go_enter Try.func124, Try.ntmps124
  go_wp2_with fail
  go_loopw [4, 8] (fun _ i wr => ∃ k : Nat, k ≤ 8 ∧ i = .int .i64 k ∧ wr.ownsRow w.heap.size 5 1 (.slice (some ⟨w.heap.size, 0, none⟩) 8 8) 8 (bC (fill (pwB y) k 0)) ∧ Below w.heap.size w wr) (fun _ i _ => 8 - (intOf i).toNat)
  case atStart => exact ⟨0, by omega, rfl, made_row w 5 8 (pwB y) (.int .u8 0) (pwB_length _) rfl (by omega), (Below.refl _ _).alloc (Nat.le_refl _) _⟩
  case round =>
    obtain ⟨k, hk, rfl, hown, hb⟩ := hrel
    by_cases hlt : k < 8
    · have hl : k < (pwB y).length := by rw [pwB_length]; exact hlt
      have hc1 := hown.cellAt k (by omega)
      rw [bC_get (by rw [fill_length _ _ _ (by omega)]; omega)] at hc1
      have hf1 := hown.frozenAt k
      have HO := hide hown
      have HB := hide hb
      have HG := hide (pwB_get y k hl)
      clear hown hb
      go_wp2
      refine ⟨⟨k + 1, by omega, by go_num, ?_, HB.out.setCell (Nat.le_refl _) _⟩, by simp [intOf]; omega⟩
      have := (HO.out.stored k (.int .u8 ((pwB y)[k].toNat : Int))).1
      rw [← bC_set, fill_set (pwB y) k 0 hl, HG.out] at this
      exact this
    · have HK : Hid (fill (pwB y) k 0 = pwB y) := by
        have := fill_all (pwB (y : Int)) 0
        rw [pwB_length] at this
        rw [show k = 8 from by omega]
        exact this
      rw [HK.out] at hown
      go_wp2
      go_ret
      exact ⟨_, _, rfl, Nat.le_refl _, hown, hb⟩
theorem and_255 (y : Nat) (h : y < 9223372036854775808) : bits .and .i64 (y : Int) 255 = ((y % 256 : Nat) : Int) := by
  have := i64_and_nat y 255 h (by omega)
  rw [show (255 : Nat) = 2 ^ 8 - 1 from rfl, Nat.and_two_pow_sub_one_eq_mod] at this
  exact this
theorem shr_nat (y k : Nat) : ((y : Int) / 2 ^ k) = ((y / 2 ^ k : Nat) : Int) := by rw [Int.natCast_ediv, Int.natCast_pow]; rfl
theorem pw_s (y k : Nat) (h : y ≤ 1099511627776) : bits .and .i64 ((y : Int) / 2 ^ k) 255 = (y : Int) / 2 ^ k % 256 := by
  have h1 : y / 2 ^ k ≤ y := Nat.div_le_self _ _
  rw [shr_nat, and_255 _ (by omega)]
  rfl
def pw_ (x : Int) : List UInt8 := if inB x 0 1099511627776 then pwB x else []
theorem PutWide_s (x : Int) (w : World) : Calls Try.prog 47 #[.int .i64 x] w (RetRow 5 1 (pw_ x).length (bC (pw_ x)) w) := by
  cases hx : inB x 0 1099511627776
  · have e : Hid (pw_ x = []) := by show pw_ x = []; rw [pw_, hx]; rfl
    rw [show pw_ x = [] from e.out]
    go_enter Try.func47, Try.ntmps47
    go_wp2_with (go_at_call 122; refine (l04Key_c _ _).mono ?_; rintro e w' ⟨rfl, rfl⟩)
    go_ret
    exact ⟨_, _, rfl, Nat.le_refl _, World.ownsRow_nil _ _ _ _, (Below.refl _ _).alloc (Nat.le_refl _) _⟩
  · have e : Hid (pw_ x = pwB x) := by show pw_ x = pwB x; rw [pw_, hx]; rfl
    rw [show pw_ x = pwB x from e.out, pwB_length]
    obtain ⟨h0, h1⟩ := inB_true.1 hx
    obtain ⟨y, rfl⟩ := Int.eq_ofNat_of_zero_le h0
    go_enter Try.func47, Try.ntmps47
    go_wp2_with (go_at_call 122; refine (l04Key_c _ _).mono ?_; rintro e w' ⟨rfl, rfl⟩)
    go_loopw [3, 4] (fun v i wr => ∃ k A' c', k ≤ 8 ∧ i = .int .i64 ((k : Nat) : Int) ∧ v = .slice A' k c' ∧ k ≤ c' ∧ wr.ownsRow w.heap.size 5 1 (.slice A' k c') k (bC ((pwB y).take k)) ∧ Below w.heap.size w wr) (fun _ i _ => 8 - (intOf i).toNat)
    case atStart => exact ⟨0, _, _, by omega, rfl, rfl, Nat.le_refl _, World.ownsRow_made w #[] 0 (Nat.le_refl _) (by omega) rfl, (Below.refl _ _).alloc (Nat.le_refl _) _⟩
    case round =>
      obtain ⟨k, A', c', hk, rfl, rfl, hkc, hown, hb⟩ := hrel
      by_cases hlt : k < 8
      · have hl : k < (pwB y).length := by rw [pwB_length]; exact hlt
        have hsz := hb.size
        have HB := hide hb
        have HO := hide hown
        have HG := hide (pwB_get y k hl)
        have hand := pw_s y (8 * k) (by omega)
        have h256 : (y : Int) / 2 ^ (8 * k) % 256 % 256 = (y : Int) / 2 ^ (8 * k) % 256 := by generalize (y : Int) / 2 ^ (8 * k) = z; omega
        clear hb hown
        go_wp2_with (at_builtin; refine wpList_push wr rfl (.tmp 13) (.tmp 21) 25 rfl w.heap.size 5 _ 1 1 Try.underlying25 info5 rfl (by omega) A' k c' _ [.int .u8 ((y : Int) / 2 ^ (8 * k) % 256)] rfl HO.out rfl rfl (by simp [Value.oneCell']) (by omega) (by omega) hsz ?_; intro A'' c'' w1 hc1 hown1 hg1 _)
        rw [← HG.out, bC_succ hl] at hown1
        exact ⟨⟨k + 1, A'', c'', by omega, by go_num, rfl, hc1, hown1, HB.out.trans (grown_below HO.out hg1 hsz)⟩, by simp [intOf]; omega⟩
      · have HE : Hid ((pwB y).take k = pwB y) := List.take_of_length_le (by rw [pwB_length]; omega)
        have HK : Hid (k = 8) := by show k = 8; omega
        rw [HE.out, HK.out] at hown
        have HB := hide hb
        have HO := hide hown
        clear hb hown
        go_wp2
        go_ret
        exact ⟨_, _, by rw [show k = 8 from HK.out]; rfl, by omega, HO.out, HB.out⟩
theorem PutWide_i (x : Int) (w : World) : Calls Try.prog 48 #[.int .i64 x] w (RetRow 5 1 (pw_ x).length (bC (pw_ x)) w) := by
  cases hx : inB x 0 1099511627776
  · have e : Hid (pw_ x = []) := by show pw_ x = []; rw [pw_, hx]; rfl
    rw [show pw_ x = [] from e.out]
    go_enter Try.func48, Try.ntmps48
    go_wp2_with (go_at_call 123; refine (isKey_c _ _).mono ?_; rintro e w' ⟨rfl, rfl⟩)
    go_ret
    exact ⟨_, _, rfl, Nat.le_refl _, World.ownsRow_nil _ _ _ _, Below.refl _ _⟩
  · have e : Hid (pw_ x = pwB x) := by show pw_ x = pwB x; rw [pw_, hx]; rfl
    rw [show pw_ x = pwB x from e.out, pwB_length]
    obtain ⟨h0, h1⟩ := inB_true.1 hx
    go_enter Try.func48, Try.ntmps48
    go_wp2_with (first | (go_at_call 123; refine (isKey_c _ _).mono ?_; rintro e w' ⟨rfl, rfl⟩) | (go_at_call 124; refine (putWide_c _ _ (by omega) (by omega)).mono ?_; rintro e w1 ⟨A, c, rfl, hc, hown, hb⟩))
    go_ret
    exact ⟨_, _, rfl, hc, hown, hb⟩
def dgU (l : List UInt8) : Int := l.foldl (fun u x => (131 * u + x.toNat + 1) % 2147483647) 7
def dgV (l : List UInt8) : Int := l.foldl (fun u x => (137 * u + x.toNat + 3) % 2147483629) 11
def dig (l : List UInt8) : Int := 2147483648 * dgU l + dgV l
theorem dgU_bd (l : List UInt8) : 0 ≤ dgU l ∧ dgU l < 2147483647 := by
  rcases List.eq_nil_or_concat l with rfl | ⟨l', x, rfl⟩
  · decide
  · simp only [dgU, List.foldl_append, List.foldl_cons, List.foldl_nil, List.concat_eq_append]; omega
theorem dgV_bd (l : List UInt8) : 0 ≤ dgV l ∧ dgV l < 2147483629 := by
  rcases List.eq_nil_or_concat l with rfl | ⟨l', x, rfl⟩
  · decide
  · simp only [dgV, List.foldl_append, List.foldl_cons, List.foldl_nil, List.concat_eq_append]; omega
theorem take_succ_b (l : List UInt8) (k : Nat) (h : k < l.length) : l.take (k + 1) = l.take k ++ [l[k]] := by
  rw [List.take_succ_eq_append_getElem h]
theorem dgU_succ (l : List UInt8) (k : Nat) (h : k < l.length) : dgU (l.take (k + 1)) = (131 * dgU (l.take k) + l[k].toNat + 1) % 2147483647 := by
  rw [take_succ_b l k h, dgU, List.foldl_append]; rfl
theorem dgV_succ (l : List UInt8) (k : Nat) (h : k < l.length) : dgV (l.take (k + 1)) = (137 * dgV (l.take k) + l[k].toNat + 3) % 2147483629 := by
  rw [take_succ_b l k h, dgV, List.foldl_append]; rfl
theorem digest_c (A : Option Addr) (n c : Nat) (l : List UInt8) (w : World) (hi : Nat) (hr : Rd w hi 1 A n (bC l)) :
    Calls Try.prog 106 #[.slice A n c] w (Pure (.int .i64 (dig l)) w) := by
  have hln := hide hr.bn
  have hn := hr.bd
  go_enter Try.func106, Try.ntmps106
  go_wp2_with fail
  go_loop [3, 4, 9] (fun u v i => ∃ k : Nat, k ≤ n ∧ u = .int .i64 (dgU (l.take k)) ∧ v = .int .i64 (dgV (l.take k)) ∧ i = .int .i64 k) (fun _ _ i => n - (intOf i).toNat)
  case atStart => exact ⟨0, by omega, rfl, rfl, rfl⟩
  case round =>
    obtain ⟨k, hk, rfl, rfl, rfl⟩ := hrel
    obtain ⟨hu0, hu1⟩ := dgU_bd (l.take k)
    obtain ⟨hv0, hv1⟩ := dgV_bd (l.take k)
    by_cases hlt : k < n
    · obtain ⟨b, off, rfl, _, hl, hc⟩ := hr.byte hlt
      have HU := hide (dgU_succ l k hl)
      have HV := hide (dgV_succ l k hl)
      have hx := UInt8.toNat_lt l[k]
      go_wp2
      go_round
      case rel => exact ⟨k + 1, by omega, int_eq HU.out.symm, int_eq HV.out.symm, by go_num⟩
      case measure => simp [intOf]; omega
    · have HE : Hid (l.take k = l) := by have := hln.out; exact List.take_of_length_le (by omega)
      go_wp2
      go_ret
      exact ⟨ret_int (by rw [HE.out]; rfl), rfl⟩
theorem Digest_s (A : Option Addr) (n c : Nat) (l : List UInt8) (w : World) (hi : Nat) (hr : Rd w hi 1 A n (bC l)) :
    Calls Try.prog 29 #[.slice A n c] w (Pure (.int .i64 (dig l)) w) := by
  have hln := hide hr.bn
  have hn := hr.bd
  go_enter Try.func29, Try.ntmps29
  go_wp2_with fail
  go_loop [3, 4, 5] (fun u v i => ∃ k : Nat, k ≤ n ∧ u = .int .i64 (dgU (l.take k)) ∧ v = .int .i64 (dgV (l.take k)) ∧ i = .int .i64 k) (fun _ _ i => n - (intOf i).toNat)
  case atStart => exact ⟨0, by omega, rfl, rfl, rfl⟩
  case round =>
    obtain ⟨k, hk, rfl, rfl, rfl⟩ := hrel
    obtain ⟨hu0, hu1⟩ := dgU_bd (l.take k)
    obtain ⟨hv0, hv1⟩ := dgV_bd (l.take k)
    by_cases hlt : k < n
    · obtain ⟨b, off, rfl, _, hl, hc⟩ := hr.byte hlt
      have HU := hide (dgU_succ l k hl)
      have HV := hide (dgV_succ l k hl)
      have hx := UInt8.toNat_lt l[k]
      go_wp2
      go_round
      case rel => exact ⟨k + 1, by omega, int_eq HU.out.symm, int_eq HV.out.symm, by go_num⟩
      case measure => simp [intOf]; omega
    · have HE : Hid (l.take k = l) := by have := hln.out; exact List.take_of_length_le (by omega)
      go_wp2
      go_ret
      exact ⟨ret_int (by rw [HE.out]; rfl), rfl⟩
theorem Digest_i (A : Option Addr) (n c : Nat) (l : List UInt8) (w : World) (hi : Nat) (hr : Rd w hi 1 A n (bC l)) :
    Calls Try.prog 31 #[.slice A n c] w (Pure (.int .i64 (dig l)) w) := by
  go_enter Try.func31, Try.ntmps31
  go_wp2_with (go_at_call 106; refine (digest_c _ _ _ l _ hi hr).mono ?_; rintro e w' ⟨rfl, rfl⟩)
  go_ret
  exact ⟨rfl, rfl⟩
end Go.Proofs.Ytmebpmaldcogbaa
