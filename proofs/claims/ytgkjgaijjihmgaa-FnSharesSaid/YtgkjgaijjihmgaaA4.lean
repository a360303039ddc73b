/- Numbers as bytes, streams, digests, tags: what the program's and the reference's functions give. -/
import Derived.Test.YtgkjgaijjihmgaaA3
namespace Go.Proofs.Ytgkjgaijjihmgaa
open Go.RowKit Gf
set_option maxRecDepth 100000
set_option maxHeartbeats 400000
def pwB (x : Int) : List UInt8 := (List.range 8).map fun (i : Nat) => UInt8.ofNat ((x / 2 ^ (8 * i)) % 256).toNat
theorem pwB_length (x : Int) : (pwB x).length = 8 := by simp [pwB]
theorem pwB_get (x : Int) (k : Nat) (h : k < (pwB x).length) : ((pwB x)[k].toNat : Int) = x / 2 ^ (8 * k) % 256 := by
  simp only [pwB, List.getElem_map, List.getElem_range, UInt8.toNat_ofNat']
  generalize x / 2 ^ (8 * k) = y
  omega
theorem and_255 (y : Nat) (h : y < 9223372036854775808) : bits .and .i64 (y : Int) 255 = ((y % 256 : Nat) : Int) := by
  have := i64_and_nat y 255 h (by omega)
  rw [show (255 : Nat) = 2 ^ 8 - 1 from rfl, Nat.and_two_pow_sub_one_eq_mod] at this
  exact this
theorem shr_nat (y k : Nat) : ((y : Int) / 2 ^ k) = ((y / 2 ^ k : Nat) : Int) := by rw [Int.natCast_ediv, Int.natCast_pow]; rfl
theorem pw_s (y k : Nat) (h : y ≤ 1099511627776) : bits .and .i64 ((y : Int) / 2 ^ k) 255 = (y : Int) / 2 ^ k % 256 := by
  have h1 : y / 2 ^ k ≤ y := Nat.div_le_self _ _
  rw [shr_nat, and_255 _ (by omega)]
  rfl
def pw_ (x : Int) : List UInt8 := if inB x 0 1099511627776 then pwB x else []
def dgU (l : List UInt8) : Int := l.foldl (fun u x => (131 * u + x.toNat + 1) % 2147483647) 7
def dgV (l : List UInt8) : Int := l.foldl (fun u x => (137 * u + x.toNat + 3) % 2147483629) 11
def dig (l : List UInt8) : Int := 2147483648 * dgU l + dgV l
theorem dgU_bd (l : List UInt8) : 0 ≤ dgU l ∧ dgU l < 2147483647 := by
  rcases List.eq_nil_or_concat l with rfl | ⟨l', x, rfl⟩
  · decide
  · simp only [dgU, List.foldl_append, List.foldl_cons, List.foldl_nil, List.concat_eq_append]; omega
theorem dgV_bd (l : List UInt8) : 0 ≤ dgV l ∧ dgV l < 2147483629 := by
  rcases List.eq_nil_or_concat l with rfl | ⟨l', x, rfl⟩
  · decide
  · simp only [dgV, List.foldl_append, List.foldl_cons, List.foldl_nil, List.concat_eq_append]; omega
theorem take_succ_b (l : List UInt8) (k : Nat) (h : k < l.length) : l.take (k + 1) = l.take k ++ [l[k]] := by
  rw [List.take_succ_eq_append_getElem h]
theorem dgU_succ (l : List UInt8) (k : Nat) (h : k < l.length) : dgU (l.take (k + 1)) = (131 * dgU (l.take k) + l[k].toNat + 1) % 2147483647 := by
  rw [take_succ_b l k h, dgU, List.foldl_append]; rfl
theorem dgV_succ (l : List UInt8) (k : Nat) (h : k < l.length) : dgV (l.take (k + 1)) = (137 * dgV (l.take k) + l[k].toNat + 3) % 2147483629 := by
  rw [take_succ_b l k h, dgV, List.foldl_append]; rfl
theorem digest_c (A : Option Addr) (n c : Nat) (l : List UInt8) (w : World) (hi : Nat) (hr : Rd w hi 1 A n (bC l)) :
    Calls Try.prog 50 #[.slice A n c] w (Pure (.int .i64 (dig l)) w) := by
  have hln := hide hr.bn
  have hn := hr.bd
  go_enter Try.func50, Try.ntmps50
  go_wp2_with fail
  go_loop [3, 4, 9] (fun u v i => ∃ k : Nat, k ≤ n ∧ u = .int .i64 (dgU (l.take k)) ∧ v = .int .i64 (dgV (l.take k)) ∧ i = .int .i64 k) (fun _ _ i => n - (intOf i).toNat)
  case atStart => exact ⟨0, by omega, rfl, rfl, rfl⟩
  case round =>
    obtain ⟨k, hk, rfl, rfl, rfl⟩ := hrel
    obtain ⟨hu0, hu1⟩ := dgU_bd (l.take k)
    obtain ⟨hv0, hv1⟩ := dgV_bd (l.take k)
    by_cases hlt : k < n
    · obtain ⟨b, off, rfl, _, hl, hc⟩ := hr.byte hlt
      have HU := hide (dgU_succ l k hl)
      have HV := hide (dgV_succ l k hl)
      have hx := UInt8.toNat_lt l[k]
      go_wp2
      go_round
      case rel => exact ⟨k + 1, by omega, int_eq HU.out.symm, int_eq HV.out.symm, by go_num⟩
      case measure => simp [intOf]; omega
    · have HE : Hid (l.take k = l) := by have := hln.out; exact List.take_of_length_le (by omega)
      go_wp2
      go_ret
      exact ⟨ret_int (by rw [HE.out]; rfl), rfl⟩
theorem Digest_s (A : Option Addr) (n c : Nat) (l : List UInt8) (w : World) (hi : Nat) (hr : Rd w hi 1 A n (bC l)) :
    Calls Try.prog 62 #[.slice A n c] w (Pure (.int .i64 (dig l)) w) := by
  have hln := hide hr.bn
  have hn := hr.bd
  go_enter Try.func62, Try.ntmps62
  go_wp2_with fail
  go_loop [3, 4, 5] (fun u v i => ∃ k : Nat, k ≤ n ∧ u = .int .i64 (dgU (l.take k)) ∧ v = .int .i64 (dgV (l.take k)) ∧ i = .int .i64 k) (fun _ _ i => n - (intOf i).toNat)
  case atStart => exact ⟨0, by omega, rfl, rfl, rfl⟩
  case round =>
    obtain ⟨k, hk, rfl, rfl, rfl⟩ := hrel
    obtain ⟨hu0, hu1⟩ := dgU_bd (l.take k)
    obtain ⟨hv0, hv1⟩ := dgV_bd (l.take k)
    by_cases hlt : k < n
    · obtain ⟨b, off, rfl, _, hl, hc⟩ := hr.byte hlt
      have HU := hide (dgU_succ l k hl)
      have HV := hide (dgV_succ l k hl)
      have hx := UInt8.toNat_lt l[k]
      go_wp2
      go_round
      case rel => exact ⟨k + 1, by omega, int_eq HU.out.symm, int_eq HV.out.symm, by go_num⟩
      case measure => simp [intOf]; omega
    · have HE : Hid (l.take k = l) := by have := hln.out; exact List.take_of_length_le (by omega)
      go_wp2
      go_ret
      exact ⟨ret_int (by rw [HE.out]; rfl), rfl⟩
theorem Digest_i (A : Option Addr) (n c : Nat) (l : List UInt8) (w : World) (hi : Nat) (hr : Rd w hi 1 A n (bC l)) :
    Calls Try.prog 16 #[.slice A n c] w (Pure (.int .i64 (dig l)) w) := by
  go_enter Try.func16, Try.ntmps16
  go_wp2_with (go_at_call 50; refine (digest_c _ _ _ l _ hi hr).mono ?_; rintro e w' ⟨rfl, rfl⟩)
  go_ret
  exact ⟨rfl, rfl⟩
end Go.Proofs.Ytgkjgaijjihmgaa
