/- What the letters of caps and the caps of letters are, in the program and in its reference; each contract says for which arguments. -/
import Derived.Test.YtmjmjloiblbhcaaDoorProg
import Derived.Test.YtmjmjloiblbhcaaDoorShelf
import Derived.Test.YtmjmjloiblbhcaaDoorK0
import Derived.Test.YtmjmjloiblbhcaaDoorQ4
import Derived.Test.YtmjmjloiblbhcaaDoorMem2
import Derived.Deep.QuietTactic
import Derived.BigQuiet
import Derived.Deep.OwnRows
namespace Go.Proofs.YtmjmjloiblbhcaaDoor
open Go.RowKit
set_option maxRecDepth 100000
set_option maxHeartbeats 400000
theorem pow_int (n k : Nat) : (n : Int) / 2 ^ k = ((n / 2 ^ k : Nat) : Int) := by
  rw [Int.natCast_ediv, Int.natCast_pow]; rfl
theorem bit_t (n k : Nat) (hn : n < 64) : (bits .and .i64 ((n : Int) / 2 ^ k) 1 == 1) = n.testBit k := by
  have hle : n / 2 ^ k ≤ n := Nat.div_le_self _ _
  have h := i64_and_nat (n / 2 ^ k) 1 (by omega) (by omega)
  rw [Nat.and_one_is_mod] at h
  rw [pow_int, show bits .and .i64 ((n / 2 ^ k : Nat) : Int) 1 = ((n / 2 ^ k % 2 : Nat) : Int) from h, Nat.testBit_eq_decide_div_mod_eq]
  generalize n / 2 ^ k % 2 = x
  rw [Bool.eq_iff_iff, beq_iff_eq, decide_eq_true_eq]
  omega
theorem lettersB : ∀ k, k < 6 → ({ data := #[114, 119, 108, 100, 115, 110] } : ByteArray).extract k (k + 1) = ⟨#[letters.getD k 0]⟩ := by
  intro k hk
  rcases k with _ | _ | _ | _ | _ | _ | k
  all_goals first | rfl | omega
theorem capsL_hit {n k : Nat} (h : n.testBit k = true) : (⟨(capsL n (k + 1)).toArray⟩ : ByteArray) = ⟨(capsL n k).toArray⟩ ++ ⟨#[letters.getD k 0]⟩ := by
  rw [capsL, if_pos h]
  exact ext_data (by simp)
theorem capsL_miss {n k : Nat} (h : n.testBit k = false) : (⟨(capsL n (k + 1)).toArray⟩ : ByteArray) = ⟨(capsL n k).toArray⟩ := by
  rw [capsL, if_neg (by rw [h]; simp)]
theorem toL' (s : ByteArray) : s.toList = s.data.toList := by rw [Lib.toList_data]
theorem capsB_cases (n : Nat) : ((⟨(capsL n 6).toArray⟩ : ByteArray).toList.isEmpty = true ∧ capsB n = ⟨#[45]⟩) ∨ ((⟨(capsL n 6).toArray⟩ : ByteArray).toList.isEmpty = false ∧ capsB n = ⟨(capsL n 6).toArray⟩) := by
  rw [toL']
  unfold capsB capsT
  by_cases h : capsL n 6 = []
  · left; rw [if_pos h, h]; exact ⟨rfl, rfl⟩
  · right; rw [if_neg h]; exact ⟨by simpa using h, rfl⟩
theorem capsText_c (n : Nat) (hn : n < 64) (w : World) :
    Calls Tryd.prog 38 #[.int .i64 n] w (Pure (.string (capsB n)) w) := by
  have HC := hide (capsB_cases n)
  generalize capsB n = R at HC ⊢
  go_enter Tryd.func38, Tryd.ntmps38
  go_wp2_with fail
  go_loop [3, 4, 5] (fun sv _ iv => ∃ k : Nat, k ≤ 6 ∧ iv = .int .i64 k ∧ sv = .string ⟨(capsL n k).toArray⟩) (fun _ _ iv => 6 - (intOf iv).toNat)
  case atStart => exact ⟨0, by omega, rfl, rfl⟩
  case round =>
    obtain ⟨k, hk, rfl, rfl⟩ := hrel
    have hsz : (⟨(capsL n k).toArray⟩ : ByteArray).size ≤ k := capsL_size n k
    by_cases hlt : k < 6
    · have HL := hide (lettersB k hlt)
      cases hb : n.testBit k
      · have HM := hide (capsL_miss hb)
        have ht := (bit_t n k hn).trans hb
        generalize (⟨(capsL n k).toArray⟩ : ByteArray) = S at hsz HM ⊢
        clear hb
        go_wp2_with fail
        go_round
        case rel => exact ⟨k + 1, by omega, by go_num, by rw [HM.out]⟩
        case measure => simp [intOf]; omega
      · have HM := hide (capsL_hit hb)
        have ht := (bit_t n k hn).trans hb
        generalize (⟨(capsL n k).toArray⟩ : ByteArray) = S at hsz HM ⊢
        clear hb
        go_wp2_with fail
        go_round
        case rel => exact ⟨k + 1, by omega, by go_num, by rw [HM.out, HL.out]⟩
        case measure => simp [intOf]; omega
    · obtain rfl : k = 6 := by omega
      rcases HC.out with ⟨h1, h2⟩ | ⟨h1, h2⟩
      · have HQ := hide h2
        generalize (⟨(capsL n 6).toArray⟩ : ByteArray) = S at hsz h1 ⊢
        clear h2
        go_wp2_with fail
        go_ret
        exact ⟨by rw [HQ.out]; rfl, rfl⟩
      · have HQ := hide h2
        generalize (⟨(capsL n 6).toArray⟩ : ByteArray) = S at hsz h1 HQ ⊢
        clear h2
        go_wp2_with fail
        go_ret
        exact ⟨by rw [HQ.out]; rfl, rfl⟩
theorem bit_or (c i : Nat) (hc : c < 64) (hi : i < 6) : bits .or .i64 (c : Int) ((2 ^ i : Nat) : Int) = ((c ||| 2 ^ i : Nat) : Int) := by
  have : 2 ^ i ≤ 2 ^ 5 := Nat.pow_le_pow_right (by decide) (by omega)
  exact i64_or_nat c (2 ^ i) (by omega) (by omega)
theorem wrap_pow (i : Nat) (hi : i < 6) : wrap64 (2 ^ i) = ((2 ^ i : Nat) : Int) := by
  have h1 : (2 : Int) ^ i = ((2 ^ i : Nat) : Int) := by rw [Int.natCast_pow]; rfl
  have h2 : 2 ^ i ≤ 2 ^ 5 := Nat.pow_le_pow_right (by decide) (by omega)
  rw [h1]
  generalize 2 ^ i = x at h2
  unfold wrap64
  omega
theorem parse_snoc (l : List UInt8) (b : UInt8) : parseL (l ++ [b]) = parseL l ||| bitOf b := by simp [parseL]
theorem parse_take (s : ByteArray) (k : Nat) (h : k < s.size) : parseL (s.data.toList.take (k + 1)) = parseL (s.data.toList.take k) ||| bitOf s[k] := by
  rw [List.take_succ_eq_append_getElem (by simpa using h), parse_snoc]; rfl
theorem eqB_t {p q : ByteArray} {v : Bool} (h : decide (p = q) = v) : (p.toList == q.toList) = v := by
  subst h; rw [toL', toL', Bool.eq_iff_iff]; simp
  exact ⟨fun h => ext_data (by rw [h]), fun h => by rw [h]⟩
theorem parseCaps_c (s : ByteArray) (hs : s.size ≤ 9223372036854775807) (w : World) :
    Calls Tryd.prog 36 #[.string s] w (Pure (.tuple #[.int .i64 ((parseB s).1 : Nat), .bool (parseB s).2]) w) := by
  have HP : Hid (parseB s = if capsB (parseL s.data.toList) = s then (parseL s.data.toList, true) else (0, false)) := rfl
  generalize parseB s = R at HP ⊢
  go_enter Tryd.func36, Tryd.ntmps36
  go_wp2_with fail
  go_loop [4, 5, 6, 9] (fun cv _ _ iv => ∃ k : Nat, k ≤ s.size ∧ iv = .int .i64 k ∧ cv = .int .i64 ((parseL (s.data.toList.take k) : Nat) : Int)) (fun _ _ _ iv => s.size - (intOf iv).toNat)
  case atStart => exact ⟨0, by omega, rfl, rfl⟩
  case round =>
    obtain ⟨k, hk, rfl, rfl⟩ := hrel
    by_cases hlt : k < s.size
    · have hc := Tryd.strings_IndexByte { data := #[114, 119, 108, 100, 115, 110] } (s[k].toNat : Int) w
      rw [byte_back] at hc
      have hc' : Calls Tryd.prog 66 #[.string { data := #[114, 119, 108, 100, 115, 110] }, .int .u8 (s[k].toNat : Int)] w fun e w' => e = .returned (.int .i64 (Lib.indexByte letters s[k])) ∧ w' = w := hc
      clear hc
      have HT := hide (parse_take s k hlt)
      have HB : Hid (bitOf s[k] = if 0 ≤ Lib.indexByte letters s[k] then 2 ^ (Lib.indexByte letters s[k]).toNat else 0) := rfl
      have hlt6 := indexByte_lt s[k] letters
      have h6 : letters.length = 6 := rfl
      have hcl := parseL_lt (s.data.toList.take k)
      by_cases hge : 0 ≤ Lib.indexByte letters s[k]
      · obtain ⟨i, hi⟩ : ∃ i : Nat, Lib.indexByte letters s[k] = i := ⟨(Lib.indexByte letters s[k]).toNat, by omega⟩
        rw [hi] at hc' hlt6 HB
        have HN : Hid (bits .or .i64 ((parseL (s.data.toList.take k) : Nat) : Int) (wrap64 (2 ^ i)) = ((parseL (s.data.toList.take (k + 1)) : Nat) : Int)) := by
          show _ = _
          rw [wrap_pow i (by omega), bit_or _ _ hcl (by omega), HT.out, HB.out]; simp
        have hi6 : i < 6 := by omega
        clear hi hge hlt6 HT HB
        generalize parseL (s.data.toList.take k) = c at hcl HN ⊢
        go_wp2_with fail
        refine hc'.mono ?_
        rintro e w' ⟨rfl, rfl⟩
        go_wp2_with fail
        go_round
        case rel => exact ⟨k + 1, by omega, by go_num, int_eq HN.out⟩
        case measure => simp [intOf]; omega
      · have HN : Hid (parseL (s.data.toList.take k) = parseL (s.data.toList.take (k + 1))) := by
          show _ = _
          rw [HT.out, HB.out, if_neg hge]; simp
        clear HT HB
        generalize Lib.indexByte letters s[k] = x at hc' hge
        generalize parseL (s.data.toList.take k) = c at hcl HN ⊢
        go_wp2_with fail
        refine hc'.mono ?_
        rintro e w' ⟨rfl, rfl⟩
        go_wp2_with fail
        go_round
        case rel => exact ⟨k + 1, by omega, by go_num, by rw [HN.out]⟩
        case measure => simp [intOf]; omega
    · have hcl := parseL_lt s.data.toList
      have HT : Hid (parseL (s.data.toList.take k) = parseL s.data.toList) := by
        show _ = _
        rw [List.take_of_length_le (by simp; omega)]
      rw [HT.out]
      have hct := capsText_c (parseL s.data.toList) hcl w
      cases he : decide (capsB (parseL s.data.toList) = s)
      · have te := eqB_t he
        have HQ : Hid (R = (0, false)) := by show R = _; rw [HP.out, if_neg (of_decide_eq_false he)]
        clear he HP
        generalize parseL s.data.toList = c at hct te hcl ⊢
        go_wp2_with fail
        refine hct.mono ?_
        rintro e w' ⟨rfl, rfl⟩
        go_wp2_with fail
        refine bodyPost_ret (v := .tuple #[.int .i64 0, .bool false]) (by simp [results, Tryd.results36, go_sem]) rfl ?_
        rw [HQ.out]
        exact ⟨rfl, rfl⟩
      · have te := eqB_t he
        have HQ : Hid (R = (parseL s.data.toList, true)) := by show R = _; rw [HP.out, if_pos (of_decide_eq_true he)]
        clear he HP
        generalize parseL s.data.toList = c at hct te hcl HQ ⊢
        go_wp2_with fail
        refine hct.mono ?_
        rintro e w' ⟨rfl, rfl⟩
        go_wp2_with fail
        refine bodyPost_ret (v := .tuple #[.int .i64 (c : Int), .bool true]) (by simp [results, Tryd.results36, go_sem]) rfl ?_
        rw [HQ.out]
        exact ⟨rfl, rfl⟩
theorem info_u8 : (Tryd.prog.info? 5).map (fun i => (i.zero, i.size, i.bytes)) = some (some (.int .u8 0), 1, 1) := by kernel_rfl
/-- the caps' text of the reference -/
def capsG (x : Int) : ByteArray := if inB x 0 63 then capsB x.toNat else ⟨#[]⟩
theorem letters_at (k : Nat) (h : k < 6) : (({ data := #[114, 119, 108, 100, 115, 110] } : ByteArray)[k]'h).toNat = (letters.getD k 0).toNat := by
  rcases k with _ | _ | _ | _ | _ | _ | k
  all_goals first | rfl | omega
theorem rem_t (n k : Nat) : (((n : Int) / 2 ^ k).tmod 2 == 1) = n.testBit k := by
  rw [pow_int, Nat.testBit_eq_decide_div_mod_eq, Int.tmod_eq_emod_of_nonneg (Int.natCast_nonneg _)]
  generalize n / 2 ^ k = x
  rw [Bool.eq_iff_iff, beq_iff_eq, decide_eq_true_eq]
  omega
theorem capsL_pos : ∀ n, n < 64 → 0 < n → capsL n 6 ≠ [] := by decide
theorem capsL_succ {n k : Nat} (h : n.testBit k = true) : capsL n (k + 1) = capsL n k ++ [letters.getD k 0] := by rw [capsL, if_pos h]
theorem capsL_same {n k : Nat} (h : n.testBit k = false) : capsL n (k + 1) = capsL n k := by rw [capsL, if_neg (by rw [h]; simp)]
theorem nums_back (l : List UInt8) : strOfNums (l.map fun b => (b.toNat : Int)) = ⟨l.toArray⟩ := by
  apply ext_data
  rw [strOfNums_data, List.map_map]
  conv => rhs; rw [← List.map_id l]
  exact List.map_congr_left fun x _ => by simp
theorem capsG_nat {n : Nat} (h : n < 64) : capsG n = capsB n := by
  unfold capsG
  rw [inB_true.2 ⟨by omega, by omega⟩]; simp
end Go.Proofs.YtmjmjloiblbhcaaDoor
