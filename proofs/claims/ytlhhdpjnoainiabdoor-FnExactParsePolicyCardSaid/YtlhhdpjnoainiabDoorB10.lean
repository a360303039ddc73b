/- What the laws' helpers on slices of texts give (equal, marked, held, sized, copied); each contract says for which arguments. -/
import Derived.Test.YtlhhdpjnoainiabDoorB5
import Derived.Test.YtlhhdpjnoainiabDoorMemC
import Derived.Test.YtlhhdpjnoainiabDoorOpenB
import Derived.Deep.OwnRows
namespace Go.Proofs.YtlhhdpjnoainiabDoor
open Go.RowKit
set_option maxRecDepth 100000
set_option maxHeartbeats 400000
theorem eqStringS_c (A A2 : Option Addr) (c c2 : Nat) (l : List ByteArray) (w : World) (hi hi2 : Nat) (hr : Rd w hi 1 A l.length (sC l)) (hr2 : Rd w hi2 1 A2 l.length (sC l)) :
    Calls Tryd.prog 20 #[.slice A l.length c, .slice A2 l.length c2] w (RetV (.bool true) w) := by
  have hn := hr.bd
  go_enter Tryd.func20, Tryd.ntmps20
  go_wp2_with fail
  go_loopw [5] (fun i wr => ∃ k m : Nat, k ≤ l.length ∧ i = .int .i64 k ∧ wr = w.drewN m) (fun i _ => l.length - (intOf i).toNat)
  case atStart => exact ⟨0, 0, by omega, rfl, rfl⟩
  case round =>
    obtain ⟨k, m, hk, rfl, rfl⟩ := hrel
    by_cases hlt : k < l.length
    · obtain ⟨b, off, rfl, hblt, hl, hc⟩ := hr.str hlt
      obtain ⟨b', off', rfl, hblt', hl', hc'⟩ := hr2.str hlt
      have e1 : (l[k].toList == l[k].toList) = true := by simp
      go_wp2_with fail
      go_quiet (fail)
      go_wp2
      exact ⟨⟨k + 1, _, by omega, by go_num, rfl⟩, by simp [intOf]; omega⟩
    · go_wp2
      go_ret
      exact ⟨rfl, below_drewN (Below.refl _ _) m⟩
/-- the digits of a number, ahead of them the letter m -/
def decF : Nat → Nat → List UInt8
  | 0, _ => []
  | n + 1, k => if k = 0 then [] else decF n (k / 10) ++ [UInt8.ofNat (48 + k % 10)]
theorem decF_zero : ∀ n, decF n 0 = []
  | 0 => rfl
  | n + 1 => by rw [decF, if_pos rfl]
def mtB (k : Nat) : ByteArray := ⟨(109 :: decF 20 k).toArray⟩
theorem decF_step (n m : Nat) (h0 : 0 < m) (o : List UInt8) : decF (n + 1) m ++ o = decF n (m / 10) ++ (UInt8.ofNat (48 + m % 10) :: o) := by
  rw [decF, if_neg (by omega)]; simp
theorem markText_c (k : Nat) (h0 : 0 < k) (hk : k ≤ 1099511627776) (w : World) :
    Calls Tryd.prog 62 #[.int .i64 k] w (RetV (.string (mtB k)) w) := by
  have HM : Hid (mtB k = ⟨(109 :: (decF 20 k ++ (⟨#[]⟩ : ByteArray).data.toList)).toArray⟩) := by show mtB k = _; simp [mtB]
  generalize mtB k = R at HM ⊢
  go_enter Tryd.func62, Tryd.ntmps62
  go_wp2_with fail
  go_loopw [0, 3] (fun kv ov wr => ∃ (m n : Nat) (o : ByteArray), kv = .int .i64 ((m : Nat) : Int) ∧ ov = .string o ∧ m ≤ 1099511627776 ∧ m < 10 ^ n ∧ o.size + n ≤ 20 ∧ R = ⟨(109 :: (decF n m ++ o.data.toList)).toArray⟩ ∧ Below w.heap.size w wr) (fun kv _ _ => (intOf kv).toNat)
  case atStart => exact ⟨k, 20, ⟨#[]⟩, rfl, rfl, hk, by omega, Nat.le_refl _, HM.out, Below.refl _ _⟩
  case round =>
    obtain ⟨m, n, o, rfl, rfl, hm, hmn, hsz, hR, hB⟩ := hrel
    have HR := hide hR
    clear hR HM
    by_cases hpos : 0 < m
    · have hp : (0 : Int) < m := by omega
      obtain ⟨n', rfl⟩ : ∃ n', n = n' + 1 := ⟨n - 1, by
        rcases n with _ | n
        · simp at hmn; omega
        · omega⟩
      have hcv := run_convert_bytes_arg (P := Tryd.prog) (wr.alloc (.cells #[.int .u8 (48 + (m : Int) % 10)] 5)) 57 5 Tryd.underlying57 Tryd.underlying5 wr.heap.size 0 1 1 [48 + (m : Int) % 10] rfl (fun i hi => by
        obtain rfl : i = 0 := by omega
        rw [cell_of_row _ wr.heap.size (0 + 0) _ 5 (0, 0) (heap_alloc_new wr _)]; rfl) 9 Tryd.underlying9
      have HN : Hid (R = ⟨(109 :: (decF n' (m / 10) ++ (strOfNums [48 + (m : Int) % 10] ++ o).data.toList)).toArray⟩) := by
        show R = _
        rw [HR.out, decF_step n' m hpos]
        have : ((48 : Int) + (m : Int) % 10).toNat = 48 + m % 10 := by omega
        simp [strOfNums_data, this]
      have HMN : Hid (m / 10 < 10 ^ n') := by show m / 10 < 10 ^ n'; rw [Nat.pow_succ] at hmn; exact Nat.div_lt_of_lt_mul (by omega)
      have hs1 : (strOfNums [48 + (m : Int) % 10]).size = 1 := strOfNums_size _
      have hsa : (strOfNums [48 + (m : Int) % 10] ++ o).size = 1 + o.size := by rw [ByteArray.size_append, hs1]
      have HSA : Hid ((strOfNums [48 + (m : Int) % 10] ++ o).size + n' ≤ 20) := by show _ ≤ 20; omega
      clear hmn hsa HR
      generalize strOfNums [48 + (m : Int) % 10] = D at hcv HN HSA hs1
      go_wp2_with fail
      exact ⟨⟨m / 10, n', D ++ o, by go_num, rfl, by omega, HMN.out, HSA.out, HN.out, hB.alloc (by have := hB.size; omega) _⟩, by simp [intOf]; omega⟩
    · have HZ : Hid (m = 0) := by show m = 0; omega
      have HQ : Hid (R = ⟨#[109]⟩ ++ o) := by
        show R = _
        rw [HR.out, HZ.out, decF_zero]
        exact ext_data (by simp)
      go_wp2_with fail
      go_ret
      exact ⟨by rw [HQ.out]; rfl, hB⟩
theorem sC_set (l : List ByteArray) (k : Nat) (x : ByteArray) : sC (l.set k x) = (sC l).set k (.string x) := by simp [sC, List.map_set]
theorem made_rowS (w : World) (e n : Nat) (l : List ByteArray) (hl : l.length = n) (hn : n ≤ 9223372036854775807) :
    (w.alloc (.cells (madeCells #[.string ⟨#[]⟩] n) e)).ownsRow w.heap.size e 1 (.slice (some ⟨w.heap.size, 0, none⟩) n n) n (sC (fill l 0 ⟨#[]⟩)) := by
  have h := made_row_cells w e n (.string ⟨#[]⟩) hn
  rw [fill_zero, hl, sC, List.map_replicate]
  exact h
theorem toStringS_c (A : Option Addr) (c : Nat) (l : List ByteArray) (w : World) (hr : Rd w w.heap.size 1 A l.length (sC l)) (hn : l.length ≤ 1048576) :
    Calls Tryd.prog 17 #[.slice A l.length c] w (RetRow 9 1 l.length (sC l) w) := by
  have hmk := run_make_row' (P := Tryd.prog) 22 9 (.string ⟨#[]⟩) 16 Tryd.underlying22 info_s rfl .i64 .i64 l.length (by omega) (by omega)
  go_enter Tryd.func17, Tryd.ntmps17
  go_wp2_with fail
  go_loopw [4] (fun i wr => ∃ k : Nat, k ≤ l.length ∧ i = .int .i64 k ∧ wr.ownsRow w.heap.size 9 1 (.slice (some ⟨w.heap.size, 0, none⟩) l.length l.length) l.length (sC (fill l k ⟨#[]⟩)) ∧ Below w.heap.size w wr) (fun i _ => l.length - (intOf i).toNat)
  case atStart => exact ⟨0, by omega, rfl, made_rowS w 9 l.length l rfl (by omega), (Below.refl _ _).alloc (Nat.le_refl _) _⟩
  case round =>
    obtain ⟨k, hk, rfl, hown, hb⟩ := hrel
    by_cases hlt : k < l.length
    · have hr' := hr.below hb (Nat.le_refl _)
      obtain ⟨b, off, rfl, hblt, hl, hc⟩ := hr'.str hlt
      have hc1 := hown.cellAt k (by omega)
      rw [sC_get (by rw [fill_length _ _ _ (by omega)]; omega)] at hc1
      have hf1 := hown.frozenAt k
      have HO := hide hown
      have HB := hide hb
      clear hown hb hr'
      go_wp2
      refine ⟨⟨k + 1, by omega, by go_num, ?_, HB.out.setCell (Nat.le_refl _) _⟩, by simp [intOf]; omega⟩
      have := (HO.out.stored k (.string l[k])).1
      rw [← sC_set, fill_set l k ⟨#[]⟩ hl] at this
      exact this
    · have HK : Hid (fill l k ⟨#[]⟩ = l) := by
        rw [show k = l.length from by omega]
        exact fill_all l ⟨#[]⟩
      go_wp2
      go_ret
      rw [HK.out] at hown
      exact ⟨_, _, rfl, Nat.le_refl _, hown, hb⟩
/-- n marks from k on -/
def mrkT (k n : Nat) : List ByteArray := (List.range n).map fun j => mtB (k + j)
theorem mrkT_length (k n : Nat) : (mrkT k n).length = n := by simp [mrkT]
theorem mrkT_get (k n j : Nat) (h : j < (mrkT k n).length) : (mrkT k n)[j] = mtB (k + j) := by simp [mrkT]
theorem markStringS_c (A : Option Addr) (c : Nat) (l : List ByteArray) (w : World) (lo hi : Nat) (k : Nat) (hr : Ow w lo hi 9 1 A l.length (sC l)) (hhi : hi ≤ w.heap.size) (h0 : 0 < k) (hk : k + l.length ≤ 1099511627776) :
    Calls Tryd.prog 21 #[.slice A l.length c, .int .i64 k] w (fun e w' => e = .returned (.int .i64 ((k + l.length : Nat) : Int)) ∧ Ow w' lo hi 9 1 A l.length (sC (mrkT k l.length)) ∧ Tch lo hi w w') := by
  go_enter Tryd.func21, Tryd.ntmps21
  go_wp2_with fail
  go_loopw [1, 5] (fun q i wr => ∃ j : Nat, j ≤ l.length ∧ i = .int .i64 j ∧ q = .int .i64 ((k + j : Nat) : Int) ∧ Ow wr lo hi 9 1 A l.length (sC (over (mrkT k l.length) l j)) ∧ Tch lo hi w wr) (fun _ i _ => l.length - (intOf i).toNat)
  case atStart => exact ⟨0, by omega, rfl, by go_num, by rw [over_zero]; exact hr, Tch.refl _ _ _⟩
  case round =>
    obtain ⟨j, hj, rfl, rfl, how, hT⟩ := hrel
    by_cases hlt : j < l.length
    · have hmt := markText_c (k + j) (by omega) (by omega) wr
      have hX : mtB (k + j) = (mrkT k l.length)[j]'(by rw [mrkT_length]; exact hlt) := (mrkT_get k l.length j (by rw [mrkT_length]; exact hlt)).symm
      have hhw : hi ≤ wr.heap.size := by have := hT.size; omega
      have HS : Hid (sC ((over (mrkT k l.length) l j).set j (mtB (k + j))) = sC (over (mrkT k l.length) l (j + 1))) := by
        show _ = _
        rw [hX, over_set (by rw [mrkT_length]) (by rw [mrkT_length]; exact hlt)]
      have hov : j < (sC (over (mrkT k l.length) l j)).length := by rw [sC_length, over_length (by rw [mrkT_length])]; exact hlt
      have HW := hide how
      have HT := hide hT
      clear how hT hX hr
      generalize mtB (k + j) = X at hmt HS
      generalize hQ : k + j = Q at hmt ⊢
      have HQ := hide hQ
      have hqb : Q ≤ 1099511627776 := by omega
      clear hQ
      go_wp2_with fail
      refine hmt.mono ?_
      rintro e w1 ⟨rfl, hb1⟩
      obtain ⟨b, off, rfl, hblo, hblt, hc, hf⟩ := (HW.out.up hb1 hhw).at_ hov
      have HB1 := hide hb1
      clear hb1
      go_wp2_with fail
      refine ⟨⟨j + 1, by omega, by go_num, int_eq (by have := HQ.out; omega), ?_, (HT.out.trans (Tch.of_below HB1.out)).setCell (p := ⟨b, off + j, none⟩) hblo hblt _⟩, by simp [intOf]; omega⟩
      have h := (HW.out.up HB1.out hhw).store hov (.string X)
      rw [← sC_set, HS.out] at h
      exact h
    · have HJ : Hid (over (mrkT k l.length) l j = mrkT k l.length) := by
        have := mrkT_length k l.length
        rw [show j = (mrkT k l.length).length from by omega]
        exact over_all this
      have HN : Hid (j = l.length) := by show j = l.length; omega
      rw [HJ.out] at how
      have HW := hide how
      have HT := hide hT
      clear how hT hr
      go_wp2
      go_ret
      exact ⟨ret_int (by rw [HN.out]), HW.out, HT.out⟩
/-- all the letters -/
def szT : List ByteArray → Nat
  | [] => 0
  | x :: t => x.size + szT t
theorem szT_append : ∀ a b : List ByteArray, szT (a ++ b) = szT a + szT b
  | [], b => by simp [szT]
  | x :: a, b => by show x.size + szT (a ++ b) = x.size + szT a + szT b; rw [szT_append a b]; omega
theorem szT_take {l : List ByteArray} {k : Nat} (hk : k < l.length) : szT (l.take (k + 1)) = szT (l.take k) + l[k].size := by
  rw [List.take_succ_eq_append_getElem hk, szT_append]; rfl
theorem szT_le {l : List ByteArray} (k : Nat) : szT (l.take k) ≤ szT l := by
  conv => rhs; rw [← List.take_append_drop k l, szT_append]
  omega
theorem szStringS_c (A : Option Addr) (c : Nat) (l : List ByteArray) (left : Nat) (w : World) (hr : RdT w A c l) (hl : left ≤ 1048576) :
    Calls Tryd.prog 15 #[.slice A l.length c, .int .i64 left] w (RetV (.int .i64 (if l.length + szT l ≤ left then ((left - (l.length + szT l) : Nat) : Int) else -1)) w) := by
  obtain ⟨hlc, hcm, hr, hsz⟩ := hr
  generalize hV : (if l.length + szT l ≤ left then ((left - (l.length + szT l) : Nat) : Int) else -1) = V
  have HV := hide hV
  clear hV
  by_cases h0 : left < l.length
  · have HQ : Hid (V = -1) := by show V = -1; rw [← HV.out, if_neg (by omega)]
    have h1 : (left : Int) - (l.length : Int) < 0 := by omega
    go_enter Tryd.func15, Tryd.ntmps15
    go_wp2_with fail
    go_ret
    exact ⟨by rw [HQ.out]; rfl, Below.refl _ _⟩
  have h1 : ¬ (left : Int) - (l.length : Int) < 0 := by omega
  go_enter Tryd.func15, Tryd.ntmps15
  go_wp2_with fail
  go_loop [1, 5] (fun q i => ∃ j : Nat, j ≤ l.length ∧ i = .int .i64 j ∧ l.length + szT (l.take j) ≤ left ∧ q = .int .i64 ((left - (l.length + szT (l.take j)) : Nat) : Int)) (fun _ i => l.length - (intOf i).toNat)
  case atStart => exact ⟨0, by omega, rfl, by simp [szT]; omega, int_eq (by simp [szT]; try omega)⟩
  case round =>
    obtain ⟨j, hj, rfl, hle, rfl⟩ := hrel
    by_cases hlt : j < l.length
    · obtain ⟨b, off, rfl, hblt, hl', hc⟩ := hr.str hlt
      have hx := hsz l[j] (List.getElem_mem hl')
      have hst := szT_take hlt
      have hsl := szT_le (l := l) (j + 1)
      have HSS := hide hsz
      generalize szT (l.take j) = T0 at hst hle ⊢
      by_cases hbig : left < l.length + szT (l.take (j + 1))
      · have HQ : Hid (V = -1) := by show V = -1; rw [← HV.out, if_neg (by omega)]
        have h2 : ((left - (l.length + T0) : Nat) : Int) - (l[j].size : Int) < 0 := by omega
        clear hsz hst hsl
        go_wp2_with fail
        go_ret
        exact ⟨by rw [HQ.out]; rfl, Below.refl _ _⟩
      · have h2 : ¬ ((left - (l.length + T0) : Nat) : Int) - (l[j].size : Int) < 0 := by omega
        have HE : Hid (((left - (l.length + T0) : Nat) : Int) - (l[j].size : Int) = ((left - (l.length + szT (l.take (j + 1))) : Nat) : Int)) := by show _ = _; omega
        have HL : Hid (l.length + szT (l.take (j + 1)) ≤ left) := by show _ ≤ _; omega
        clear hsz hst hsl hbig
        go_wp2_with fail
        go_round
        case rel => exact ⟨j + 1, by omega, by go_num, HL.out, int_eq HE.out⟩
        case measure => simp [intOf]; omega
    · have HQ : Hid (V = ((left - (l.length + szT (l.take j)) : Nat) : Int)) := by
        show V = _
        rw [← HV.out]
        have : l.take j = l := List.take_of_length_le (by omega)
        rw [this] at hle ⊢
        rw [if_pos hle]
      generalize szT (l.take j) = T0 at HQ hle ⊢
      go_wp2_with fail
      go_ret
      exact ⟨by rw [HQ.out]; rfl, Below.refl _ _⟩
end Go.Proofs.YtlhhdpjnoainiabDoor
