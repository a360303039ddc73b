/- What the laws' helpers on slices of texts give (equal, marked, held, sized, copied); each contract says for which arguments. -/
import Derived.Test.YtmjmjloiblbhcaaDoorB5
import Derived.Test.YtmjmjloiblbhcaaDoorMemC
import Derived.Test.YtmjmjloiblbhcaaDoorOpenB
import Derived.Deep.OwnRows
namespace Go.Proofs.YtmjmjloiblbhcaaDoor
open Go.RowKit
set_option maxRecDepth 100000
set_option maxHeartbeats 400000
/-- the digits of a number, ahead of them the letter m -/
def decF : Nat → Nat → List UInt8
  | 0, _ => []
  | n + 1, k => if k = 0 then [] else decF n (k / 10) ++ [UInt8.ofNat (48 + k % 10)]
theorem decF_zero : ∀ n, decF n 0 = []
  | 0 => rfl
  | n + 1 => by rw [decF, if_pos rfl]
def mtB (k : Nat) : ByteArray := ⟨(109 :: decF 20 k).toArray⟩
theorem decF_step (n m : Nat) (h0 : 0 < m) (o : List UInt8) : decF (n + 1) m ++ o = decF n (m / 10) ++ (UInt8.ofNat (48 + m % 10) :: o) := by
  rw [decF, if_neg (by omega)]; simp
theorem markText_c (k : Nat) (h0 : 0 < k) (hk : k ≤ 1099511627776) (w : World) :
    Calls Tryd.prog 73 #[.int .i64 k] w (RetV (.string (mtB k)) w) := by
  have HM : Hid (mtB k = ⟨(109 :: (decF 20 k ++ (⟨#[]⟩ : ByteArray).data.toList)).toArray⟩) := by show mtB k = _; simp [mtB]
  generalize mtB k = R at HM ⊢
  go_enter Tryd.func73, Tryd.ntmps73
  go_wp2_with fail
  go_loopw [0, 3] (fun kv ov wr => ∃ (m n : Nat) (o : ByteArray), kv = .int .i64 ((m : Nat) : Int) ∧ ov = .string o ∧ m ≤ 1099511627776 ∧ m < 10 ^ n ∧ o.size + n ≤ 20 ∧ R = ⟨(109 :: (decF n m ++ o.data.toList)).toArray⟩ ∧ Below w.heap.size w wr) (fun kv _ _ => (intOf kv).toNat)
  case atStart => exact ⟨k, 20, ⟨#[]⟩, rfl, rfl, hk, by omega, Nat.le_refl _, HM.out, Below.refl _ _⟩
  case round =>
    obtain ⟨m, n, o, rfl, rfl, hm, hmn, hsz, hR, hB⟩ := hrel
    have HR := hide hR
    clear hR HM
    by_cases hpos : 0 < m
    · have hp : (0 : Int) < m := by omega
      obtain ⟨n', rfl⟩ : ∃ n', n = n' + 1 := ⟨n - 1, by
        rcases n with _ | n
        · simp at hmn; omega
        · omega⟩
      have hcv := run_convert_bytes_arg (P := Tryd.prog) (wr.alloc (.cells #[.int .u8 (48 + (m : Int) % 10)] 5)) 22 5 Tryd.underlying22 Tryd.underlying5 wr.heap.size 0 1 1 [48 + (m : Int) % 10] rfl (fun i hi => by
        obtain rfl : i = 0 := by omega
        rw [cell_of_row _ wr.heap.size (0 + 0) _ 5 (0, 0) (heap_alloc_new wr _)]; rfl) 9 Tryd.underlying9
      have HN : Hid (R = ⟨(109 :: (decF n' (m / 10) ++ (strOfNums [48 + (m : Int) % 10] ++ o).data.toList)).toArray⟩) := by
        show R = _
        rw [HR.out, decF_step n' m hpos]
        have : ((48 : Int) + (m : Int) % 10).toNat = 48 + m % 10 := by omega
        simp [strOfNums_data, this]
      have HMN : Hid (m / 10 < 10 ^ n') := by show m / 10 < 10 ^ n'; rw [Nat.pow_succ] at hmn; exact Nat.div_lt_of_lt_mul (by omega)
      have hs1 : (strOfNums [48 + (m : Int) % 10]).size = 1 := strOfNums_size _
      have hsa : (strOfNums [48 + (m : Int) % 10] ++ o).size = 1 + o.size := by rw [ByteArray.size_append, hs1]
      have HSA : Hid ((strOfNums [48 + (m : Int) % 10] ++ o).size + n' ≤ 20) := by show _ ≤ 20; omega
      clear hmn hsa HR
      generalize strOfNums [48 + (m : Int) % 10] = D at hcv HN HSA hs1
      go_wp2_with fail
      exact ⟨⟨m / 10, n', D ++ o, by go_num, rfl, by omega, HMN.out, HSA.out, HN.out, hB.alloc (by have := hB.size; omega) _⟩, by simp [intOf]; omega⟩
    · have HZ : Hid (m = 0) := by show m = 0; omega
      have HQ : Hid (R = ⟨#[109]⟩ ++ o) := by
        show R = _
        rw [HR.out, HZ.out, decF_zero]
        exact ext_data (by simp)
      go_wp2_with fail
      go_ret
      exact ⟨by rw [HQ.out]; rfl, hB⟩
theorem sC_set (l : List ByteArray) (k : Nat) (x : ByteArray) : sC (l.set k x) = (sC l).set k (.string x) := by simp [sC, List.map_set]
theorem made_rowS (w : World) (e n : Nat) (l : List ByteArray) (hl : l.length = n) (hn : n ≤ 9223372036854775807) :
    (w.alloc (.cells (madeCells #[.string ⟨#[]⟩] n) e)).ownsRow w.heap.size e 1 (.slice (some ⟨w.heap.size, 0, none⟩) n n) n (sC (fill l 0 ⟨#[]⟩)) := by
  have h := made_row_cells w e n (.string ⟨#[]⟩) hn
  rw [fill_zero, hl, sC, List.map_replicate]
  exact h
/-- n marks from k on -/
def mrkT (k n : Nat) : List ByteArray := (List.range n).map fun j => mtB (k + j)
theorem mrkT_length (k n : Nat) : (mrkT k n).length = n := by simp [mrkT]
theorem mrkT_get (k n j : Nat) (h : j < (mrkT k n).length) : (mrkT k n)[j] = mtB (k + j) := by simp [mrkT]
/-- all the letters -/
def szT : List ByteArray → Nat
  | [] => 0
  | x :: t => x.size + szT t
theorem szT_append : ∀ a b : List ByteArray, szT (a ++ b) = szT a + szT b
  | [], b => by simp [szT]
  | x :: a, b => by show x.size + szT (a ++ b) = x.size + szT a + szT b; rw [szT_append a b]; omega
theorem szT_take {l : List ByteArray} {k : Nat} (hk : k < l.length) : szT (l.take (k + 1)) = szT (l.take k) + l[k].size := by
  rw [List.take_succ_eq_append_getElem hk, szT_append]; rfl
theorem szT_le {l : List ByteArray} (k : Nat) : szT (l.take k) ≤ szT l := by
  conv => rhs; rw [← List.take_append_drop k l, szT_append]
  omega
end Go.Proofs.YtmjmjloiblbhcaaDoor
