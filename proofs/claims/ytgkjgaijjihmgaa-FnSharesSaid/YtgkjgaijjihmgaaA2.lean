/- What the functions on slices of bytes and of numbers give. -/
import Derived.Test.YtgkjgaijjihmgaaA1
import Derived.Test.YtgkjgaijjihmgaaMem2
import Derived.Deep.OwnRows
import Derived.Deep.QuietTactic
import Derived.BigQuiet
namespace Go.Proofs.Ytgkjgaijjihmgaa
open Go.RowKit Gf
set_option maxRecDepth 100000
set_option maxHeartbeats 400000
theorem info5 : (Try.prog.info? 5).map (fun i => (i.zero, i.size, i.bytes)) = some (some (.int .u8 0), 1, 1) := by kernel_rfl
theorem info3 : (Try.prog.info? 3).map (fun i => (i.zero, i.size, i.bytes)) = some (some (.int .i64 0), 1, 8) := by kernel_rfl
theorem toByteS_c (A : Option Addr) (n c : Nat) (l : List UInt8) (w : World) (hr : Rd w w.heap.size 1 A n (bC l)) (hn : n ≤ 1048576) :
    Calls Try.prog 64 #[.slice A n c] w (RetRow 5 1 n (bC l) w) := by
  have hmk := run_make_row' (P := Try.prog) 22 5 (.int .u8 0) 1 Try.underlying22 info5 rfl .i64 .i64 n (by omega) (by omega)
  have hln := hide hr.bn
  go_enter Try.func64, Try.ntmps64
  go_wp2_with fail
  go_loopw [4] (fun i wr => ∃ k : Nat, k ≤ n ∧ i = .int .i64 k ∧ wr.ownsRow w.heap.size 5 1 (.slice (some ⟨w.heap.size, 0, none⟩) n n) n (bC (fill l k 0)) ∧ Below w.heap.size w wr) (fun i _ => n - (intOf i).toNat)
  case atStart => exact ⟨0, by omega, rfl, made_row w 5 n l (.int .u8 0) hln.out rfl (by omega), (Below.refl _ _).alloc (Nat.le_refl _) _⟩
  case round =>
    obtain ⟨k, hk, rfl, hown, hb⟩ := hrel
    by_cases hlt : k < n
    · have hr' := hr.below hb (Nat.le_refl _)
      obtain ⟨b, off, rfl, hblt, hl, hc⟩ := hr'.byte hlt
      have hc1 := hown.cellAt k (by omega)
      rw [bC_get (by rw [fill_length _ _ _ (by omega)]; omega)] at hc1
      have hf1 := hown.frozenAt k
      have HO := hide hown
      have HB := hide hb
      clear hown hb hr'
      go_wp2
      refine ⟨⟨k + 1, by omega, by go_num, ?_, HB.out.setCell (Nat.le_refl _) _⟩, by simp [intOf]; omega⟩
      have := (HO.out.stored k (.int .u8 (l[k].toNat : Int))).1
      rw [← bC_set, fill_set l k 0 hl] at this
      exact this
    · have HK : Hid (fill l k 0 = l) := by
        have := hln.out
        rw [show k = l.length from by omega]
        exact fill_all l 0
      go_wp2
      go_ret
      rw [HK.out] at hown
      exact ⟨_, _, rfl, Nat.le_refl _, hown, hb⟩
theorem eqByteS_c (A A' : Option Addr) (n c c' : Nat) (l : List UInt8) (w : World) (hi hi' : Nat) (hr : Rd w hi 1 A n (bC l)) (hr' : Rd w hi' 1 A' n (bC l)) :
    Calls Try.prog 24 #[.slice A n c, .slice A' n c'] w (RetV (.bool true) w) := by
  have hn := hr.bd
  go_enter Try.func24, Try.ntmps24
  go_wp2_with fail
  go_loopw [5] (fun i wr => ∃ k m : Nat, k ≤ n ∧ i = .int .i64 k ∧ wr = w.drewN m) (fun i _ => n - (intOf i).toNat)
  case atStart => exact ⟨0, 0, by omega, rfl, rfl⟩
  case round =>
    obtain ⟨k, m, hk, rfl, rfl⟩ := hrel
    by_cases hlt : k < n
    · obtain ⟨b, off, rfl, hblt, hl, hc⟩ := hr.byte hlt
      obtain ⟨b', off', rfl, hblt', hl', hc'⟩ := hr'.byte hlt
      have e1 : ((l[k].toNat : Int) != (l[k].toNat : Int)) = false := by simp
      go_wp2_with fail
      go_quiet (fail)
      go_wp2
      exact ⟨⟨k + 1, _, by omega, by go_num, rfl⟩, by simp [intOf]; omega⟩
    · go_wp2
      go_ret
      exact ⟨rfl, below_drewN (Below.refl _ _) m⟩
def markB (k : Int) (n : Nat) : List UInt8 := (List.range n).map fun (j : Nat) => UInt8.ofNat ((k + (j : Int)).toNat % 256)
def markI (k : Int) (n : Nat) : List Int := (List.range n).map fun (j : Nat) => k + (j : Int)
theorem markB_length (k : Int) (n : Nat) : (markB k n).length = n := by simp [markB]
theorem markI_length (k : Int) (n : Nat) : (markI k n).length = n := by simp [markI]
theorem markB_get (k : Int) (n j : Nat) (h : j < (markB k n).length) : ((markB k n)[j].toNat : Int) = (k + j) % 256 ∨ k + j < 0 := by
  simp only [markB, List.getElem_map, List.getElem_range, UInt8.toNat_ofNat']
  omega
theorem markI_get (k : Int) (n j : Nat) (h : j < (markI k n).length) : (markI k n)[j] = k + j := by simp [markI]
theorem heldByteS_c (A : Option Addr) (n c : Nat) (w : World) (hi : Nat) (k : Int) (hr : Rd w hi 1 A n (bC (markB k n))) (hk0 : 0 ≤ k) (hk1 : k ≤ 1099511627776) (hn : n ≤ 1099511627776) :
    Calls Try.prog 30 #[.slice A n c, .int .i64 k] w (RetV (.int .i64 (k + n)) w) := by
  go_enter Try.func30, Try.ntmps30
  go_wp2_with fail
  go_loopw [1, 5] (fun q i wr => ∃ j m : Nat, j ≤ n ∧ i = .int .i64 j ∧ q = .int .i64 (k + j) ∧ wr = w.drewN m) (fun _ i _ => n - (intOf i).toNat)
  case atStart => exact ⟨0, 0, by omega, rfl, by go_num, rfl⟩
  case round =>
    obtain ⟨j, m, hj, rfl, rfl, rfl⟩ := hrel
    by_cases hlt : j < n
    · obtain ⟨b, off, rfl, hblt, hl, hc⟩ := hr.byte hlt
      have hg : ((markB k n)[j].toNat : Int) = (k + j) % 256 := by rcases markB_get k n j hl with h | h <;> omega
      rw [hg] at hc
      clear hg
      go_wp2
      exact ⟨⟨j + 1, m, by omega, by go_num, int_eq (by omega), rfl⟩, by simp [intOf]; omega⟩
    · have HJ : Hid (j = n) := by show j = n; omega
      go_wp2
      go_ret
      exact ⟨ret_int (by rw [HJ.out]), below_drewN (Below.refl _ _) m⟩
theorem markByteS_c (A : Option Addr) (n c : Nat) (l : List UInt8) (w : World) (lo hi : Nat) (k : Int) (hr : Ow w lo hi 5 1 A n (bC l)) (hk0 : 0 ≤ k) (hk1 : k ≤ 1099511627776) (hn : n ≤ 1099511627776) :
    Calls Try.prog 28 #[.slice A n c, .int .i64 k] w (fun e w' => e = .returned (.int .i64 (k + n)) ∧ Ow w' lo hi 5 1 A n (bC (markB k n)) ∧ w.grownBy w' (A.map (·.block)) ∧ Chg lo hi w w') := by
  have hln := hide hr.rd.bn
  go_enter Try.func28, Try.ntmps28
  go_wp2_with fail
  go_loopw [1, 5] (fun q i wr => ∃ j : Nat, j ≤ n ∧ i = .int .i64 j ∧ q = .int .i64 (k + j) ∧ Ow wr lo hi 5 1 A n (bC (over (markB k n) l j)) ∧ w.grownBy wr (A.map (·.block)) ∧ Chg lo hi w wr) (fun _ i _ => n - (intOf i).toNat)
  case atStart => exact ⟨0, by omega, rfl, by go_num, by rw [over_zero]; exact hr, World.grownBy.refl _ _, Chg.refl _ _ _⟩
  case round =>
    obtain ⟨j, hj, rfl, rfl, how, hg, hsz⟩ := hrel
    by_cases hlt : j < n
    · obtain ⟨b, off, rfl, hblo, hblt, hc, hf⟩ := how.at_ (j := j) (by rw [bC_length, over_length (by rw [markB_length, hln.out])]; have := hln.out; omega)
      have HW := hide how; have HG := hide hg; have HS := hide hsz
      clear how hg hsz hr
      go_wp2
      refine ⟨⟨j + 1, by omega, by go_num, int_eq (by omega), ?_, only_setCell (p := ⟨b, off + j, none⟩) HG.out (.inl rfl) _, HS.out.setCell (p := ⟨b, off + j, none⟩) hblo hblt _⟩, by simp [intOf]; omega⟩
      have hl : j < (markB k n).length := by rw [markB_length]; exact hlt
      have h := HW.out.store (j := j) (by rw [bC_length, over_length (by rw [markB_length, hln.out])]; have := hln.out; omega) (.int .u8 ((markB k n)[j].toNat : Int))
      rw [← bC_set, over_set (by rw [markB_length, hln.out]) hl] at h
      rcases markB_get k n j hl with hg | hg
      · rw [hg] at h; exact h
      · omega
    · have HJ : Hid (over (markB k n) l j = markB k n) := by
        have := hln.out
        rw [show j = (markB k n).length from by rw [markB_length]; omega]
        exact over_all (by rw [markB_length, this])
      have HN : Hid (j = n) := by show j = n; omega
      rw [HJ.out] at how
      have HW := hide how; have HG := hide hg; have HS := hide hsz
      clear how hg hsz
      go_wp2
      go_ret
      exact ⟨ret_int (by rw [HN.out]), HW.out, HG.out, HS.out⟩
end Go.Proofs.Ytgkjgaijjihmgaa
