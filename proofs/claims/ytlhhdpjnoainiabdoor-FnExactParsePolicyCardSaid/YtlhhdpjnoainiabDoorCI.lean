/- What the laws' helpers on slices of numbers give (equal, held, marked); each contract says for which arguments. -/
import Derived.Test.YtlhhdpjnoainiabDoorProg
import Derived.Test.YtlhhdpjnoainiabDoorMem2
import Derived.Deep.OwnRows
import Derived.Deep.QuietTactic
import Derived.BigQuiet
namespace Go.Proofs.YtlhhdpjnoainiabDoor
open Go.RowKit
set_option maxRecDepth 100000
set_option maxHeartbeats 400000
theorem info_i : (Tryd.prog.info? 3).map (fun i => (i.zero, i.size, i.bytes)) = some (some (.int .i64 0), 1, 8) := by kernel_rfl
def markI (k : Int) (n : Nat) : List Int := (List.range n).map fun (j : Nat) => k + (j : Int)
theorem markI_length (k : Int) (n : Nat) : (markI k n).length = n := by simp [markI]
theorem markI_get (k : Int) (n j : Nat) (h : j < (markI k n).length) : (markI k n)[j] = k + j := by simp [markI]
theorem eqIntS_c (A A' : Option Addr) (n c c' : Nat) (l : List Int) (w : World) (hi hi' : Nat) (hr : Rd w hi 1 A n (iC l)) (hr' : Rd w hi' 1 A' n (iC l)) :
    Calls Tryd.prog 19 #[.slice A n c, .slice A' n c'] w (RetV (.bool true) w) := by
  have hn := hr.bd
  go_enter Tryd.func19, Tryd.ntmps19
  go_wp2_with fail
  go_loopw [5] (fun i wr => ∃ k m : Nat, k ≤ n ∧ i = .int .i64 k ∧ wr = w.drewN m) (fun i _ => n - (intOf i).toNat)
  case atStart => exact ⟨0, 0, by omega, rfl, rfl⟩
  case round =>
    obtain ⟨k, m, hk, rfl, rfl⟩ := hrel
    by_cases hlt : k < n
    · obtain ⟨b, off, rfl, hblt, hl, hc⟩ := hr.int_ hlt
      obtain ⟨b', off', rfl, hblt', hl', hc'⟩ := hr'.int_ hlt
      have e1 : (l[k] != l[k]) = false := by simp
      go_wp2_with fail
      go_quiet (fail)
      go_wp2
      exact ⟨⟨k + 1, _, by omega, by go_num, rfl⟩, by simp [intOf]; omega⟩
    · go_wp2
      go_ret
      exact ⟨rfl, below_drewN (Below.refl _ _) m⟩
theorem heldIntS_c (A : Option Addr) (n c : Nat) (w : World) (hi : Nat) (k : Int) (hr : Rd w hi 1 A n (iC (markI k n))) (hk0 : 0 ≤ k) (hk1 : k ≤ 1099511627776) (hn : n ≤ 1099511627776) :
    Calls Tryd.prog 23 #[.slice A n c, .int .i64 k] w (RetV (.int .i64 (k + n)) w) := by
  go_enter Tryd.func23, Tryd.ntmps23
  go_wp2_with fail
  go_loopw [1, 5] (fun q i wr => ∃ j m : Nat, j ≤ n ∧ i = .int .i64 j ∧ q = .int .i64 (k + j) ∧ wr = w.drewN m) (fun _ i _ => n - (intOf i).toNat)
  case atStart => exact ⟨0, 0, by omega, rfl, by go_num, rfl⟩
  case round =>
    obtain ⟨j, m, hj, rfl, rfl, rfl⟩ := hrel
    by_cases hlt : j < n
    · obtain ⟨b, off, rfl, hblt, hl, hc⟩ := hr.int_ hlt
      have hg := markI_get k n j hl
      rw [hg] at hc
      clear hg
      go_wp2
      exact ⟨⟨j + 1, m, by omega, by go_num, int_eq (by omega), rfl⟩, by simp [intOf]; omega⟩
    · have HJ : Hid (j = n) := by show j = n; omega
      go_wp2
      go_ret
      exact ⟨ret_int (by rw [HJ.out]), below_drewN (Below.refl _ _) m⟩
theorem markIntS_c (A : Option Addr) (n c : Nat) (l : List Int) (w : World) (lo hi : Nat) (k : Int) (hr : Ow w lo hi 3 1 A n (iC l)) (hk0 : 0 ≤ k) (hk1 : k ≤ 1099511627776) (hn : n ≤ 1099511627776) :
    Calls Tryd.prog 22 #[.slice A n c, .int .i64 k] w (fun e w' => e = .returned (.int .i64 (k + n)) ∧ Ow w' lo hi 3 1 A n (iC (markI k n)) ∧ w.grownBy w' (A.map (·.block)) ∧ Chg lo hi w w') := by
  have hln := hide hr.rd.in_
  go_enter Tryd.func22, Tryd.ntmps22
  go_wp2_with fail
  go_loopw [1, 5] (fun q i wr => ∃ j : Nat, j ≤ n ∧ i = .int .i64 j ∧ q = .int .i64 (k + j) ∧ Ow wr lo hi 3 1 A n (iC (over (markI k n) l j)) ∧ w.grownBy wr (A.map (·.block)) ∧ Chg lo hi w wr) (fun _ i _ => n - (intOf i).toNat)
  case atStart => exact ⟨0, by omega, rfl, by go_num, by rw [over_zero]; exact hr, World.grownBy.refl _ _, Chg.refl _ _ _⟩
  case round =>
    obtain ⟨j, hj, rfl, rfl, how, hg, hsz⟩ := hrel
    by_cases hlt : j < n
    · obtain ⟨b, off, rfl, hblo, hblt, hc, hf⟩ := how.at_ (j := j) (by rw [iC_length, over_length (by rw [markI_length, hln.out])]; have := hln.out; omega)
      have HW := hide how; have HG := hide hg; have HS := hide hsz
      clear how hg hsz hr
      go_wp2
      refine ⟨⟨j + 1, by omega, by go_num, int_eq (by omega), ?_, only_setCell (p := ⟨b, off + j, none⟩) HG.out (.inl rfl) _, HS.out.setCell (p := ⟨b, off + j, none⟩) hblo hblt _⟩, by simp [intOf]; omega⟩
      have hl : j < (markI k n).length := by rw [markI_length]; exact hlt
      have h := HW.out.store (j := j) (by rw [iC_length, over_length (by rw [markI_length, hln.out])]; have := hln.out; omega) (.int .i64 (markI k n)[j])
      rw [← iC_set, over_set (by rw [markI_length, hln.out]) hl] at h
      rw [markI_get k n j hl] at h
      exact h
    · have HJ : Hid (over (markI k n) l j = markI k n) := by
        have := hln.out
        rw [show j = (markI k n).length from by rw [markI_length]; omega]
        exact over_all (by rw [markI_length, this])
      have HN : Hid (j = n) := by show j = n; omega
      rw [HJ.out] at how
      have HW := hide how; have HG := hide hg; have HS := hide hsz
      clear how hg hsz
      go_wp2
      go_ret
      exact ⟨ret_int (by rw [HN.out]), HW.out, HG.out, HS.out⟩
end Go.Proofs.YtlhhdpjnoainiabDoor
