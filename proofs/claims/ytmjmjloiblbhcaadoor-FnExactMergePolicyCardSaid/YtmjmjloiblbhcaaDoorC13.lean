/- Marks on policies: what marking and looking leave; each contract says for which arguments. -/
import Derived.Test.YtmjmjloiblbhcaaDoorC4
import Derived.Test.YtmjmjloiblbhcaaDoorB10
import Derived.Test.YtmjmjloiblbhcaaDoorC7
namespace Go.Proofs.YtmjmjloiblbhcaaDoor
open Go.RowKit
set_option maxRecDepth 100000
set_option maxHeartbeats 1000000
/-- n rules of marks from k on -/
def mrkR (k n : Nat) : List Rl := (List.range n).map fun j => (mtB (k + 2 * j), ((k + 2 * j + 1 : Nat) : Int))
theorem mrkR_length (k n : Nat) : (mrkR k n).length = n := by simp [mrkR]
theorem mrkR_get (k n j : Nat) (h : j < (mrkR k n).length) : (mrkR k n)[j] = (mtB (k + 2 * j), ((k + 2 * j + 1 : Nat) : Int)) := by simp [mrkR]
theorem markRuleS_c (A : Option Addr) (c : Nat) (l : List Rl) (w : World) (lo hi : Nat) (k : Nat) (hr : Ow w lo hi 53 2 A l.length (rC l)) (hhi : hi ≤ w.heap.size) (h0 : 0 < k) (hk : k + 2 * l.length ≤ 1099511627776) :
    Calls Tryd.prog 46 #[.slice A l.length c, .int .i64 k] w (fun e w' => e = .returned (.int .i64 ((k + 2 * l.length : Nat) : Int)) ∧ Ow w' lo hi 53 2 A l.length (rC (mrkR k l.length)) ∧ Tch lo hi w w') := by
  go_enter Tryd.func46, Tryd.ntmps46
  go_wp2_with fail
  go_loopw [1, 5] (fun q i wr => ∃ j : Nat, j ≤ l.length ∧ i = .int .i64 j ∧ q = .int .i64 ((k + 2 * j : Nat) : Int) ∧ Ow wr lo hi 53 2 A l.length (rC (over (mrkR k l.length) l j)) ∧ Tch lo hi w wr) (fun _ i _ => l.length - (intOf i).toNat)
  case atStart => exact ⟨0, by omega, rfl, by go_num, by rw [over_zero]; exact hr, Tch.refl _ _ _⟩
  case round =>
    obtain ⟨j, hj, rfl, rfl, how, hT⟩ := hrel
    by_cases hlt : j < l.length
    · have hmt := markText_c (k + 2 * j) (by omega) (by omega) wr
      have hhw : hi ≤ wr.heap.size := by have := hT.size; omega
      have HS : Hid (((rC (over (mrkR k l.length) l j)).set (j * 2) (.string (mtB (k + 2 * j)))).set (j * 2 + 1) (.int .i64 ((k + 2 * j + 1 : Nat) : Int)) = rC (over (mrkR k l.length) l (j + 1))) := by
        show _ = _
        have h1 := rC_set (over (mrkR k l.length) l j) j (mtB (k + 2 * j), ((k + 2 * j + 1 : Nat) : Int))
        rw [← h1, ← mrkR_get k l.length j (by rw [mrkR_length]; exact hlt), over_set (by rw [mrkR_length]) (by rw [mrkR_length]; exact hlt)]
      have hov : j * 2 < (rC (over (mrkR k l.length) l j)).length := by rw [rC_length, over_length (by rw [mrkR_length])]; omega
      have hov1 : j * 2 + 1 < (rC (over (mrkR k l.length) l j)).length := by rw [rC_length, over_length (by rw [mrkR_length])]; omega
      have HW := hide how
      have HT := hide hT
      clear how hT hr
      generalize hQ : k + 2 * j = Q at hmt HS ⊢
      generalize mtB Q = X at hmt HS
      have HQ := hide hQ
      have hqb : Q ≤ 1099511627776 := by omega
      clear hQ
      go_wp2_with fail
      refine hmt.mono ?_
      rintro e w1 ⟨rfl, hb1⟩
      have HU := hide (HW.out.up hb1 hhw)
      obtain ⟨b, off, rfl, hblo, hblt, hc, hf⟩ := HU.out.at_ hov
      obtain ⟨b', off', e', _, _, hc1, hf1⟩ := HU.out.at_ hov1
      injection e' with e'
      injection e' with e1 e2
      subst e1; subst e2
      have HB1 := hide hb1
      have hc1' : w1.cell? ⟨b, off + j * 2 + 1, none⟩ = some ((rC (over (mrkR k l.length) l j))[j * 2 + 1]) := by rw [Nat.add_assoc]; exact hc1
      have hf1' : w1.frozen? ⟨b, off + j * 2 + 1, none⟩ = false := by rw [Nat.add_assoc]; exact hf1
      clear hb1 hc1 hf1
      go_wp2_with fail
      refine ⟨⟨j + 1, by omega, by go_num, int_eq (by have := HQ.out; omega), ?_, ((HT.out.trans (Tch.of_below HB1.out)).setCell (p := ⟨b, off + j * 2, none⟩) hblo hblt _).setCell (p := ⟨b, off + j * 2 + 1, none⟩) hblo hblt _⟩, by simp [intOf]; omega⟩
      have h := (HU.out.store hov (.string X)).store (j := j * 2 + 1) (by rw [List.length_set]; exact hov1) (.int .i64 ((Q + 1 : Nat) : Int))
      rw [HS.out] at h
      exact h
    · have HJ : Hid (over (mrkR k l.length) l j = mrkR k l.length) := by
        have := mrkR_length k l.length
        rw [show j = (mrkR k l.length).length from by omega]
        exact over_all this
      have HN : Hid (j = l.length) := by show j = l.length; omega
      rw [HJ.out] at how
      have HW := hide how
      have HT := hide hT
      clear how hT hr
      go_wp2
      go_ret
      exact ⟨ret_int (by rw [HN.out]), HW.out, HT.out⟩
theorem heldRuleS_c (A : Option Addr) (c : Nat) (n k : Nat) (w : World) (hr : Rd w w.heap.size 2 A n (rC (mrkR k n))) (h0 : 0 < k) (hk : k + 2 * n ≤ 1099511627776) :
    Calls Tryd.prog 47 #[.slice A n c, .int .i64 k] w (RetV (.int .i64 ((k + 2 * n : Nat) : Int)) w) := by
  have hn := hr.bd
  go_enter Tryd.func47, Tryd.ntmps47
  go_wp2_with fail
  go_loopw [1, 5] (fun q i wr => ∃ j : Nat, j ≤ n ∧ i = .int .i64 j ∧ q = .int .i64 ((k + 2 * j : Nat) : Int) ∧ Below w.heap.size w wr) (fun _ i _ => n - (intOf i).toNat)
  case atStart => exact ⟨0, by omega, rfl, by go_num, Below.refl _ _⟩
  case round =>
    obtain ⟨j, hj, rfl, rfl, hb⟩ := hrel
    by_cases hlt : j < n
    · obtain ⟨b, off, rfl, hblt, hll, hc0, hc1⟩ := (hr.up hb).rule hlt
      have hg := mrkR_get k n j hll
      rw [hg] at hc0 hc1
      have hmt := hide fun (z : After wr.heap.size wr) => markText_c (k + 2 * j) (by omega) (by omega) z.w
      have q0 : ∀ z : After wr.heap.size wr, z.w.cell? ⟨b, off + j * 2, none⟩ = some (.string (mtB (k + 2 * j))) := fun z => z.cell hc0 hblt
      have HC1 := hide hc1
      have hXX : ((mtB (k + 2 * j)).toList != (mtB (k + 2 * j)).toList) = false := by simp
      have HB := hide hb
      generalize hQ : k + 2 * j = Q at hmt q0 hXX HC1 ⊢
      generalize mtB Q = X at hmt q0 hXX
      have HQ := hide hQ
      have hqb : Q ≤ 1099511627776 := by omega
      clear hc0 hc1 hg hb hQ hr
      go_wp2_with fail
      refine wp_region_after wr.heap.size (by kernel_rfl) (by kernel_rfl) ?_
      repeat (go_big_quiet_step ((go_at_call 73; exact after_of (Nat.le_refl _) (hmt.out _))))
      refine wpQuiet_nil ?_
      rintro w5 ⟨x_w5, e_w5⟩
      have hb5 := x_w5.below
      rw [← e_w5] at hb5
      clear e_w5 x_w5
      have hc5 := cell_oldB HC1.out hb5 hblt
      clear q0
      go_wp2_with fail
      refine ⟨⟨j + 1, by omega, by go_num, int_eq (by have := HQ.out; omega), then_ HB.out hb5 HB.out.size⟩, by simp [intOf]; omega⟩
    · have HN : Hid (j = n) := by show j = n; omega
      clear hr
      go_wp2_with fail
      go_ret
      exact ⟨ret_int (by rw [HN.out]), hb⟩
theorem markPolicy_c (nm : ByteArray) (A : Option Addr) (c : Nat) (l : List Rl) (w : World) (lo hi : Nat) (k : Nat) (hr : Ow w lo hi 53 2 A l.length (rC l)) (hhi : hi ≤ w.heap.size) (h0 : 0 < k) (hk : k + 2 * l.length ≤ 1099511627776) :
    Calls Tryd.prog 20 #[.agg #[.string nm, .slice A l.length c], .int .i64 k] w (fun e w' => e = .returned (.int .i64 ((k + 2 * l.length : Nat) : Int)) ∧ Ow w' lo hi 53 2 A l.length (rC (mrkR k l.length)) ∧ Tch lo hi w w') := by
  have hbq : Below w.heap.size w (w.alloc (.cells #[.string nm, .slice A l.length c] 26)) := (by repeat (first | with_reducible exact Below.refl _ _ | with_reducible assumption | refine Below.alloc ?_ (by first | omega | (simp; done) | (simp; omega)) _ | refine Below.setCell ?_ (by first | omega | (simp; done) | (simp; omega)) _ | refine Below.drew ?_ | refine below_drewN ?_ _ | exact Below.refl _ _ | assumption))
  have C := hide (markRuleS_c A c l (w.alloc (.cells #[.string nm, .slice A l.length c] 26)) lo hi k (hr.up hbq hhi) (by simp; omega) h0 hk)
  have HBQ := hide hbq
  clear hr hbq
  go_enter Tryd.func20, Tryd.ntmps20
  go_wp2_with fail
  refine C.out.mono ?_
  rintro e w1 ⟨rfl, how, hT⟩
  have HW := hide how
  have HT := hide ((Tch.of_below HBQ.out).trans hT)
  clear how hT
  go_wp2_with fail
  go_ret
  exact ⟨rfl, HW.out, HT.out⟩
theorem heldPolicy_c (nm : ByteArray) (A : Option Addr) (c : Nat) (n k : Nat) (w : World) (hr : Rd w w.heap.size 2 A n (rC (mrkR k n))) (h0 : 0 < k) (hk : k + 2 * n ≤ 1099511627776) :
    Calls Tryd.prog 21 #[.agg #[.string nm, .slice A n c], .int .i64 k] w (RetV (.int .i64 ((k + 2 * n : Nat) : Int)) w) := by
  have hbq : Below w.heap.size w (w.alloc (.cells #[.string nm, .slice A n c] 26)) := (by repeat (first | with_reducible exact Below.refl _ _ | with_reducible assumption | refine Below.alloc ?_ (by first | omega | (simp; done) | (simp; omega)) _ | refine Below.setCell ?_ (by first | omega | (simp; done) | (simp; omega)) _ | refine Below.drew ?_ | refine below_drewN ?_ _ | exact Below.refl _ _ | assumption))
  have C := hide (heldRuleS_c A c n k (w.alloc (.cells #[.string nm, .slice A n c] 26)) (hr.up hbq) h0 hk)
  have HBQ := hide hbq
  clear hr hbq
  have hneg : ¬ ((k + 2 * n : Nat) : Int) < 0 := by omega
  generalize k + 2 * n = Q at C hneg ⊢
  go_enter Tryd.func21, Tryd.ntmps21
  go_wp2_with fail
  refine C.out.mono ?_
  rintro e w1 ⟨rfl, hb1⟩
  have HB := hide (then_ HBQ.out hb1 (by simp))
  clear hb1
  go_wp2_with fail
  go_ret
  exact ⟨rfl, HB.out⟩
end Go.Proofs.YtmjmjloiblbhcaaDoor
