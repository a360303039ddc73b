/- Shares that are alike: what the program's and the reference's tests give. -/
import Derived.Test.YtgkjgaijjihmgaaA6
import Derived.Test.YtgkjgaijjihmgaaMem8
import Derived.Deep.LoopGhost
import Derived.Deep.RegionWith
import Derived.Deep.RegionHeld3
import Derived.BigQuiet
import Derived.Deep.QuietTactic
namespace Go.Proofs.Ytgkjgaijjihmgaa
open Go.RowKit Gf
set_option maxRecDepth 100000
set_option maxHeartbeats 1000000
/-- the share at place k is valid, as long as the first one, and unlike those ahead of it -/
def goodA (ss : List Sh) (k : Nat) : Bool := if h : k < ss.length then shOk ss[k].1 ss[k].2.length && (ss[k].2.length == (ss[0]'(by omega)).2.length) else true
def dupA (ss : List Sh) (k : Nat) : Bool := (List.range k).any fun j => (ss[j]?.map (·.1)) == (ss[k]?.map (·.1))
def alikeB (ss : List Sh) : Bool := (List.range ss.length).all fun k => goodA ss k && !dupA ss k
theorem alike_true {ss : List Sh} (h : ∀ k, k < ss.length → goodA ss k = true ∧ dupA ss k = false) : alikeB ss = true := by
  unfold alikeB
  rw [List.all_eq_true]
  intro k hk
  obtain ⟨h1, h2⟩ := h k (List.mem_range.1 hk)
  rw [h1, h2]; rfl
theorem alike_false {ss : List Sh} {k : Nat} (hk : k < ss.length) (h : goodA ss k = false ∨ dupA ss k = true) : alikeB ss = false := by
  unfold alikeB
  rw [List.all_eq_false]
  refine ⟨k, List.mem_range.2 hk, ?_⟩
  rcases h with h | h <;> rw [h] <;> simp
theorem dup_true {ss : List Sh} {j k : Nat} (hj : j < k) (hk : k < ss.length) (h : ss[j].1 = ss[k].1) : dupA ss k = true := by
  unfold dupA
  rw [List.any_eq_true]
  refine ⟨j, List.mem_range.2 hj, ?_⟩
  rw [List.getElem?_eq_getElem (by omega), List.getElem?_eq_getElem hk]
  simp [h]
theorem dup_false {ss : List Sh} {k : Nat} (hk : k < ss.length) (h : ∀ j (hj : j < k), ss[j].1 ≠ ss[k].1) : dupA ss k = false := by
  unfold dupA
  rw [List.any_eq_false]
  intro j hj
  have hj' := List.mem_range.1 hj
  rw [List.getElem?_eq_getElem (by omega), List.getElem?_eq_getElem hk]
  have := h j hj'
  simpa using this
theorem good_eq {ss : List Sh} {k : Nat} (hk : k < ss.length) : goodA ss k = (shOk ss[k].1 ss[k].2.length && (ss[k].2.length == (ss[0]'(by omega)).2.length)) := dif_pos hk
theorem l03Shares_c (A : Option Addr) (n c : Nat) (ss : List Sh) (w : World) (hr : ShR w w.heap.size A n ss) :
    Calls Try.prog 48 #[.slice A n c] w (RetV (.bool (decide (n ≤ 12) && alikeB ss)) w) := by
  have hn := hr.bd
  by_cases h12 : n ≤ 12
  · have hE : Hid ((decide (n ≤ 12) && alikeB ss) = alikeB ss) := by show (decide (n ≤ 12) && alikeB ss) = _; simp [h12]
    rw [show (decide (n ≤ 12) && alikeB ss) = alikeB ss from hE.out]
    have hln := hide hr.1
    go_enter Try.func48, Try.ntmps48
    go_wp2_with fail
    go_loopw [3, 4] (fun i _ wr => ∃ k : Nat, k ≤ n ∧ i = .int .i64 k ∧ Below w.heap.size w wr ∧ ∀ j, j < k → goodA ss j = true ∧ dupA ss j = false) (fun i _ _ => n - (intOf i).toNat)
    case atStart => exact ⟨0, by omega, rfl, Below.refl _ _, fun j hj => by omega⟩
    case round =>
      obtain ⟨k, hk, rfl, hB, hall⟩ := hrel
      have HA := hide hall
      clear hall
      by_cases hlt : k < n
      · have hr' := hr.up hB
        obtain ⟨b, off, rfl, hblt, hl, Ak, ck, hx, hd, hrd⟩ := hr'.at_ hlt
        obtain ⟨b', off', e, _, hl0, A0, c0, hx0, hd0, hrd0⟩ := hr'.at_ (k := 0) (by omega)
        injection e with e
        injection e with e1 e2
        subst e1; subst e2
        simp only [Nat.zero_mul, Nat.add_zero] at hx0 hd0
        have hbk := hrd.bd
        have hb0 := hrd0.bd
        have HG := hide (good_eq hl)
        have k0 : (0 : Int) ≤ (k : Int) := by omega
        have k1 : (k : Int) < (n : Int) := by omega
        have k2 : (0 : Int) < (n : Int) := by omega
        have HR := hide hr'
        have qx := fun x : After wr.heap.size wr => x.cell hx hblt
        have qd := fun x : After wr.heap.size wr => x.cell hd hblt
        have q0 := fun x : After wr.heap.size wr => x.cell hd0 hblt
        clear hx0 hrd0 hrd hr' hx hd hd0
        cases h1 : shOk ss[k].1 ss[k].2.length
        · go_wp2_with fail
          refine wp_region_after wr.heap.size (by kernel_rfl) (by kernel_rfl) ?_
          repeat (go_big_quiet_step ((go_at_call 60; exact after_of (Nat.le_refl _) (ShareOk_s _ _ _ _ _ hbk))))
          refine wpQuiet_nil ?_
          rintro w1 ⟨x_w1, e_w1⟩
          have hb1 := x_w1.below
          rw [← e_w1] at hb1
          clear e_w1 x_w1
          have hB1 := then_ hB hb1 hB.size
          clear qx qd q0
          go_wp2_with fail
          go_ret
          have hgood : alikeB ss = false := alike_false hl (.inl (by rw [HG.out, h1]; rfl))
          exact ⟨by rw [hgood]; rfl, hB1⟩
        · cases h2 : (ss[k].2.length == ss[0].2.length)
          · have h3 : ((ss[k].2.length : Int) == (ss[0].2.length : Int)) = false := by simp at h2 ⊢; omega
            have h4 : ((ss[k].2.length : Int) != (ss[0].2.length : Int)) = true := by rw [bne, h3]; rfl
            go_wp2_with fail
            refine wp_region_after wr.heap.size (by kernel_rfl) (by kernel_rfl) ?_
            repeat (go_big_quiet_step ((go_at_call 60; exact after_of (Nat.le_refl _) (ShareOk_s _ _ _ _ _ hbk))))
            refine wpQuiet_nil ?_
            rintro w1 ⟨x_w1, e_w1⟩
            have hb1 := x_w1.below
            rw [← e_w1] at hb1
            clear e_w1 x_w1
            have hB1 := then_ hB hb1 hB.size
            clear qx qd q0
            go_wp2_with fail
            go_ret
            have hgood : alikeB ss = false := alike_false hl (.inl (by rw [HG.out, h1, h2]; rfl))
            exact ⟨by rw [hgood]; rfl, hB1⟩
          · have h3 : ss[k].2.length = ss[0].2.length := by simpa using h2
            have hgk : Hid (goodA ss k = true) := by show goodA ss k = true; rw [HG.out, h1, h2]; rfl
            rw [h3] at hbk h1
            simp only [h3] at qd
            have CK : Hid (∀ W, Calls Try.prog 60 #[.agg #[.int .i64 ss[k].1, .slice Ak ss[0].2.length ck]] W (RetV (.bool true) W)) := by
              intro W
              have := ShareOk_s ss[k].1 Ak ss[0].2.length ck W hbk
              rw [h1] at this
              exact this
            clear h1 h2 h3
            go_wp2_with fail
            refine wp_region_after wr.heap.size (by kernel_rfl) (by kernel_rfl) ?_
            repeat (go_big_quiet_step ((go_at_call 60; exact after_of (Nat.le_refl _) (CK.out _))))
            refine wpQuiet_nil ?_
            rintro w1 ⟨x_w1, e_w1⟩
            have hb1 := x_w1.below
            rw [← e_w1] at hb1
            clear e_w1 x_w1
            have hB1 := then_ hB hb1 hB.size
            clear qx qd q0
            go_wp2_with fail
            have hr1 := HR.out.up hb1
            clear hb1
            go_loopw [4] (fun jv wr2 => ∃ j : Nat, j ≤ k ∧ jv = .int .i64 j ∧ Below w1.heap.size w1 wr2 ∧ ∀ m (hm : m < j), ss[m]?.map (fun s : Sh => s.1) ≠ some ss[k].1) (fun jv _ => k - (intOf jv).toNat)
            case atStart => exact ⟨0, by omega, rfl, Below.refl _ _, fun m hm => by omega⟩
            case round =>
              obtain ⟨j, hj, rfl, hB2, hne⟩ := hrel
              have HNE := hide hne
              clear hne
              have hr2 := hr1.up hB2
              by_cases hjk : j < k
              · obtain ⟨bj, offj, ej, _, hlj, Aj, cj, hxj, _, _⟩ := hr2.at_ (k := j) (by omega)
                injection ej with ej
                injection ej with e1 e2
                subst e1; subst e2
                obtain ⟨bj, offj, ej, hbj, hlk, Ak', ck', hxk, _, _⟩ := hr2.at_ (k := k) (by omega)
                injection ej with ej
                injection ej with e1 e2
                subst e1; subst e2
                have j0 : (0 : Int) ≤ (j : Int) := by omega
                have j1 : (j : Int) < (n : Int) := by omega
                clear hr2
                cases hq : (ss[j].1 == ss[k].1)
                · have HQ : Hid (ss[j].1 ≠ ss[k].1) := by show ss[j].1 ≠ ss[k].1; simpa using hq
                  go_wp2_with fail
                  go_quiet (fail)
                  go_wp2_with fail
                  exact ⟨⟨j + 1, by omega, by go_num, below_drewN hB2 _, fun m hm => by
                    by_cases e : m = j
                    · subst e
                      rw [List.getElem?_eq_getElem hlj]
                      simpa using HQ.out
                    · exact HNE.out m (by omega)⟩, by simp [intOf]; omega⟩
                · have HQ : Hid (ss[j].1 = ss[k].1) := by show ss[j].1 = ss[k].1; simpa using hq
                  go_wp2_with fail
                  go_quiet (fail)
                  go_wp2_with fail
                  go_ret
                  have hgood : alikeB ss = false := alike_false hl (.inr (dup_true hjk hl HQ.out))
                  exact ⟨by rw [hgood]; rfl, hB1.trans ((below_drewN hB2 _).mono hB1.size)⟩
              · have hdk : Hid (dupA ss k = false) := dup_false hl (fun m hm => by
                  have := HNE.out m (by omega)
                  rw [List.getElem?_eq_getElem (by omega)] at this
                  simpa using this)
                clear hr2
                go_wp2_with fail
                exact ⟨⟨k + 1, by omega, by go_num, hB1.trans (hB2.mono hB1.size), fun m hm => by
                  by_cases e : m = k
                  · subst e
                    exact ⟨hgk.out, hdk.out⟩
                  · exact HA.out m (by omega)⟩, by simp [intOf]; omega⟩
      · have hall : alikeB ss = true := alike_true fun m hm => HA.out m (by rw [hln.out] at hm; omega)
        have HALL := hide hall
        clear hall
        go_wp2_with fail
        go_ret
        exact ⟨by rw [HALL.out]; rfl, hB⟩
  · have hE : Hid ((decide (n ≤ 12) && alikeB ss) = false) := by show (decide (n ≤ 12) && alikeB ss) = false; simp [h12]
    go_enter Try.func48, Try.ntmps48
    go_wp2_with fail
    go_ret
    exact ⟨by rw [hE.out]; rfl, Below.refl _ _⟩
end Go.Proofs.Ytgkjgaijjihmgaa
