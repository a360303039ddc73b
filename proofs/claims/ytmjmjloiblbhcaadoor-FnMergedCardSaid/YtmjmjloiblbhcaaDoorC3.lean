/- What the laws' helpers on rules and policies give (sized, turned into the program's own, equal); each contract says for which arguments. -/
import Derived.Test.YtmjmjloiblbhcaaDoorProg
import Derived.Test.YtmjmjloiblbhcaaDoorCR
namespace Go.Proofs.YtmjmjloiblbhcaaDoor
open Go.RowKit
set_option maxRecDepth 100000
set_option maxHeartbeats 400000
theorem szRule_c (g : ByteArray) (x : Int) (left : Nat) (w : World) (hg : g.size ≤ 9223372036854775807) (hl : left ≤ 1048576) :
    Calls Tryd.prog 67 #[.agg #[.string g, .int .i64 x], .int .i64 left] w (RetV (.int .i64 (if g.size ≤ left then ((left - g.size : Nat) : Int) else -1)) w) := by
  by_cases h : g.size ≤ left
  · rw [if_pos h]
    have h1 : ¬ (left : Int) - (g.size : Int) < 0 := by omega
    have HE : Hid ((left : Int) - (g.size : Int) = ((left - g.size : Nat) : Int)) := by show _ = _; omega
    go_enter Tryd.func67, Tryd.ntmps67
    go_wp2_with fail
    go_ret
    exact ⟨ret_int HE.out, (Below.refl _ _).alloc (Nat.le_refl _) _⟩
  · rw [if_neg h]
    have h1 : (left : Int) - (g.size : Int) < 0 := by omega
    go_enter Tryd.func67, Tryd.ntmps67
    go_wp2_with fail
    go_ret
    exact ⟨rfl, (Below.refl _ _).alloc (Nat.le_refl _) _⟩
theorem szRuleS_c (A : Option Addr) (c : Nat) (l : List Rl) (left : Nat) (w : World) (hr : Rd w w.heap.size 2 A l.length (rC l)) (hsz : ∀ x ∈ l, x.1.size ≤ 9223372036854775807) (hl : left ≤ 1048576) :
    Calls Tryd.prog 39 #[.slice A l.length c, .int .i64 left] w (RetV (.int .i64 (if l.length + szR l ≤ left then ((left - (l.length + szR l) : Nat) : Int) else -1)) w) := by
  generalize hV : (if l.length + szR l ≤ left then ((left - (l.length + szR l) : Nat) : Int) else -1) = V
  have HV := hide hV
  have hn := hr.bd
  clear hV
  by_cases h0 : left < l.length
  · have HQ : Hid (V = -1) := by show V = -1; rw [← HV.out, if_neg (by omega)]
    have h1 : (left : Int) - (l.length : Int) < 0 := by omega
    go_enter Tryd.func39, Tryd.ntmps39
    go_wp2_with fail
    go_ret
    exact ⟨by rw [HQ.out]; rfl, Below.refl _ _⟩
  have h1 : ¬ (left : Int) - (l.length : Int) < 0 := by omega
  go_enter Tryd.func39, Tryd.ntmps39
  go_wp2_with fail
  go_loopw [1, 5] (fun q i wr => ∃ j : Nat, j ≤ l.length ∧ i = .int .i64 j ∧ l.length + szR (l.take j) ≤ left ∧ q = .int .i64 ((left - (l.length + szR (l.take j)) : Nat) : Int) ∧ Below w.heap.size w wr) (fun _ i _ => l.length - (intOf i).toNat)
  case atStart => exact ⟨0, by omega, rfl, by simp [szR]; omega, int_eq (by simp [szR]; try omega), Below.refl _ _⟩
  case round =>
    obtain ⟨j, hj, rfl, hle, rfl, hb⟩ := hrel
    by_cases hlt : j < l.length
    · obtain ⟨b, off, rfl, hblt, hl', hc, hc2⟩ := (hr.up hb).rule hlt
      have hx := hsz l[j] (List.getElem_mem hl')
      have hst := szR_take hlt
      have hsl := szR_le (l := l) (j + 1)
      have hR := szRule_c l[j].1 l[j].2 (left - (l.length + szR (l.take j))) wr hx (by omega)
      have HSS := hide hsz
      clear hsz
      by_cases hbig : left < l.length + szR (l.take (j + 1))
      · have HQ : Hid (V = -1) := by show V = -1; rw [← HV.out, if_neg (by omega)]
        rw [if_neg (by omega)] at hR
        generalize szR (l.take j) = T0 at hst hle hR ⊢
        clear hst hsl hr
        go_wp2_with fail
        refine hR.mono ?_
        rintro e w1 ⟨rfl, hb1⟩
        go_wp2_with fail
        go_ret
        exact ⟨by rw [HQ.out]; rfl, then_ hb hb1 hb.size⟩
      · rw [if_pos (by omega)] at hR
        have HL : Hid (l.length + szR (l.take (j + 1)) ≤ left) := by show _ ≤ _; omega
        have HE : Hid (left - (l.length + szR (l.take j)) - l[j].1.size = left - (l.length + szR (l.take (j + 1)))) := by show _ = _; omega
        rw [HE.out] at hR
        generalize hY : left - (l.length + szR (l.take (j + 1))) = Y at hR
        have HY := hide hY
        have h2 : ¬ (Y : Int) < 0 := by omega
        generalize szR (l.take j) = T0 at hst hle HE hR ⊢
        clear hst hsl hbig hY HE
        go_wp2_with fail
        refine hR.mono ?_
        rintro e w1 ⟨rfl, hb1⟩
        go_wp2_with fail
        exact ⟨⟨j + 1, by omega, by go_num, HL.out, int_eq (by rw [HY.out]), then_ hb hb1 hb.size⟩, by simp [intOf]; omega⟩
    · have HQ : Hid (V = ((left - (l.length + szR (l.take j)) : Nat) : Int)) := by
        show V = _
        rw [← HV.out]
        have : l.take j = l := List.take_of_length_le (by omega)
        rw [this] at hle ⊢
        rw [if_pos hle]
      generalize szR (l.take j) = T0 at HQ hle ⊢
      go_wp2_with fail
      go_ret
      exact ⟨by rw [HQ.out]; rfl, hb⟩
/-- the letters and rules of a policy -/
def szP (nm : ByteArray) (l : List Rl) : Nat := nm.size + (l.length + szR l)
theorem szPolicy_c (nm : ByteArray) (A : Option Addr) (c : Nat) (l : List Rl) (left : Nat) (w : World) (hr : Rd w w.heap.size 2 A l.length (rC l)) (hsz : ∀ x ∈ l, x.1.size ≤ 9223372036854775807) (hnm : nm.size ≤ 9223372036854775807) (hl : left ≤ 1048576) :
    Calls Tryd.prog 15 #[.agg #[.string nm, .slice A l.length c], .int .i64 left] w (RetV (.int .i64 (if szP nm l ≤ left then ((left - szP nm l : Nat) : Int) else -1)) w) := by
  have HP : Hid (szP nm l = nm.size + (l.length + szR l)) := rfl
  generalize szP nm l = P at HP ⊢
  generalize hV : (if P ≤ left then ((left - P : Nat) : Int) else -1) = V
  have HV := hide hV
  clear hV
  by_cases h0 : left < nm.size
  · have HQ : Hid (V = -1) := by show V = -1; rw [← HV.out, HP.out, if_neg (by omega)]
    have h1 : (left : Int) - (nm.size : Int) < 0 := by omega
    go_enter Tryd.func15, Tryd.ntmps15
    go_wp2_with fail
    go_ret
    exact ⟨by rw [HQ.out]; rfl, (Below.refl _ _).alloc (Nat.le_refl _) _⟩
  have h1 : ¬ (left : Int) - (nm.size : Int) < 0 := by omega
  have HE : Hid ((left : Int) - (nm.size : Int) = ((left - nm.size : Nat) : Int)) := by show _ = _; omega
  have C := hide fun (W : World) (hb : Below w.heap.size w W) => szRuleS_c A c l (left - nm.size) W (hr.up hb) hsz (by omega)
  generalize hY : left - nm.size = Y at C HE
  have HY := hide hY
  clear hY hsz
  by_cases h2 : l.length + szR l ≤ Y
  · have HQ : Hid (V = ((Y - (l.length + szR l) : Nat) : Int)) := by
      show V = _
      have := HY.out
      rw [← HV.out, HP.out, if_pos (by omega)]
      congr 1
      omega
    have CC := hide fun (W : World) (hb : Below w.heap.size w W) => by have := C.out W hb; rw [if_pos h2] at this; exact this
    generalize hX : Y - (l.length + szR l) = X at CC HQ
    clear C h2 hX
    go_enter Tryd.func15, Tryd.ntmps15
    go_wp2_with fail
    rw [show ((left : Int) - (nm.size : Int)) = (Y : Int) from HE.out]
    refine (CC.out _ ((Below.refl _ _).alloc (Nat.le_refl _) _)).mono ?_
    rintro e w1 ⟨rfl, hb1⟩
    go_wp2_with fail
    go_ret
    exact ⟨by rw [HQ.out]; rfl, then_ ((Below.refl _ _).alloc (Nat.le_refl _) _) hb1 (by simp)⟩
  · have HQ : Hid (V = -1) := by
      show V = _
      have := HY.out
      rw [← HV.out, HP.out, if_neg (by omega)]
    have CC := hide fun (W : World) (hb : Below w.heap.size w W) => by have := C.out W hb; rw [if_neg h2] at this; exact this
    clear C h2
    go_enter Tryd.func15, Tryd.ntmps15
    go_wp2_with fail
    rw [show ((left : Int) - (nm.size : Int)) = (Y : Int) from HE.out]
    refine (CC.out _ ((Below.refl _ _).alloc (Nat.le_refl _) _)).mono ?_
    rintro e w1 ⟨rfl, hb1⟩
    go_wp2_with fail
    go_ret
    exact ⟨by rw [HQ.out]; rfl, then_ ((Below.refl _ _).alloc (Nat.le_refl _) _) hb1 (by simp)⟩
theorem toRule_c (g : ByteArray) (x : Int) (w : World) :
    Calls Tryd.prog 68 #[.agg #[.string g, .int .i64 x]] w (RetV (.agg #[.string g, .int .i64 x]) w) := by
  go_enter Tryd.func68, Tryd.ntmps68
  go_wp2_with fail
  exact bodyPost_ret (v := .agg #[.string g, .int .i64 x]) (by simp [results, Tryd.results68, go_sem]) rfl ⟨rfl, (by repeat (first | with_reducible exact Below.refl _ _ | with_reducible assumption | refine Below.alloc ?_ (by first | omega | (simp; done) | (simp; omega)) _ | refine Below.setCell ?_ (by first | omega | (simp; done) | (simp; omega)) _ | refine Below.drew ?_ | refine below_drewN ?_ _ | exact Below.refl _ _ | assumption))⟩
theorem eqRule_c (g : ByteArray) (x : Int) (w : World) :
    Calls Tryd.prog 72 #[.agg #[.string g, .int .i64 x], .agg #[.string g, .int .i64 x]] w (RetV (.bool true) w) := by
  go_enter Tryd.func72, Tryd.ntmps72
  go_wp2_with fail
  go_ret
  exact ⟨rfl, (by repeat (first | with_reducible exact Below.refl _ _ | with_reducible assumption | refine Below.alloc ?_ (by first | omega | (simp; done) | (simp; omega)) _ | refine Below.setCell ?_ (by first | omega | (simp; done) | (simp; omega)) _ | refine Below.drew ?_ | refine below_drewN ?_ _ | exact Below.refl _ _ | assumption))⟩
theorem eqRuleS_c (A A2 : Option Addr) (c c2 : Nat) (l : List Rl) (w : World) (hr : Rd w w.heap.size 2 A l.length (rC l)) (hr2 : Rd w w.heap.size 2 A2 l.length (rC l)) :
    Calls Tryd.prog 45 #[.slice A l.length c, .slice A2 l.length c2] w (RetV (.bool true) w) := by
  have hn := hr.bd
  go_enter Tryd.func45, Tryd.ntmps45
  go_wp2_with fail
  go_loopw [5] (fun i wr => ∃ k : Nat, k ≤ l.length ∧ i = .int .i64 k ∧ Below w.heap.size w wr) (fun i _ => l.length - (intOf i).toNat)
  case atStart => exact ⟨0, by omega, rfl, Below.refl _ _⟩
  case round =>
    obtain ⟨k, hk, rfl, hb⟩ := hrel
    by_cases hlt : k < l.length
    · obtain ⟨b, off, rfl, hblt, hl, hc, hd⟩ := (hr.up hb).rule hlt
      obtain ⟨b2, off2, rfl, hblt2, hl2, hc2, hd2⟩ := (hr2.up hb).rule hlt
      have q1 : ∀ z : After wr.heap.size wr, z.w.cell? ⟨b, off + k * 2, none⟩ = some (.string l[k].1) := fun z => z.cell hc hblt
      have q2 : ∀ z : After wr.heap.size wr, z.w.cell? ⟨b, off + k * 2 + 1, none⟩ = some (.int .i64 l[k].2) := fun z => z.cell hd hblt
      have q3 : ∀ z : After wr.heap.size wr, z.w.cell? ⟨b2, off2 + k * 2, none⟩ = some (.string l[k].1) := fun z => z.cell hc2 hblt2
      have q4 : ∀ z : After wr.heap.size wr, z.w.cell? ⟨b2, off2 + k * 2 + 1, none⟩ = some (.int .i64 l[k].2) := fun z => z.cell hd2 hblt2
      have hE := hide fun (z : After wr.heap.size wr) => eqRule_c l[k].1 l[k].2 z.w
      clear hr hr2 hc hd hc2 hd2
      go_wp2_with fail
      refine wp_region_after wr.heap.size (by kernel_rfl) (by kernel_rfl) ?_
      repeat (go_big_quiet_step ((go_at_call 72; exact after_of (Nat.le_refl _) (hE.out _))))
      refine wpQuiet_nil ?_
      rintro w5 ⟨x_w5, e_w5⟩
      have hb5 := x_w5.below
      rw [← e_w5] at hb5
      clear e_w5 x_w5
      go_wp2_with fail
      exact ⟨⟨k + 1, by omega, by go_num, then_ hb hb5 hb.size⟩, by simp [intOf]; omega⟩
    · go_wp2
      go_ret
      exact ⟨rfl, hb⟩
end Go.Proofs.YtmjmjloiblbhcaaDoor
