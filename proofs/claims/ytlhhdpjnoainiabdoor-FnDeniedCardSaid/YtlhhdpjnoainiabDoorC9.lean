/- What the laws' helpers on slices of policies give (sized, copied, equal); each contract says for which arguments. -/
import Derived.Test.YtlhhdpjnoainiabDoorC4
import Derived.Test.YtlhhdpjnoainiabDoorCP
namespace Go.Proofs.YtlhhdpjnoainiabDoor
open Go.RowKit
set_option maxRecDepth 100000
set_option maxHeartbeats 400000
/-- the letters and rules of policies -/
def szPl : List Pl → Nat
  | [] => 0
  | x :: t => szP x.1 x.2 + szPl t
theorem szPl_append : ∀ a b : List Pl, szPl (a ++ b) = szPl a + szPl b
  | [], b => by simp [szPl]
  | x :: a, b => by show szP x.1 x.2 + szPl (a ++ b) = szP x.1 x.2 + szPl a + szPl b; rw [szPl_append a b]; omega
theorem szPl_take {l : List Pl} {k : Nat} (hk : k < l.length) : szPl (l.take (k + 1)) = szPl (l.take k) + szP l[k].1 l[k].2 := by
  rw [List.take_succ_eq_append_getElem hk, szPl_append]; rfl
theorem szPl_le {l : List Pl} (k : Nat) : szPl (l.take k) ≤ szPl l := by
  conv => rhs; rw [← List.take_append_drop k l, szPl_append]
  omega
theorem szPl_each {l : List Pl} {x : Pl} (h : x ∈ l) : szP x.1 x.2 ≤ szPl l := by
  induction l with
  | nil => simp at h
  | cons y t ih =>
    show _ ≤ szP y.1 y.2 + szPl t
    rcases List.mem_cons.1 h with rfl | h
    · omega
    · have := ih h; omega
theorem szPolicyS_c (A : Option Addr) (c : Nat) (l : List Pl) (left : Nat) (w : World) (hr : PlR w w.heap.size A l.length l) (hsz : ∀ x ∈ l, x.1.size ≤ 9223372036854775807 ∧ ∀ y ∈ x.2, y.1.size ≤ 9223372036854775807) (hl : left ≤ 1048576) :
    Calls Tryd.prog 32 #[.slice A l.length c, .int .i64 left] w (RetV (.int .i64 (if l.length + szPl l ≤ left then ((left - (l.length + szPl l) : Nat) : Int) else -1)) w) := by
  generalize hV : (if l.length + szPl l ≤ left then ((left - (l.length + szPl l) : Nat) : Int) else -1) = V
  have HV := hide hV
  have hn := hr.bd
  clear hV
  by_cases h0 : left < l.length
  · have HQ : Hid (V = -1) := by show V = -1; rw [← HV.out, if_neg (by omega)]
    have h1 : (left : Int) - (l.length : Int) < 0 := by omega
    go_enter Tryd.func32, Tryd.ntmps32
    go_wp2_with fail
    go_ret
    exact ⟨by rw [HQ.out]; rfl, Below.refl _ _⟩
  have h1 : ¬ (left : Int) - (l.length : Int) < 0 := by omega
  go_enter Tryd.func32, Tryd.ntmps32
  go_wp2_with fail
  go_loopw [1, 5] (fun q i wr => ∃ j : Nat, j ≤ l.length ∧ i = .int .i64 j ∧ l.length + szPl (l.take j) ≤ left ∧ q = .int .i64 ((left - (l.length + szPl (l.take j)) : Nat) : Int) ∧ Below w.heap.size w wr) (fun _ i _ => l.length - (intOf i).toNat)
  case atStart => exact ⟨0, by omega, rfl, by simp [szPl]; omega, int_eq (by simp [szPl]; try omega), Below.refl _ _⟩
  case round =>
    obtain ⟨j, hj, rfl, hle, rfl, hb⟩ := hrel
    by_cases hlt : j < l.length
    · obtain ⟨b, off, rfl, hblt, hl', Ak, ck, hc, hc2, hrk⟩ := (hr.up hb).at_ hlt
      have hx := hsz l[j] (List.getElem_mem hl')
      have hst := szPl_take hlt
      have hsl := szPl_le (l := l) (j + 1)
      have hR := szPolicy_c l[j].1 Ak ck l[j].2 (left - (l.length + szPl (l.take j))) wr hrk hx.2 hx.1 (by omega)
      have HSS := hide hsz
      clear hsz hrk
      by_cases hbig : left < l.length + szPl (l.take (j + 1))
      · have HQ : Hid (V = -1) := by show V = -1; rw [← HV.out, if_neg (by omega)]
        rw [if_neg (by omega)] at hR
        generalize szPl (l.take j) = T0 at hst hle hR ⊢
        clear hst hsl hr
        go_wp2_with fail
        refine hR.mono ?_
        rintro e w1 ⟨rfl, hb1⟩
        go_wp2_with fail
        go_ret
        exact ⟨by rw [HQ.out]; rfl, then_ hb hb1 hb.size⟩
      · rw [if_pos (by omega)] at hR
        have HL : Hid (l.length + szPl (l.take (j + 1)) ≤ left) := by show _ ≤ _; omega
        have HE : Hid (left - (l.length + szPl (l.take j)) - szP l[j].1 l[j].2 = left - (l.length + szPl (l.take (j + 1)))) := by show _ = _; omega
        rw [HE.out] at hR
        generalize hY : left - (l.length + szPl (l.take (j + 1))) = Y at hR
        have HY := hide hY
        have h2 : ¬ (Y : Int) < 0 := by omega
        generalize szPl (l.take j) = T0 at hst hle HE hR ⊢
        clear hst hsl hbig hY HE
        go_wp2_with fail
        refine hR.mono ?_
        rintro e w1 ⟨rfl, hb1⟩
        go_wp2_with fail
        exact ⟨⟨j + 1, by omega, by go_num, HL.out, int_eq (by rw [HY.out]), then_ hb hb1 hb.size⟩, by simp [intOf]; omega⟩
    · have HQ : Hid (V = ((left - (l.length + szPl (l.take j)) : Nat) : Int)) := by
        show V = _
        rw [← HV.out]
        have : l.take j = l := List.take_of_length_le (by omega)
        rw [this] at hle ⊢
        rw [if_pos hle]
      generalize szPl (l.take j) = T0 at HQ hle ⊢
      go_wp2_with fail
      go_ret
      exact ⟨by rw [HQ.out]; rfl, hb⟩
theorem eqPolicyS_c (A A2 : Option Addr) (c c2 : Nat) (l : List Pl) (w : World) (hr : PlR w w.heap.size A l.length l) (hr2 : PlR w w.heap.size A2 l.length l) :
    Calls Tryd.prog 36 #[.slice A l.length c, .slice A2 l.length c2] w (RetV (.bool true) w) := by
  have hn := hr.bd
  go_enter Tryd.func36, Tryd.ntmps36
  go_wp2_with fail
  go_loopw [5] (fun i wr => ∃ k : Nat, k ≤ l.length ∧ i = .int .i64 k ∧ Below w.heap.size w wr) (fun i _ => l.length - (intOf i).toNat)
  case atStart => exact ⟨0, by omega, rfl, Below.refl _ _⟩
  case round =>
    obtain ⟨k, hk, rfl, hb⟩ := hrel
    by_cases hlt : k < l.length
    · obtain ⟨b, off, rfl, hblt, hl, Ak, ck, hc, hd, hrk⟩ := (hr.up hb).at_ hlt
      obtain ⟨b2, off2, rfl, hblt2, hl2, Ak2, ck2, hc2, hd2, hrk2⟩ := (hr2.up hb).at_ hlt
      have q1 : ∀ z : After wr.heap.size wr, z.w.cell? ⟨b, off + k * 2, none⟩ = some (.string l[k].1) := fun z => z.cell hc hblt
      have q2 : ∀ z : After wr.heap.size wr, z.w.cell? ⟨b, off + k * 2 + 1, none⟩ = some (.slice Ak l[k].2.length ck) := fun z => z.cell hd hblt
      have q3 : ∀ z : After wr.heap.size wr, z.w.cell? ⟨b2, off2 + k * 2, none⟩ = some (.string l[k].1) := fun z => z.cell hc2 hblt2
      have q4 : ∀ z : After wr.heap.size wr, z.w.cell? ⟨b2, off2 + k * 2 + 1, none⟩ = some (.slice Ak2 l[k].2.length ck2) := fun z => z.cell hd2 hblt2
      have hE := hide fun (z : After wr.heap.size wr) => eqPolicy_c l[k].1 Ak Ak2 ck ck2 l[k].2 z.w (z.rd hrk (Nat.le_refl _) (Nat.le_refl _)) (z.rd hrk2 (Nat.le_refl _) (Nat.le_refl _))
      clear hr hr2 hc hd hc2 hd2 hrk hrk2
      go_wp2_with fail
      refine wp_region_after wr.heap.size (by kernel_rfl) (by kernel_rfl) ?_
      repeat (go_big_quiet_step ((go_at_call 28; exact after_of (Nat.le_refl _) (hE.out _))))
      refine wpQuiet_nil ?_
      rintro w5 ⟨x_w5, e_w5⟩
      have hb5 := x_w5.below
      rw [← e_w5] at hb5
      clear e_w5 x_w5
      go_wp2_with fail
      exact ⟨⟨k + 1, by omega, by go_num, then_ hb hb5 hb.size⟩, by simp [intOf]; omega⟩
    · go_wp2
      go_ret
      exact ⟨rfl, hb⟩
theorem info_p : (Tryd.prog.info? 38).map (fun i => (i.zero, i.size, i.bytes)) = some (some (.agg #[.string ⟨#[]⟩, .slice none 0 0]), 2, 40) := by kernel_rfl
/-- a slice of policies in new memory -/
def RetPls (l : List Pl) (w : World) (en : Ending) (w' : World) : Prop :=
  ∃ A c, en = .returned (.slice A l.length c) ∧ l.length ≤ c ∧ PlR w' w'.heap.size A l.length l ∧ Below w.heap.size w w'
theorem toPolicyS_c (A : Option Addr) (c : Nat) (l : List Pl) (w : World) (hr : PlR w w.heap.size A l.length l) (hn : l.length ≤ 1048576) (hln : ∀ x ∈ l, x.2.length ≤ 1048576) :
    Calls Tryd.prog 34 #[.slice A l.length c] w (RetPls l w) := by
  obtain ⟨i0, hi, hz, hsize, hby⟩ := info_parts info_p
  have hmk : ∀ W : World, (Instr.makeSlice 51 (.int .i64 (l.length : Int)) (.int .i64 (l.length : Int))).run Tryd.prog W = .ok (.slice (some ⟨W.heap.size, 0, none⟩) l.length l.length) (W.alloc (.cells (madeCells #[.string ⟨#[]⟩, .slice none 0 0] (l.length * 2)) 38)) := by
    intro W
    have := run_make_rowN (P := Tryd.prog) 51 38 i0 _ Tryd.underlying51 hi hz .i64 .i64 l.length l.length (Nat.le_refl _) (by rw [hby]; omega) (by omega) W
    rw [hsize] at this
    exact this
  have hmd := World.ownsRow_lit (e := 38) (size := 2) (base := w.heap.size) w (madeCells #[.string ⟨#[]⟩, .slice none 0 0] (l.length * 2)) l.length (Nat.le_refl _) (by simp only [maxLen]; omega) (by rw [size_madeCells])
  have HMD := hide hmd
  clear hi hz hsize hby hmd
  go_enter Tryd.func34, Tryd.ntmps34
  go_wp2_with fail
  go_loopw [4] (fun i wr => ∃ (k : Nat) (cs : List Value), k ≤ l.length ∧ i = .int .i64 k ∧ wr.ownsRow w.heap.size 38 2 (.slice (some ⟨w.heap.size, 0, none⟩) l.length l.length) l.length cs ∧ Below w.heap.size w wr ∧ w.heap.size < wr.heap.size ∧
    ∀ j (hj : j < l.length), j < k → ∃ Aj cj, cs[j * 2]? = some (.string l[j].1) ∧ cs[j * 2 + 1]? = some (.slice Aj l[j].2.length cj) ∧ wr.ownsRow (w.heap.size + 1) 43 2 (.slice Aj l[j].2.length cj) l[j].2.length (rC l[j].2)) (fun i _ => l.length - (intOf i).toNat)
  case atStart => exact ⟨0, _, by omega, rfl, HMD.out, (by repeat (first | with_reducible exact Below.refl _ _ | with_reducible assumption | refine Below.alloc ?_ (by first | omega | (simp; done) | (simp; omega)) _ | refine Below.setCell ?_ (by first | omega | (simp; done) | (simp; omega)) _ | refine Below.drew ?_ | refine below_drewN ?_ _ | exact Below.refl _ _ | assumption)), by simp, fun j _ hj => by omega⟩
  case round =>
    obtain ⟨k, cs, hk, rfl, hO, hB, hlt0, hin⟩ := hrel
    by_cases hlt : k < l.length
    · obtain ⟨b, off, rfl, hblt, hl, Ak, ck, hc, hd, hrk⟩ := (hr.up hB).at_ hlt
      have hT := toPolicy_c l[k].1 Ak ck l[k].2 wr hrk (hln _ (List.getElem_mem hl))
      have HO := hide hO
      have HIN := hide hin
      have HLN := hide hln
      clear hO hin hrk hln
      go_wp2_with fail
      refine hT.mono ?_
      rintro e w1 ⟨A1, c1, rfl, hc1, ho1, hb1⟩
      have hsz := hB.size
      have h1 := own_below HO.out hb1
      have hf := h1.frozenAt
      have hlen := h1.1
      obtain ⟨v0, hv0⟩ : ∃ v, w1.cell? ⟨w.heap.size, k * 2, none⟩ = some v := ⟨_, (h1.cellAt (k * 2) (by omega)).trans (List.getElem?_eq_getElem (by omega))⟩
      obtain ⟨v1, hv1⟩ : ∃ v, w1.cell? ⟨w.heap.size, k * 2 + 1, none⟩ = some v := ⟨_, (h1.cellAt (k * 2 + 1) (by omega)).trans (List.getElem?_eq_getElem (by omega))⟩
      have HP := hide ((h1.stored (k * 2) (.string l[k].1)).1.stored (k * 2 + 1) (.slice A1 l[k].2.length c1)).1
      have HO1 := hide (own_mono (base' := w.heap.size + 1) ho1 (by omega))
      have HB1 := hide (then_ hB hb1 hB.size)
      have HBB := hide hb1
      have hsz1 := hb1.size
      have HLEN := hide hlen
      clear hlen hb1 ho1 h1 hc hd hT
      go_wp2_with fail
      refine ⟨⟨k + 1, _, by omega, by go_num, HP.out, (HB1.out.setCell (Nat.le_refl _) _).setCell (Nat.le_refl _) _, by simp; omega, fun j hj hjk => ?_⟩, by simp [intOf]; omega⟩
      have hlen := HLEN.out
      by_cases e : j = k
      · subst e
        refine ⟨A1, c1, ?_, ?_, ?_⟩
        · rw [List.getElem?_set_ne (by omega), List.getElem?_set_self (by omega)]
        · rw [List.getElem?_set_self (by simp; omega)]
        · exact ownsRow_setCell_below (ownsRow_setCell_below HO1.out (by simp) _) (by simp) _
      · obtain ⟨Aj, cj, e0, e1, e2⟩ := HIN.out j hj (by omega)
        refine ⟨Aj, cj, ?_, ?_, ?_⟩
        · rw [List.getElem?_set_ne (by omega), List.getElem?_set_ne (by omega)]; exact e0
        · rw [List.getElem?_set_ne (by omega), List.getElem?_set_ne (by omega)]; exact e1
        · exact ownsRow_setCell_below (ownsRow_setCell_below (own_below e2 HBB.out) (by simp) _) (by simp) _
    · have HPL : Hid (PlR wr wr.heap.size (some ⟨w.heap.size, 0, none⟩) l.length l) := by
        refine ⟨rfl, by omega, fun hpos => ⟨w.heap.size, 0, rfl, hlt0, fun j hj => ?_⟩⟩
        obtain ⟨Aj, cj, e0, e1, e2⟩ := hin j hj (by omega)
        refine ⟨Aj, cj, ?_, ?_, own_rd e2⟩
        · rw [Nat.zero_add, hO.cellAt (j * 2) (by omega)]; exact e0
        · rw [Nat.zero_add, hO.cellAt (j * 2 + 1) (by omega)]; exact e1
      clear hO hin
      go_wp2_with fail
      go_ret
      exact ⟨_, _, rfl, Nat.le_refl _, HPL.out, hB⟩
end Go.Proofs.YtlhhdpjnoainiabDoor
