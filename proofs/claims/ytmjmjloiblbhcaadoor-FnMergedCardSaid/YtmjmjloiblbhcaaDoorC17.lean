/- What comparing two rules, searching in rules, and copying them give; each contract says for which arguments. -/
import Derived.Test.YtmjmjloiblbhcaaDoorC4
import Derived.Test.YtmjmjloiblbhcaaDoorQM
import Derived.Test.YtmjmjloiblbhcaaDoorShelf
namespace Go.Proofs.YtmjmjloiblbhcaaDoor
open Go.RowKit
set_option maxRecDepth 100000
set_option maxHeartbeats 1000000
/-- how two texts compare -/
def cmpS (a b : ByteArray) : Int := Lib.compareBytes a.data.toList b.data.toList
theorem cmpL_spec : ∀ (a b : List UInt8), (Lib.compareBytes a b < 0 ↔ Op.bytesLess a b = true) ∧ (Lib.compareBytes a b = 0 ↔ a = b)
  | [], [] => by simp [Lib.compareBytes, Op.bytesLess]
  | [], _ :: _ => by simp [Lib.compareBytes, Op.bytesLess]
  | _ :: _, [] => by simp [Lib.compareBytes, Op.bytesLess]
  | a :: x, b :: y => by
    obtain ⟨h1, h2⟩ := cmpL_spec x y
    unfold Lib.compareBytes
    by_cases hab : a < b
    · have hne : a ≠ b := fun e => by subst e; exact absurd hab (by simp)
      simp [hab, Op.bytesLess, hne]
    · by_cases hba : b < a
      · have hne : a ≠ b := fun e => by subst e; exact absurd hba (by simp)
        simp [hab, hba, Op.bytesLess, hne]
      · have he : a = b := by
          have i1 : ¬ a.toNat < b.toNat := hab
          have i2 : ¬ b.toNat < a.toNat := hba
          exact UInt8.toNat_inj.1 (by omega)
        subst he
        simp [Op.bytesLess, h1, h2]
theorem cmpS_neg (a b : ByteArray) : cmpS a b < 0 ↔ ltB a b = true := by
  unfold ltB
  rw [toL_, toL_]
  exact (cmpL_spec _ _).1
theorem cmpS_zero (a b : ByteArray) : cmpS a b = 0 ↔ a = b := by
  unfold cmpS
  rw [(cmpL_spec _ _).2]
  exact ⟨ext_data, fun h => by rw [h]⟩
theorem compareStr_c (a b : ByteArray) (w : World) : Calls Tryd.prog 69 #[.string a, .string b] w (Pure (.int .i64 (cmpS a b)) w) := by
  refine (Tryd.strings_Compare a b w).mono ?_
  rintro e w' ⟨rfl, rfl⟩
  exact ⟨rfl, rfl⟩
theorem compareRules_c (g g2 : ByteArray) (x x2 : Int) (w : World) :
    Calls Tryd.prog 43 #[.agg #[.string g, .int .i64 x], .agg #[.string g2, .int .i64 x2]] w (RetV (.int .i64 (cmpS g g2)) w) := by
  go_enter Tryd.func43, Tryd.ntmps43
  go_wp2_with fail
  refine (compareStr_c g g2 _).mono ?_
  rintro e w' ⟨rfl, rfl⟩
  go_wp2_with fail
  go_ret
  exact ⟨rfl, (by repeat (first | with_reducible exact Below.refl _ _ | with_reducible assumption | refine Below.alloc ?_ (by first | omega | (simp; done) | (simp; omega)) _ | refine Below.setCell ?_ (by first | omega | (simp; done) | (simp; omega)) _ | refine Below.drew ?_ | refine below_drewN ?_ _ | exact Below.refl _ _ | assumption))⟩
/-- is the rule at place i the one that is looked for -/
def fndR (l : List Rl) (i : Nat) (g : ByteArray) : Bool := match l[i]? with
  | none => false
  | some r => decide (cmpS r.1 g = 0)
theorem fndR_out {l : List Rl} {i : Nat} {g : ByteArray} (h : l.length ≤ i) : fndR l i g = false := by unfold fndR; rw [List.getElem?_eq_none h]
theorem fndR_in {l : List Rl} {i : Nat} {g : ByteArray} (h : i < l.length) : fndR l i g = decide (cmpS l[i].1 g = 0) := by unfold fndR; rw [List.getElem?_eq_getElem h]
/-- where a rule belongs, and whether it is there -/
def RetAt (l : List Rl) (g : ByteArray) (w : World) (e : Ending) (w' : World) : Prop :=
  ∃ i, i ≤ l.length ∧ (∀ j (hj : j < l.length), j < i → ltB l[j].1 g = true) ∧ (∀ hi : i < l.length, ltB l[i].1 g = false) ∧ e = .returned (.tuple #[.int .i64 (i : Int), .bool (fndR l i g)]) ∧ Below w.heap.size w w'
theorem srt_lt {l : List Rl} (hs : srt l) {i j : Nat} (hij : i < j) (hj : j < l.length) : ltB (l[i]'(by omega)).1 l[j].1 = true := List.pairwise_iff_getElem.1 hs i j (by omega) hj hij
theorem search_c (A : Option Addr) (c : Nat) (l : List Rl) (g : ByteArray) (x : Int) (w : World) (hr : Rd w w.heap.size 2 A l.length (rC l)) (hs : srt l) (hl : l.length ≤ 100000) :
    Calls Tryd.prog 42 #[.slice A l.length c, .agg #[.string g, .int .i64 x], .func (.func 43) #[] #[]] w (RetAt l g w) := by
  have HS := hide hs
  clear hs
  go_enter Tryd.func42, Tryd.ntmps42
  go_wp2_with fail
  go_loopw [9, 10, 11] (fun iv jv _ wr => ∃ lo hi : Nat, iv = .int .i64 lo ∧ jv = .int .i64 hi ∧ lo ≤ hi ∧ hi ≤ l.length ∧ Below w.heap.size w wr ∧ Blk wr w.heap.size 53 #[.string g, .int .i64 x] ∧ Hid (∀ t (ht : t < l.length), t < lo → ltB l[t].1 g = true) ∧ Hid (∀ t (ht : t < l.length), hi ≤ t → ltB l[t].1 g = false)) (fun iv jv _ _ => (intOf jv).toNat - (intOf iv).toNat)
  case atStart => exact ⟨0, l.length, rfl, rfl, by omega, Nat.le_refl _, (by repeat (first | with_reducible exact Below.refl _ _ | with_reducible assumption | refine Below.alloc ?_ (by first | omega | (simp; done) | (simp; omega)) _ | refine Below.setCell ?_ (by first | omega | (simp; done) | (simp; omega)) _ | refine Below.drew ?_ | refine below_drewN ?_ _ | exact Below.refl _ _ | assumption)), Blk.new _ _ _, fun t _ ht => by omega, fun t h1 h2 => by omega⟩
  case round =>
    obtain ⟨lo, hi, rfl, rfl, hlh, hin, hB, hT, I1, I2⟩ := hrel
    have hTl := hT.lt
    have HB := hide hB
    by_cases hlt : lo < hi
    · obtain ⟨m, hm⟩ : ∃ m, m = (lo + hi) / 2 := ⟨_, rfl⟩
      have hmi : ((lo : Int) + (hi : Int)) / 2 = (m : Int) := by omega
      have hlm : lo ≤ m := by omega
      have hmh : m < hi := by omega
      clear hm
      obtain ⟨b, off, rfl, hblt, hl', hc0, hc1⟩ := (hr.below hB (Nat.le_refl _)).rule (k := m) (by omega)
      have q0 : ∀ z : After wr.heap.size wr, z.w.cell? ⟨b, off + m * 2, none⟩ = some (.string l[m].1) := fun z => z.cell hc0 (by omega)
      have q1 : ∀ z : After wr.heap.size wr, z.w.cell? ⟨b, off + m * 2 + 1, none⟩ = some (.int .i64 l[m].2) := fun z => z.cell hc1 (by omega)
      have q2 : ∀ z : After wr.heap.size wr, z.w.cell? ⟨w.heap.size, 0, none⟩ = some (.string g) := fun z => z.cell (hT.cell 0) hTl
      have q3 : ∀ z : After wr.heap.size wr, z.w.cell? ⟨w.heap.size, 1, none⟩ = some (.int .i64 x) := fun z => z.cell (hT.cell 1) hTl
      have HC := hide fun (z : After wr.heap.size wr) => compareRules_c l[m].1 g l[m].2 x z.w
      have HNEG := hide (cmpS_neg l[m].1 g)
      have HSL : Hid (∀ t (ht : t < l.length), t < m → ltB l[t].1 l[m].1 = true) := fun t ht htm => srt_lt HS.out htm hl'
      have HSG : Hid (∀ t (ht : t < l.length), m < t → ltB l[m].1 l[t].1 = true) := fun t ht htm => srt_lt HS.out htm ht
      have HT := hide hT
      generalize cmpS l[m].1 g = X at HC HNEG
      clear hc0 hc1 hB hT
      by_cases hneg : X < 0
      · have HL : Hid (∀ t (ht : t < l.length), t < m + 1 → ltB l[t].1 g = true) := fun t ht htm => by
          have h1 := HNEG.out.1 hneg
          by_cases e : t = m
          · subst e; exact h1
          · exact ltB_trans (HSL.out t ht (by omega)) h1
        go_wp2_with fail
        refine wp_region_after wr.heap.size (by kernel_rfl) (by kernel_rfl) ?_
        repeat (go_big_quiet_step ((go_at_call 43; exact after_of (Nat.le_refl _) (HC.out _))))
        refine wpQuiet_nil ?_
        rintro w5 ⟨x_w5, e_w5⟩
        have hb5 := x_w5.below
        rw [← e_w5] at hb5
        clear e_w5 x_w5
        go_wp2_with fail
        exact ⟨⟨m + 1, hi, by go_num, rfl, by omega, hin, then_ HB.out hb5 HB.out.size, HT.out.below hb5 hTl, HL.out, I2.out⟩, by simp [intOf]; omega⟩
      · have HL : Hid (∀ t (ht : t < l.length), m ≤ t → ltB l[t].1 g = false) := fun t ht htm => by
          have h1 : ltB l[m].1 g = false := by
            cases e : ltB l[m].1 g with
            | false => rfl
            | true => exact absurd (HNEG.out.2 e) hneg
          by_cases e : t = m
          · subst e; exact h1
          · cases e2 : ltB l[t].1 g with
            | false => rfl
            | true => have := ltB_trans (HSG.out t ht (by omega)) e2; rw [h1] at this; cases this
        go_wp2_with fail
        refine wp_region_after wr.heap.size (by kernel_rfl) (by kernel_rfl) ?_
        repeat (go_big_quiet_step ((go_at_call 43; exact after_of (Nat.le_refl _) (HC.out _))))
        refine wpQuiet_nil ?_
        rintro w5 ⟨x_w5, e_w5⟩
        have hb5 := x_w5.below
        rw [← e_w5] at hb5
        clear e_w5 x_w5
        go_wp2_with fail
        exact ⟨⟨lo, m, rfl, rfl, by omega, by omega, then_ HB.out hb5 HB.out.size, HT.out.below hb5 hTl, I1.out, HL.out⟩, by simp [intOf]; omega⟩
    · obtain rfl : hi = lo := by omega
      have HPOS : Hid (∀ j (hj : j < l.length), j < hi → ltB l[j].1 g = true) := I1.out
      have HNEX : Hid (∀ hj : hi < l.length, ltB l[hi].1 g = false) := fun hj => I2.out hi hj (Nat.le_refl _)
      by_cases hn : hi < l.length
      · obtain ⟨b, off, rfl, hblt, hl', hc0, hc1⟩ := (hr.below hB (Nat.le_refl _)).rule (k := hi) hn
        have q0 : ∀ z : After wr.heap.size wr, z.w.cell? ⟨b, off + hi * 2, none⟩ = some (.string l[hi].1) := fun z => z.cell hc0 (by omega)
        have q1 : ∀ z : After wr.heap.size wr, z.w.cell? ⟨b, off + hi * 2 + 1, none⟩ = some (.int .i64 l[hi].2) := fun z => z.cell hc1 (by omega)
        have q2 : ∀ z : After wr.heap.size wr, z.w.cell? ⟨w.heap.size, 0, none⟩ = some (.string g) := fun z => z.cell (hT.cell 0) hTl
        have q3 : ∀ z : After wr.heap.size wr, z.w.cell? ⟨w.heap.size, 1, none⟩ = some (.int .i64 x) := fun z => z.cell (hT.cell 1) hTl
        have HC := hide fun (z : After wr.heap.size wr) => compareRules_c l[hi].1 g l[hi].2 x z.w
        have HF : Hid (fndR l hi g = decide (cmpS l[hi].1 g = 0)) := fndR_in hn
        generalize cmpS l[hi].1 g = X at HC HF
        have hgd : decide ((hi : Int) < (l.length : Int)) = true := by simp; omega
        clear hc0 hc1 hB hT
        by_cases h0 : X = 0
        · have hx0 : (X == 0) = true := by rw [h0]; rfl
          have HQ : Hid (fndR l hi g = true) := by show _ = _; rw [HF.out]; exact decide_eq_true h0
          clear h0
          go_wp2_with fail
          refine wp_region_after wr.heap.size (by kernel_rfl) (by kernel_rfl) ?_
          repeat (go_big_quiet_step ((go_at_call 43; exact after_of (Nat.le_refl _) (HC.out _))))
          refine wpQuiet_nil ?_
          rintro w5 ⟨x_w5, e_w5⟩
          have hb5 := x_w5.below
          rw [← e_w5] at hb5
          clear e_w5 x_w5
          go_wp2_with fail
          go_ret2
          exact ⟨hi, by omega, HPOS.out, HNEX.out, by rw [HQ.out]; rfl, then_ HB.out hb5 HB.out.size⟩
        · have hx0 : (X == 0) = false := beq_eq_false_iff_ne.2 h0
          have HQ : Hid (fndR l hi g = false) := by show _ = _; rw [HF.out]; exact decide_eq_false h0
          clear h0
          go_wp2_with fail
          refine wp_region_after wr.heap.size (by kernel_rfl) (by kernel_rfl) ?_
          repeat (go_big_quiet_step ((go_at_call 43; exact after_of (Nat.le_refl _) (HC.out _))))
          refine wpQuiet_nil ?_
          rintro w5 ⟨x_w5, e_w5⟩
          have hb5 := x_w5.below
          rw [← e_w5] at hb5
          clear e_w5 x_w5
          go_wp2_with fail
          go_ret2
          exact ⟨hi, by omega, HPOS.out, HNEX.out, by rw [HQ.out]; rfl, then_ HB.out hb5 HB.out.size⟩
      · have HQ : Hid (fndR l hi g = false) := fndR_out (by omega)
        have hgd : decide ((hi : Int) < (l.length : Int)) = false := by simp; omega
        clear hB hT
        go_wp2_with fail
        refine wp_region_after wr.heap.size (by kernel_rfl) (by kernel_rfl) ?_
        repeat (go_big_quiet_step (fail))
        refine wpQuiet_nil ?_
        rintro w5 ⟨x_w5, e_w5⟩
        have hb5 := x_w5.below
        rw [← e_w5] at hb5
        clear e_w5 x_w5
        go_wp2_with fail
        go_ret2
        exact ⟨hi, by omega, HPOS.out, HNEX.out, by rw [HQ.out]; rfl, then_ HB.out hb5 HB.out.size⟩
end Go.Proofs.YtmjmjloiblbhcaaDoor
