/- What the laws' copies of rules and policies, and their test of equal policies, give; each contract says for which arguments. -/
import Derived.Test.YtmjmjloiblbhcaaDoorC3
namespace Go.Proofs.YtmjmjloiblbhcaaDoor
open Go.RowKit
set_option maxRecDepth 100000
set_option maxHeartbeats 400000
theorem info_r : (Tryd.prog.info? 53).map (fun i => (i.zero, i.size, i.bytes)) = some (some (.agg #[.string ⟨#[]⟩, .int .i64 0]), 2, 24) := by kernel_rfl
theorem toRuleS_c (A : Option Addr) (c : Nat) (l : List Rl) (w : World) (hr : Rd w w.heap.size 2 A l.length (rC l)) (hn : l.length ≤ 1048576) :
    Calls Tryd.prog 40 #[.slice A l.length c] w (RetRow 53 2 l.length (rC l) w) := by
  obtain ⟨i0, hi, hz, hsize, hby⟩ := info_parts info_r
  have hmk : ∀ W : World, (Instr.makeSlice 24 (.int .i64 (l.length : Int)) (.int .i64 (l.length : Int))).run Tryd.prog W = .ok (.slice (some ⟨W.heap.size, 0, none⟩) l.length l.length) (W.alloc (.cells (madeCells #[.string ⟨#[]⟩, .int .i64 0] (l.length * 2)) 53)) := by
    intro W
    have := run_make_rowN (P := Tryd.prog) 24 53 i0 _ Tryd.underlying24 hi hz .i64 .i64 l.length l.length (Nat.le_refl _) (by rw [hby]; omega) (by omega) W
    rw [hsize] at this
    exact this
  have HMD := hide (made_rules w 53 l.length (by omega))
  clear hi hz hsize hby
  go_enter Tryd.func40, Tryd.ntmps40
  go_wp2_with fail
  go_loopw [4] (fun i wr => ∃ k : Nat, k ≤ l.length ∧ i = .int .i64 k ∧ wr.ownsRow w.heap.size 53 2 (.slice (some ⟨w.heap.size, 0, none⟩) l.length l.length) l.length (rC (fill l k (⟨#[]⟩, 0))) ∧ Below w.heap.size w wr) (fun i _ => l.length - (intOf i).toNat)
  case atStart => exact ⟨0, by omega, rfl, by rw [fill_zero]; exact HMD.out, (by repeat (first | with_reducible exact Below.refl _ _ | with_reducible assumption | refine Below.alloc ?_ (by first | omega | (simp; done) | (simp; omega)) _ | refine Below.setCell ?_ (by first | omega | (simp; done) | (simp; omega)) _ | refine Below.drew ?_ | refine below_drewN ?_ _ | exact Below.refl _ _ | assumption))⟩
  case round =>
    obtain ⟨k, hk, rfl, hO, hB⟩ := hrel
    by_cases hlt : k < l.length
    · obtain ⟨b, off, rfl, hblt, hl, hc, hd⟩ := (hr.up hB).rule hlt
      have HF := hide (fill_set l k (⟨#[]⟩, 0) hl)
      have hT := toRule_c l[k].1 l[k].2 wr
      have HO := hide hO
      clear hO
      go_wp2_with fail
      refine hT.mono ?_
      rintro e w1 ⟨rfl, hb1⟩
      have hsz := hB.size
      have h1 := own_below HO.out hb1
      have hf := h1.frozenAt
      have hlen := h1.1
      obtain ⟨v0, hv0⟩ : ∃ v, w1.cell? ⟨w.heap.size, k * 2, none⟩ = some v := ⟨_, (h1.cellAt (k * 2) (by omega)).trans (List.getElem?_eq_getElem (by omega))⟩
      obtain ⟨v1, hv1⟩ : ∃ v, w1.cell? ⟨w.heap.size, k * 2 + 1, none⟩ = some v := ⟨_, (h1.cellAt (k * 2 + 1) (by omega)).trans (List.getElem?_eq_getElem (by omega))⟩
      have hP := own_rule (k := k) h1 l[k]
      rw [HF.out] at hP
      have HP := hide hP
      have HB1 := hide (then_ hB hb1 hB.size)
      clear hlen hP hb1 h1 hc hd hT
      go_wp2_with fail
      exact ⟨⟨k + 1, by omega, by go_num, HP.out, (HB1.out.setCell (Nat.le_refl _) _).setCell (Nat.le_refl _) _⟩, by simp [intOf]; omega⟩
    · have HE : Hid (fill l k (⟨#[]⟩, 0) = l) := by
        have := fill_all l (⟨#[]⟩, 0)
        rw [show k = l.length from by omega]
        exact this
      rw [HE.out] at hO
      go_wp2_with fail
      go_ret
      exact ⟨_, _, rfl, Nat.le_refl _, hO, hB⟩
/-- a policy in new memory -/
def RetPol (nm : ByteArray) (l : List Rl) (w : World) (en : Ending) (w' : World) : Prop :=
  ∃ A c, en = .returned (.agg #[.string nm, .slice A l.length c]) ∧ l.length ≤ c ∧ w'.ownsRow w.heap.size 53 2 (.slice A l.length c) l.length (rC l) ∧ Below w.heap.size w w'
theorem toPolicy_c (nm : ByteArray) (A : Option Addr) (c : Nat) (l : List Rl) (w : World) (hr : Rd w w.heap.size 2 A l.length (rC l)) (hn : l.length ≤ 1048576) :
    Calls Tryd.prog 17 #[.agg #[.string nm, .slice A l.length c]] w (RetPol nm l w) := by
  have C := hide fun (W : World) (hb : Below w.heap.size w W) => toRuleS_c A c l W (hr.up hb) hn
  go_enter Tryd.func17, Tryd.ntmps17
  go_wp2_with fail
  refine (C.out _ (by repeat (first | with_reducible exact Below.refl _ _ | with_reducible assumption | refine Below.alloc ?_ (by first | omega | (simp; done) | (simp; omega)) _ | refine Below.setCell ?_ (by first | omega | (simp; done) | (simp; omega)) _ | refine Below.drew ?_ | refine below_drewN ?_ _ | exact Below.refl _ _ | assumption))).mono ?_
  rintro e w1 ⟨A1, c1, rfl, hc1, ho1, hb1⟩
  have hz : w.heap.size + 1 + 1 + 1 ≤ w1.heap.size := by have := hb1.size; simp at this; omega
  have hb01 : Below w.heap.size w w1 := then_ (by repeat (first | with_reducible exact Below.refl _ _ | with_reducible assumption | refine Below.alloc ?_ (by first | omega | (simp; done) | (simp; omega)) _ | refine Below.setCell ?_ (by first | omega | (simp; done) | (simp; omega)) _ | refine Below.drew ?_ | refine below_drewN ?_ _ | exact Below.refl _ _ | assumption)) hb1 (by first | omega | (simp; done) | (simp; omega))
  have HB1 := hide hb01
  have HO1 := hide (own_mono (base' := w.heap.size + 1 + 1 + 1) ho1 (by first | omega | (simp; done) | (simp; omega)))
  obtain ⟨hcl, hfr⟩ := bcell hb1
  clear hb1 ho1 hb01
  go_wp2_with fail
  refine bodyPost_ret (v := .agg #[.string nm, .slice A1 l.length c1]) (by simp [results, Tryd.results17, go_sem, hcl]) rfl ?_
  have hb01 := HB1.out
  have ho1 := HO1.out
  refine ⟨_, _, rfl, hc1, ?_, (by repeat (first | with_reducible exact Below.refl _ _ | with_reducible assumption | refine Below.alloc ?_ (by first | omega | (simp; done) | (simp; omega)) _ | refine Below.setCell ?_ (by first | omega | (simp; done) | (simp; omega)) _ | refine Below.drew ?_ | refine below_drewN ?_ _ | exact Below.refl _ _ | assumption))⟩
  exact own_mono (base := w.heap.size + 1 + 1 + 1) (by repeat (first | with_reducible assumption | with_reducible refine ownsRow_setCell_below ?_ (by first | omega | (simp; done) | (simp; omega)) _ | with_reducible refine World.ownsRow.alloc ?_ _ | exact own_mono (by assumption) (by first | omega | (simp; done) | (simp; omega)) | assumption | refine ownsRow_setCell_below ?_ (by first | omega | (simp; done) | (simp; omega)) _ | refine World.ownsRow.alloc ?_ _)) (by omega)
theorem eqPolicy_c (nm : ByteArray) (A A2 : Option Addr) (c c2 : Nat) (l : List Rl) (w : World) (hr : Rd w w.heap.size 2 A l.length (rC l)) (hr2 : Rd w w.heap.size 2 A2 l.length (rC l)) :
    Calls Tryd.prog 19 #[.agg #[.string nm, .slice A l.length c], .agg #[.string nm, .slice A2 l.length c2]] w (RetV (.bool true) w) := by
  have C := hide fun (W : World) (hb : Below w.heap.size w W) => eqRuleS_c A A2 c c2 l W (hr.up hb) (hr2.up hb)
  go_enter Tryd.func19, Tryd.ntmps19
  go_wp2_with fail
  refine (C.out _ (by repeat (first | with_reducible exact Below.refl _ _ | with_reducible assumption | refine Below.alloc ?_ (by first | omega | (simp; done) | (simp; omega)) _ | refine Below.setCell ?_ (by first | omega | (simp; done) | (simp; omega)) _ | refine Below.drew ?_ | refine below_drewN ?_ _ | exact Below.refl _ _ | assumption))).mono ?_
  rintro e w1 ⟨rfl, hb1⟩
  have hB : Below w.heap.size w w1 := then_ (by repeat (first | with_reducible exact Below.refl _ _ | with_reducible assumption | refine Below.alloc ?_ (by first | omega | (simp; done) | (simp; omega)) _ | refine Below.setCell ?_ (by first | omega | (simp; done) | (simp; omega)) _ | refine Below.drew ?_ | refine below_drewN ?_ _ | exact Below.refl _ _ | assumption)) hb1 (by first | omega | (simp; done) | (simp; omega))
  go_wp2_with fail
  go_ret
  exact ⟨rfl, hB⟩
end Go.Proofs.YtmjmjloiblbhcaaDoor
