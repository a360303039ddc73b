/- Policies read of texts in the reference; each contract says for which arguments. -/
import Derived.Test.YtlhhdpjnoainiabDoorC14
import Derived.Deep.AppendLies
namespace Go.Proofs.YtlhhdpjnoainiabDoor
open Go.RowKit
set_option maxRecDepth 100000
set_option maxHeartbeats 1000000
theorem ParsePolicy_s (nm t : ByteArray) (w : World) (ht : t.size < 4294967281) (hnm : nm.size ≤ 9223372036854775806) :
    Calls Tryd.prog 45 #[.string nm, .string t] w (RetPP nm t w) := by
  have hln := linesT_length t
  have hpl := prt_length_le 10 t
  have HLG := hide (fun k h h2 => linesT_get t k h : ∀ k (h : k < (linesT t).length) (h2 : k < (prt 10 t).length), (linesT t)[k]'h = (prt 10 t)[k]'h2)
  have HBAD := hide fun (k : Nat) (hk : k < (linesT t).length) (h : ruleOf ((linesT t)[k]'hk) = none) => parP_line (nm := nm) hk h
  have HALL := hide fun (h : ∀ k (hk : k < (linesT t).length), (ruleOf ((linesT t)[k]'hk)).isSome = true) => parP_all (nm := nm) h
  have HRT := hide fun (k : Nat) (h : k < (linesT t).length) => rulesT_take h
  have HRL := hide (rulesT_length t)
  have HRZ := hide (rules_size (t := t))
  have HZ := hide fun (k : Nat) (h : k < (prt 10 t).length) => prt_size (List.getElem_mem h)
  have HNM := hide hnm
  by_cases h26 : 2600 < t.size
  · have HNO := hide (parP_size (nm := nm) h26)
    go_enter Tryd.func45, Tryd.ntmps45
    go_wp2_with fail
    refine bodyPost_ret (v := .tuple #[.agg #[.string ⟨#[]⟩, .slice none 0 0], .bool false]) (by simp [results, Tryd.results45, go_sem]) rfl ?_
    exact RetPP.no HNO.out (by repeat (first | with_reducible exact Below.refl _ _ | with_reducible assumption | refine Below.alloc ?_ (by first | omega | (simp; done) | (simp; omega)) _ | refine Below.setCell ?_ (by first | omega | (simp; done) | (simp; omega)) _ | refine Below.drew ?_ | refine below_drewN ?_ _ | exact Below.refl _ _ | assumption))
  have HSP := hide fun (W : World) => l01Parts_c t 10 W ht
  have HT := hide ht
  go_enter Tryd.func45, Tryd.ntmps45
  go_wp2_with fail
  refine (HSP.out _).mono ?_
  rintro e w1 ⟨A1, c1, rfl, hc1, hown1, hb1⟩
  have hs1 := hb1.size
  simp only [World.size_alloc] at hs1
  obtain ⟨bl, rfl, hbl⟩ := own_some hown1 (by omega)
  simp only [World.size_alloc] at hbl
  have hbl2 := (own_base hown1).2
  have HR1 : Hid (Blk w1 w.heap.size 38 #[.string ⟨#[]⟩, .slice none 0 0]) := ((Blk.new w 38 #[.string ⟨#[]⟩, .slice none 0 0]).alloc _).below hb1 (by simp; omega)
  have HP1 : Hid (Blk w1 (w.heap.size + 1) 38 #[.string nm, .slice none 0 0]) := (Blk.new1 w _ 38 #[.string nm, .slice none 0 0]).below hb1 (by simp)
  have HB1 : Hid (Below w.heap.size w w1) := then_ (B := w.heap.size) (by repeat (first | with_reducible exact Below.refl _ _ | with_reducible assumption | refine Below.alloc ?_ (by first | omega | (simp; done) | (simp; omega)) _ | refine Below.setCell ?_ (by first | omega | (simp; done) | (simp; omega)) _ | refine Below.drew ?_ | refine below_drewN ?_ _ | exact Below.refl _ _ | assumption)) hb1 (by simp; omega)
  have HRD := hide (own_rd hown1)
  clear hb1 hown1
  go_wp2_with fail
  go_loopw [8] (fun iv wr => ∃ (k : Nat) (A3 : Option Addr) (c3 : Nat), k ≤ (linesT t).length ∧ iv = .int .i64 (k : Int) ∧ k ≤ c3 ∧ wr.ownsRow w1.heap.size 43 2 (.slice A3 k c3) k (rC ((rulesT t).take k)) ∧ Blk wr (w.heap.size + 1) 38 #[.string nm, .slice A3 k c3] ∧ Tc (fun x => x = w.heap.size + 1) w1 wr ∧ (∀ j (hj : j < (linesT t).length), j < k → (ruleOf (linesT t)[j]).isSome = true)) (fun iv _ => (linesT t).length - (intOf iv).toNat)
  case atStart => exact ⟨0, none, 0, by omega, rfl, Nat.le_refl _, World.ownsRow_nil _ _ _ _, HP1.out, Tc.refl _ _, fun j _ h => by omega⟩
  case round =>
    obtain ⟨k, A3, c3, hk, rfl, hkc, ho3, hp3, ht3, hall⟩ := hrel
    have HOW := hide ho3
    have HPW := hide hp3
    have HTW := hide ht3
    have HAL := hide hall
    have HBW : Hid (Below w.heap.size w wr) := ht3.below HB1.out (by omega) (fun x hx => by omega)
    have HRW : Hid (Blk wr w.heap.size 38 #[.string ⟨#[]⟩, .slice none 0 0]) := ht3.blk HR1.out (by omega)
    have hsr := ht3.size
    by_cases hlt : k < (linesT t).length
    · have hlt' : (k : Int) < ((prt 10 t).length : Int) - 1 := by omega
      obtain ⟨_, hl0, hcell0⟩ := HRD.out.strAt (k := k) (by omega)
      have hcell : wr.cell? ⟨bl, k, none⟩ = some (.string (prt 10 t)[k]) := (World.cell?_of_block (ht3.block bl hbl2 (by omega))).trans hcell0
      have hsz := HZ.out k (by omega)
      have hlk := HLG.out k hlt (by omega)
      have HPA := hide (l01Parts_c (prt 10 t)[k] 32 wr (by have := HT.out; omega))
      have HNONE : Hid (ruleOf (prt 10 t)[k] = none → parP nm t = false) := fun h => HBAD.out k hlt (by rw [hlk]; exact h)
      have HROF : Hid (ruleOf (linesT t)[k] = ruleOf (prt 10 t)[k]) := by show _ = _; rw [hlk]
      clear hcell0 ho3 hp3 ht3 hall hlk hsz
      by_cases h2 : (prt 32 (prt 10 t)[k]).length = 2
      · obtain ⟨g, s2, he⟩ : ∃ g s2, prt 32 (prt 10 t)[k] = [g, s2] := by
          generalize prt 32 (prt 10 t)[k] = ps at h2
          match ps, h2 with
          | [g, s2], _ => exact ⟨g, s2, rfl⟩
        have hru := ruleOf_two he
        rw [he] at HPA
        have HRU := hide hru
        have HC := hide hcell
        clear hru h2 he
        go_wp2_with fail
        refine HPA.out.mono ?_
        rintro e w4 ⟨A4, c4, rfl, hc4, hown4, hb4⟩
        obtain ⟨b4, rfl, hb4lo⟩ := own_some hown4 (by simp)
        obtain ⟨hb4hi, _, hg0⟩ := (own_rd hown4).strAt (k := 0) (by simp)
        obtain ⟨_, _, hs0⟩ := (own_rd hown4).strAt (k := 1) (by simp)
        replace hg0 : w4.cell? ⟨b4, 0, none⟩ = some (.string g) := hg0
        replace hs0 : w4.cell? ⟨b4, 1, none⟩ = some (.string s2) := hs0
        have HB4 := hide hb4
        have HG0 := hide hg0
        clear hown4 hb4 hcell hg0
        have hlen2 : [g, s2].length = 2 := rfl
        go_wp2_with fail
        refine (ParseCaps_s s2 _).mono ?_
        rintro e w6 ⟨rfl, hb6⟩
        have HB6 := hide (then_ HB4.out hb6 HB4.out.size)
        have hg6 := cell_oldB HG0.out hb6 hb4hi
        have hbw6 := Nat.lt_of_lt_of_le hb4hi hb6.size
        generalize parseB s2 = Q at HRU ⊢
        obtain ⟨cap, okk⟩ := Q
        clear hs0 hb6
        cases okk
        · have HNO : Hid (parP nm t = false) := HNONE.out (by rw [HRU.out]; rfl)
          have HBW := hide (then_ HBW.out HB6.out HBW.out.size)
          have HRW := hide (HRW.out.below HB6.out HRW.out.lt)
          clear hg6
          have hrw := HRW.out
          have hlw := hrw.lt
          have qR := hrw.cell
          have fR := hrw.frozen
          have HRX := hide ((hrw.set' 0 (.string ⟨#[]⟩)).set' 1 (.slice none 0 0))
          clear hrw
          go_wp2_with fail
          have qS : ∀ i, ((w6.setCell ⟨w.heap.size, 0, none⟩ (.string ⟨#[]⟩)).setCell ⟨w.heap.size, 1, none⟩ (.slice none 0 0)).cell? ⟨w.heap.size, i, none⟩ = (#[.string ⟨#[]⟩, .slice none 0 0] : Array Value)[i]? := HRX.out.cell
          refine bodyPost_ret (v := .tuple #[.agg #[.string ⟨#[]⟩, .slice none 0 0], .bool false]) (by simp [results, Tryd.results45, go_sem, qS]) rfl ?_
          exact RetPP.no HNO.out ((HBW.out.setCell (Nat.le_refl _) _).setCell (Nat.le_refl _) _)
        · have HP6 := hide (HPW.out.below HB6.out HPW.out.lt)
          have HO6 := hide (own_below HOW.out HB6.out)
          have HT6 := hide (HTW.out.grow HB6.out hsr)
          have q6 : w6.cell? ⟨w.heap.size + 1, 1, none⟩ = some (.slice A3 k c3) := HP6.out.cell 1
          have fp6 := HP6.out.frozen
          have hlp := HP6.out.lt
          have hs6 := HB6.out.size
          have hsome : ruleOf (linesT t)[k] = some (g, (cap : Int)) := by rw [HROF.out, HRU.out]; rfl
          have HKT : Hid (rC ((rulesT t).take (k + 1)) = rC ((rulesT t).take k) ++ [.string g, .int .i64 (cap : Int)]) := by
            show _ = _
            rw [HRT.out k hlt, rC_append, ruleD_of hsome]; rfl
          have HIS : Hid (∀ j (hj : j < (linesT t).length), j < k + 1 → (ruleOf (linesT t)[j]).isSome = true) := fun j hj hjk => by
            by_cases e : j = k
            · subst e; rw [hsome]; rfl
            · exact HAL.out j hj (by omega)
          have qa : (w6.drew.alloc (.cells #[.string g, .int .i64 (cap : Int)] 43)).cell? ⟨w.heap.size + 1, 1, none⟩ = some (.slice A3 k c3) := cell_al (w := w6.drew) q6 hlp _
          have hcap : k ≤ 2601 := by omega
          clear hsome
          go_wp2_with fail
          go_region_law (refine step_push w6.drew (by rfl) (.tmp 49) (.tmp 55) 36 (by rfl) w1.heap.size 43 (.agg #[.string ⟨#[]⟩, .int .i64 0]) 2 24 Tryd.underlying36 info_r rfl (by omega) A3 k c3 _ [.string g, .int .i64 (cap : Int)] (by rfl) HO6.out (by rfl) rfl (by simp [Value.oneCell']) (by omega) (by omega) (by show w1.heap.size ≤ w6.heap.size; omega) ?_; intro A9 c9 w9 hc9 hown9 hg9 _; have hb90 := grown_below (wr := w6.drew) HO6.out hg9 (by show w1.heap.size ≤ w6.heap.size; omega); have hb9 : Below w1.heap.size w6 w9 := ⟨hb90.os, hb90.tape, hb90.output, hb90.size, hb90.block⟩; have HP9 := HP6.out.below hb9 (by omega); have cz := HP9.cell; have fz := HP9.frozen)
          all_goals
            have HO9 := hide hown9
            have HB9 := hide hb9
            have HPX := hide HP9
            clear hown9 hb9 hb90 hg9 HP9 cz fz qa q6 hg6
            try go_wp2_with fail
            refine ⟨⟨k + 1, A9, c9, by omega, by go_num, hc9, ?_, HPX.out.set' 1 _, (HT6.out.grow HB9.out (Nat.le_refl _)).set (.inl rfl) _, HIS.out⟩, by simp [intOf]; omega⟩
            rw [HKT.out]
            exact ownsRow_setCell_below HO9.out (by show w.heap.size + 1 < w1.heap.size; omega) _
      · have h2' : (((prt 32 (prt 10 t)[k]).length : Int) == 2) = false := beq_eq_false_iff_ne.2 (by omega)
        have HNO := hide (HNONE.out (ruleOf_len h2))
        clear h2
        go_wp2_with fail
        refine HPA.out.mono ?_
        rintro e w4 ⟨A4, c4, rfl, hc4, hown4, hb4⟩
        have HBW := hide (then_ HBW.out hb4 HBW.out.size)
        have HRW := hide (HRW.out.below hb4 HRW.out.lt)
        clear hown4 hb4 hcell
        have hrw := HRW.out
        have hlw := hrw.lt
        have qR := hrw.cell
        have fR := hrw.frozen
        have HRX := hide ((hrw.set' 0 (.string ⟨#[]⟩)).set' 1 (.slice none 0 0))
        clear hrw
        go_wp2_with fail
        have qS : ∀ i, ((w4.setCell ⟨w.heap.size, 0, none⟩ (.string ⟨#[]⟩)).setCell ⟨w.heap.size, 1, none⟩ (.slice none 0 0)).cell? ⟨w.heap.size, i, none⟩ = (#[.string ⟨#[]⟩, .slice none 0 0] : Array Value)[i]? := HRX.out.cell
        refine bodyPost_ret (v := .tuple #[.agg #[.string ⟨#[]⟩, .slice none 0 0], .bool false]) (by simp [results, Tryd.results45, go_sem, qS]) rfl ?_
        exact RetPP.no HNO.out ((HBW.out.setCell (Nat.le_refl _) _).setCell (Nat.le_refl _) _)
    · have hkl : k = (linesT t).length := by omega
      have hge : ¬ (k : Int) < ((prt 10 t).length : Int) - 1 := by omega
      have htk : (rulesT t).take k = rulesT t := List.take_of_length_le (by rw [HRL.out]; omega)
      rw [htk] at HOW
      have HKL : Hid (k = (rulesT t).length) := by show k = _; rw [HRL.out]; omega
      have hpa := HALL.out fun j hj => HAL.out j hj (by omega)
      have qP := HPW.out.cell
      have hz : ∀ x ∈ rulesT t, x.1.size < 4294967281 := fun x hx => by have := HRZ.out x hx; have := HT.out; omega
      have CI := PolicyText_s nm A3 c3 (rulesT t) wr (by rw [← HKL.out]; exact own_rd HOW.out) hz HNM.out
      rw [← HKL.out] at CI
      have CI := hide CI
      have hpt := fun h : polB nm (rulesT t) = true => polT_ok h
      have HPT := hide hpt
      clear ho3 hp3 ht3 hall htk hkl hpt
      go_wp2_with fail
      refine CI.out.mono ?_
      rintro e w7 ⟨rfl, hb7⟩
      have HBW := hide (then_ HBW.out hb7 HBW.out.size)
      have HRW := hide (HRW.out.below hb7 HRW.out.lt)
      have HPW := hide (HPW.out.below hb7 HPW.out.lt)
      have HOW := hide (own_below HOW.out hb7)
      have hs7 := hb7.size
      clear hb7 qP
      cases hpb : polB nm (rulesT t)
      · have HNO : Hid (parP nm t = false) := by show _ = _; rw [hpa, hpb]; rfl
        clear hpa hpb
        have hrw := HRW.out
        have hlw := hrw.lt
        have qR := hrw.cell
        have fR := hrw.frozen
        have HRX := hide ((hrw.set' 0 (.string ⟨#[]⟩)).set' 1 (.slice none 0 0))
        clear hrw
        go_wp2_with fail
        have qS : ∀ i, ((w7.setCell ⟨w.heap.size, 0, none⟩ (.string ⟨#[]⟩)).setCell ⟨w.heap.size, 1, none⟩ (.slice none 0 0)).cell? ⟨w.heap.size, i, none⟩ = (#[.string ⟨#[]⟩, .slice none 0 0] : Array Value)[i]? := HRX.out.cell
        refine bodyPost_ret (v := .tuple #[.agg #[.string ⟨#[]⟩, .slice none 0 0], .bool false]) (by simp [results, Tryd.results45, go_sem, qS]) rfl ?_
        exact RetPP.no HNO.out ((HBW.out.setCell (Nat.le_refl _) _).setCell (Nat.le_refl _) _)
      · rw [HPT.out hpb]
        have HPA : Hid (parP nm t = decide (textB (rulesT t) = t)) := by show _ = _; rw [hpa, hpb]; rfl
        clear hpa hpb
        by_cases hte : textB (rulesT t) = t
        · have heq : ((textB (rulesT t)).toList == t.toList) = true := by rw [hte]; simp
          have HOK : Hid (parP nm t = true) := by show _ = _; rw [HPA.out]; exact decide_eq_true hte
          clear hte
          generalize textB (rulesT t) = T at heq ⊢
          have hrw := HRW.out
          have hlw := hrw.lt
          have qR := hrw.cell
          have fR := hrw.frozen
          have qP := HPW.out.cell
          have HRX := hide ((hrw.set' 0 (.string nm)).set' 1 (.slice A3 k c3))
          clear hrw
          go_wp2_with fail
          have qS : ∀ i, ((w7.setCell ⟨w.heap.size, 0, none⟩ (.string nm)).setCell ⟨w.heap.size, 1, none⟩ (.slice A3 k c3)).cell? ⟨w.heap.size, i, none⟩ = (#[.string nm, .slice A3 k c3] : Array Value)[i]? := HRX.out.cell
          refine bodyPost_ret (v := .tuple #[.agg #[.string nm, .slice A3 k c3], .bool true]) (by simp [results, Tryd.results45, go_sem, qS]) rfl ?_
          exact RetPP.ok (HOK.out) HKL.out hkc (own_mono (ownsRow_setCell_below (ownsRow_setCell_below HOW.out (by show w.heap.size < w1.heap.size; omega) _) (by show w.heap.size < w1.heap.size; omega) _) (by omega)) ((HBW.out.setCell (Nat.le_refl _) _).setCell (Nat.le_refl _) _)
        · have heq : ((textB (rulesT t)).toList == t.toList) = false := by
            rw [beq_eq_false_iff_ne, ne_eq]
            intro e
            rw [toL', toL'] at e
            exact hte (ext_data e)
          have HNO : Hid (parP nm t = false) := by show _ = _; rw [HPA.out]; exact decide_eq_false hte
          clear hte
          generalize textB (rulesT t) = T at heq ⊢
          have hrw := HRW.out
          have hlw := hrw.lt
          have qR := hrw.cell
          have fR := hrw.frozen
          have HRX := hide ((hrw.set' 0 (.string ⟨#[]⟩)).set' 1 (.slice none 0 0))
          clear hrw
          go_wp2_with fail
          have qS : ∀ i, ((w7.setCell ⟨w.heap.size, 0, none⟩ (.string ⟨#[]⟩)).setCell ⟨w.heap.size, 1, none⟩ (.slice none 0 0)).cell? ⟨w.heap.size, i, none⟩ = (#[.string ⟨#[]⟩, .slice none 0 0] : Array Value)[i]? := HRX.out.cell
          refine bodyPost_ret (v := .tuple #[.agg #[.string ⟨#[]⟩, .slice none 0 0], .bool false]) (by simp [results, Tryd.results45, go_sem, qS]) rfl ?_
          exact RetPP.no HNO.out ((HBW.out.setCell (Nat.le_refl _) _).setCell (Nat.le_refl _) _)
end Go.Proofs.YtlhhdpjnoainiabDoor
